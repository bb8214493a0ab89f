/- FilesGone: the runs for the remainders 6 and 7. -/
import Derived.Test.YtpfchicebkkllaaGreatFgBase
namespace Go.Proofs.YtpfchicebkkllaaGreat.runs
open Go.Ab

theorem run6ab : run (tab 6) [S 0, S 1, S 2] = true := by kernel_rfl
theorem run6b : run (tab 6) [E, S 1, S 2] = true := by kernel_rfl
theorem run6a : run (tab 6) [S 0, E, S 2] = true := by kernel_rfl
theorem run6 : run (tab 6) [E, E, S 2] = true := by kernel_rfl
theorem run7ab : run (tab 7) [S 0, S 1, S 2] = true := by kernel_rfl
theorem run7b : run (tab 7) [E, S 1, S 2] = true := by kernel_rfl
theorem run7a : run (tab 7) [S 0, E, S 2] = true := by kernel_rfl
theorem run7 : run (tab 7) [E, E, S 2] = true := by kernel_rfl

end Go.Proofs.YtpfchicebkkllaaGreat.runs
