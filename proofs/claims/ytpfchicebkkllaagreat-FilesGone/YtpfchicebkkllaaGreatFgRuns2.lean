/- FilesGone: the runs for the remainders 2 and 3. -/
import Derived.Test.YtpfchicebkkllaaGreatFgBase
namespace Go.Proofs.YtpfchicebkkllaaGreat.runs
open Go.Ab

theorem run2ab : run (tab 2) [S 0, S 1, S 2] = true := by kernel_rfl
theorem run2b : run (tab 2) [E, S 1, S 2] = true := by kernel_rfl
theorem run2a : run (tab 2) [S 0, E, S 2] = true := by kernel_rfl
theorem run2 : run (tab 2) [E, E, S 2] = true := by kernel_rfl
theorem run3ab : run (tab 3) [S 0, S 1, S 2] = true := by kernel_rfl
theorem run3b : run (tab 3) [E, S 1, S 2] = true := by kernel_rfl
theorem run3a : run (tab 3) [S 0, E, S 2] = true := by kernel_rfl
theorem run3 : run (tab 3) [E, E, S 2] = true := by kernel_rfl

end Go.Proofs.YtpfchicebkkllaaGreat.runs
