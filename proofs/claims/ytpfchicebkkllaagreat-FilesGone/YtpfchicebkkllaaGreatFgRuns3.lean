/- FilesGone: the runs for the remainders 4 and 5. -/
import Derived.Test.YtpfchicebkkllaaGreatFgBase
namespace Go.Proofs.YtpfchicebkkllaaGreat.runs
open Go.Ab

theorem run4ab : run (tab 4) [S 0, S 1, S 2] = true := by kernel_rfl
theorem run4b : run (tab 4) [E, S 1, S 2] = true := by kernel_rfl
theorem run4a : run (tab 4) [S 0, E, S 2] = true := by kernel_rfl
theorem run4 : run (tab 4) [E, E, S 2] = true := by kernel_rfl
theorem run5ab : run (tab 5) [S 0, S 1, S 2] = true := by kernel_rfl
theorem run5b : run (tab 5) [E, S 1, S 2] = true := by kernel_rfl
theorem run5a : run (tab 5) [S 0, E, S 2] = true := by kernel_rfl
theorem run5 : run (tab 5) [E, E, S 2] = true := by kernel_rfl

end Go.Proofs.YtpfchicebkkllaaGreat.runs
