/- FilesGone: the runs for the remainders 8 and 9. -/
import Derived.Test.YtpfchicebkkllaaGreatFgBase
namespace Go.Proofs.YtpfchicebkkllaaGreat.runs
open Go.Ab

theorem run8ab : run (tab 8) [S 0, S 1, S 2] = true := by kernel_rfl
theorem run8b : run (tab 8) [E, S 1, S 2] = true := by kernel_rfl
theorem run8a : run (tab 8) [S 0, E, S 2] = true := by kernel_rfl
theorem run8 : run (tab 8) [E, E, S 2] = true := by kernel_rfl
theorem run9ab : run (tab 9) [S 0, S 1, S 2] = true := by kernel_rfl
theorem run9b : run (tab 9) [E, S 1, S 2] = true := by kernel_rfl
theorem run9a : run (tab 9) [S 0, E, S 2] = true := by kernel_rfl
theorem run9 : run (tab 9) [E, E, S 2] = true := by kernel_rfl

end Go.Proofs.YtpfchicebkkllaaGreat.runs
