/- FilesGone: the runs for the remainders 0 and 1. -/
import Derived.Test.YtpfchicebkkllaaGreatFgBase
namespace Go.Proofs.YtpfchicebkkllaaGreat.runs
open Go.Ab

theorem run0ab : run (tab 0) [S 0, S 1, S 2] = true := by kernel_rfl
theorem run0b : run (tab 0) [E, S 1, S 2] = true := by kernel_rfl
theorem run0a : run (tab 0) [S 0, E, S 2] = true := by kernel_rfl
theorem run0 : run (tab 0) [E, E, S 2] = true := by kernel_rfl
theorem run1ab : run (tab 1) [S 0, S 1, S 2] = true := by kernel_rfl
theorem run1b : run (tab 1) [E, S 1, S 2] = true := by kernel_rfl
theorem run1a : run (tab 1) [S 0, E, S 2] = true := by kernel_rfl
theorem run1 : run (tab 1) [E, E, S 2] = true := by kernel_rfl

end Go.Proofs.YtpfchicebkkllaaGreat.runs
