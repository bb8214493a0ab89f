/- TopVersions: the runs for a right version. -/
import Derived.Test.YtjklhaapcihomaaGreatTvBase
namespace Go.Proofs.YtjklhaapcihomaaGreat.runs
open Go.Ab

theorem runLoT : run tabLo [S 0, T] = true := by kernel_rfl
theorem runMidT : run tabMid [S 0, T] = true := by kernel_rfl
theorem runHiT : run tabHi [S 0, T] = true := by kernel_rfl

end Go.Proofs.YtjklhaapcihomaaGreat.runs
