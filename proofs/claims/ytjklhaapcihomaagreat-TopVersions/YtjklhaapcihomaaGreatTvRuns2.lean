/- TopVersions: the runs for a wrong version. -/
import Derived.Test.YtjklhaapcihomaaGreatTvBase
namespace Go.Proofs.YtjklhaapcihomaaGreat.runs
open Go.Ab

theorem runLoF : run tabLo [S 0, F] = true := by kernel_rfl
theorem runMidF : run tabMid [S 0, F] = true := by kernel_rfl
theorem runHiF : run tabHi [S 0, F] = true := by kernel_rfl

end Go.Proofs.YtjklhaapcihomaaGreat.runs
