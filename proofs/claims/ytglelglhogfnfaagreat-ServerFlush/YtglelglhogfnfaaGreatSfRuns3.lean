/- ServerFlush: what it asks first is so; the runs of one tag. -/
import Derived.Test.YtglelglhogfnfaaGreatSfBase
namespace Go.Proofs.YtglelglhogfnfaaGreat.runs
open Go.Ab

theorem knows : okRet ((Ms.lv Tryz.prog E0 100000).callF 4 [] none St.none) = true := by kernel_rfl
theorem runET : run tabE [S 0, S 0, T] = true := by kernel_rfl
theorem runEF : run tabE [S 0, S 0, F] = true := by kernel_rfl

end Go.Proofs.YtglelglhogfnfaaGreat.runs
