/- ServerFlush: a run of two tags. -/
import Derived.Test.YtglelglhogfnfaaGreatSfBase
namespace Go.Proofs.YtglelglhogfnfaaGreat.runs
open Go.Ab

theorem run1 : run tab [S 0, S 1, T] = true := by kernel_rfl

end Go.Proofs.YtglelglhogfnfaaGreat.runs
