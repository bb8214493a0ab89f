/- ServerFlush: a run of two tags. -/
import Derived.Test.YtglelglhogfnfaaGreatSfBase
namespace Go.Proofs.YtglelglhogfnfaaGreat.runs
open Go.Ab

theorem run2 : run tab [S 0, S 1, F] = true := by kernel_rfl

end Go.Proofs.YtglelglhogfnfaaGreat.runs
