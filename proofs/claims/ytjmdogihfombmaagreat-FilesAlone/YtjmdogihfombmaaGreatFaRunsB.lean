/- FilesAlone: one of the law's runs. -/
import Derived.Test.YtjmdogihfombmaaGreatFaRuns
namespace Go.Proofs.YtjmdogihfombmaaGreat.runs
open Go.Ab

theorem run4 : run 4 = true := by kernel_rfl
theorem run5 : run 5 = true := by kernel_rfl
theorem run6 : run 6 = true := by kernel_rfl

end Go.Proofs.YtjmdogihfombmaaGreat.runs
