/- FilesAlone: one of the law's runs. -/
import Derived.Test.YtjmdogihfombmaaGreatFaRuns
namespace Go.Proofs.YtjmdogihfombmaaGreat.runs
open Go.Ab

theorem run0 : run 0 = true := by kernel_rfl
theorem run1 : run 1 = true := by kernel_rfl
theorem run2 : run 2 = true := by kernel_rfl
theorem run3 : run 3 = true := by kernel_rfl

end Go.Proofs.YtjmdogihfombmaaGreat.runs
