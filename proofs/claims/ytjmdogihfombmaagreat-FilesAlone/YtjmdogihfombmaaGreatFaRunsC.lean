/- FilesAlone: one of the law's runs. -/
import Derived.Test.YtjmdogihfombmaaGreatFaRuns
namespace Go.Proofs.YtjmdogihfombmaaGreat.runs
open Go.Ab

theorem run7 : run 7 = true := by kernel_rfl
theorem run8 : run 8 = true := by kernel_rfl
theorem run9 : run 9 = true := by kernel_rfl

end Go.Proofs.YtjmdogihfombmaaGreat.runs
