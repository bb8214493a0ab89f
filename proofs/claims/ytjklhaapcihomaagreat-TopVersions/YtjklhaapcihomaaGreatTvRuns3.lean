/- TopVersions: what it asks first is so. -/
import Derived.Test.YtjklhaapcihomaaGreatTvBase
namespace Go.Proofs.YtjklhaapcihomaaGreat.runs
open Go.Ab

theorem knows : okRet ((Ms.lv Tryz.prog (envOf Tryz.prog 450 307 (fun _ _ => none) noKeq fun _ _ => none) 100000).callF 4 [] none St.none) = true := by kernel_rfl

end Go.Proofs.YtjklhaapcihomaaGreat.runs
