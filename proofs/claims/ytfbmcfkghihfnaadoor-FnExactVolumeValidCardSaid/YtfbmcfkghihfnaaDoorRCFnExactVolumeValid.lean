/- The closed facts of the law FnExactVolumeValid, by the kernel. -/
import Derived.Test.YtfbmcfkghihfnaaDoorR0
namespace Go.Proofs.YtfbmcfkghihfnaaDoor.fnExactVolumeValid
open Go.ChangeShapes Go.WideShapes Go.ChangeAt Go.RowKit Go.Sf
theorem closed : joinedFacts Tryd.pinned.checked.prog 3 Tryd.f3 (OpenSpec.ofChange Rows.fnExactVolumeValidSpec).bare Rows.fnExactVolumeValidRow = true := by kernel_rfl
end Go.Proofs.YtfbmcfkghihfnaaDoor.fnExactVolumeValid
