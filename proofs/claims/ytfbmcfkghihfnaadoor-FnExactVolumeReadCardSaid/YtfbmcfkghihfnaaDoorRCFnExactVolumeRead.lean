/- The closed facts of the law FnExactVolumeRead, by the kernel. -/
import Derived.Test.YtfbmcfkghihfnaaDoorR0
namespace Go.Proofs.YtfbmcfkghihfnaaDoor.fnExactVolumeRead
open Go.ChangeShapes Go.WideShapes Go.ChangeAt Go.RowKit Go.Sf
theorem closed : joinedFacts Tryd.pinned.checked.prog 4 Tryd.f4 (OpenSpec.ofChange Rows.fnExactVolumeReadSpec).bare Rows.fnExactVolumeReadRow = true := by kernel_rfl
end Go.Proofs.YtfbmcfkghihfnaaDoor.fnExactVolumeRead
