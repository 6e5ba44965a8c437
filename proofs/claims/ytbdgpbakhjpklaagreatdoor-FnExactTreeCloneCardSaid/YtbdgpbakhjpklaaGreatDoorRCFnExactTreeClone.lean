/- The closed facts of the law FnExactTreeClone, by the kernel. -/
import Derived.Test.YtbdgpbakhjpklaaGreatDoorR0
namespace Go.Proofs.YtbdgpbakhjpklaaGreatDoor.fnExactTreeClone
open Go.ChangeShapes Go.WideShapes Go.ChangeAt Go.RowKit Go.Sf
theorem closed : joinedFacts Tryz.pinned.checked.prog 9 Tryz.f9 (OpenSpec.ofChange Rows.fnExactTreeCloneSpec).bare Rows.fnExactTreeCloneRow = true := by kernel_rfl
end Go.Proofs.YtbdgpbakhjpklaaGreatDoor.fnExactTreeClone
