/- The closed facts of the law FnExactTreeMove, by the kernel. -/
import Derived.Test.YtbdgpbakhjpklaaGreatDoorR0
namespace Go.Proofs.YtbdgpbakhjpklaaGreatDoor.fnExactTreeMove
open Go.ChangeShapes Go.WideShapes Go.ChangeAt Go.RowKit Go.Sf
theorem closed : joinedFacts Tryz.pinned.checked.prog 11 Tryz.f11 (OpenSpec.ofChange Rows.fnExactTreeMoveSpec).bare Rows.fnExactTreeMoveRow = true := by kernel_rfl
end Go.Proofs.YtbdgpbakhjpklaaGreatDoor.fnExactTreeMove
