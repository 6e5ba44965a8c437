/- The closed facts of the law FnExactChangesRun, by the kernel. -/
import Derived.Test.YtbdgpbakhjpklaaGreatDoorR0
namespace Go.Proofs.YtbdgpbakhjpklaaGreatDoor.fnExactChangesRun
open Go.ChangeShapes Go.WideShapes Go.ChangeAt Go.RowKit Go.Sf
theorem closed : joinedFacts Tryz.pinned.checked.prog 13 Tryz.f13 (OpenSpec.ofChange Rows.fnExactChangesRunSpec).bare Rows.fnExactChangesRunRow = true := by kernel_rfl
end Go.Proofs.YtbdgpbakhjpklaaGreatDoor.fnExactChangesRun
