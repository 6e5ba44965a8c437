/- The closed facts of the law FnDiskText, by the kernel. -/
import Derived.Test.YtoljibhdakacjaaGreatDoorR0
import Derived.Test.YtoljibhdakacjaaGreatDoorR6
namespace Go.Proofs.YtoljibhdakacjaaGreatDoor.fnDiskText
open Go.ChangeShapes Go.WideShapes Go.ChangeAt Go.RowKit Go.Sf
theorem and_parts {a b : Bool} (h : a = true) (k : b = true) : (a && b) = true := by rw [h, k]; rfl
set_option maxRecDepth 100000 in
set_option maxHeartbeats 20000000 in
theorem closed : joinedFacts Tryz.pinned.checked.prog 8 Tryz.f8 (OpenSpec.ofChange Rows.fnDiskTextSpec).bare Rows.fnDiskTextRow = true := by
  show joinedFacts Tryz.prog 8 Tryz.f8 (OpenSpec.ofChange Rows.fnDiskTextSpec).bare Rows.fnDiskTextRow = true
  unfold joinedFacts
  rw [mayEnter_is, lifts_cut cut, make_cut cut]
  repeat' (with_reducible refine and_parts ?_ ?_)
  all_goals (as_aux_lemma => kernel_rfl)
end Go.Proofs.YtoljibhdakacjaaGreatDoor.fnDiskText
