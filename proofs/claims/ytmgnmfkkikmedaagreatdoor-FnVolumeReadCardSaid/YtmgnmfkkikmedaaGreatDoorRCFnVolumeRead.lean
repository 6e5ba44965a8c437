/- The closed facts of the law FnVolumeRead, by the kernel. -/
import Derived.Test.YtmgnmfkkikmedaaGreatDoorR0
import Derived.Test.YtmgnmfkkikmedaaGreatDoorR6
namespace Go.Proofs.YtmgnmfkkikmedaaGreatDoor.fnVolumeRead
open Go.ChangeShapes Go.WideShapes Go.ChangeAt Go.RowKit Go.Sf
theorem and_parts {a b : Bool} (h : a = true) (k : b = true) : (a && b) = true := by rw [h, k]; rfl
set_option maxRecDepth 100000 in
set_option maxHeartbeats 20000000 in
theorem closed : joinedFacts Tryz.pinned.checked.prog 5 Tryz.f5 (OpenSpec.ofChange Rows.fnVolumeReadSpec).bare Rows.fnVolumeReadRow = true := by
  show joinedFacts Tryz.prog 5 Tryz.f5 (OpenSpec.ofChange Rows.fnVolumeReadSpec).bare Rows.fnVolumeReadRow = true
  unfold joinedFacts
  rw [mayEnter_is, lifts_cut cut, make_cut cut]
  repeat' (with_reducible refine and_parts ?_ ?_)
  all_goals (as_aux_lemma => kernel_rfl)
end Go.Proofs.YtmgnmfkkikmedaaGreatDoor.fnVolumeRead
