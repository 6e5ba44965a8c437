/- The closed facts of the law FnVolumeUses, by the kernel. -/
import Derived.Test.YtpldhlpegpgmcaaDoorR0
import Derived.Test.YtpldhlpegpgmcaaDoorR6
namespace Go.Proofs.YtpldhlpegpgmcaaDoor.fnVolumeUses
open Go.ChangeShapes Go.WideShapes Go.ChangeAt Go.RowKit Go.Sf
theorem and_parts {a b : Bool} (h : a = true) (k : b = true) : (a && b) = true := by rw [h, k]; rfl
set_option maxRecDepth 100000 in
set_option maxHeartbeats 20000000 in
theorem closed : joinedFacts Tryd.pinned.checked.prog 4 Tryd.f4 (OpenSpec.ofChange Rows.fnVolumeUsesSpec).bare Rows.fnVolumeUsesRow = true := by
  show joinedFacts Tryd.prog 4 Tryd.f4 (OpenSpec.ofChange Rows.fnVolumeUsesSpec).bare Rows.fnVolumeUsesRow = true
  unfold joinedFacts
  rw [mayEnter_is, lifts_cut cut, make_cut cut]
  repeat' (with_reducible refine and_parts ?_ ?_)
  all_goals (as_aux_lemma => kernel_rfl)
end Go.Proofs.YtpldhlpegpgmcaaDoor.fnVolumeUses
