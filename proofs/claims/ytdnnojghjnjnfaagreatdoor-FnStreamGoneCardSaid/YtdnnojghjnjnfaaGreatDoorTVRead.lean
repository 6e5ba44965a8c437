/- Laws of drawn volumes: what is read is what the store has. -/
import Derived.Test.YtdnnojghjnjnfaaGreatDoorHB
import Derived.Test.YtdnnojghjnjnfaaGreatDoorHC
import Derived.Test.YtdnnojghjnjnfaaGreatDoorGS
import Derived.Test.YtdnnojghjnjnfaaGreatDoorHG
namespace Go.Sf
open Go Go.RowKit Go.Proofs
set_option maxHeartbeats 1000000 in
theorem implFileValid_c {B : Nat} {v : Value} {bs : List Int} (w : World) (h : Ints B w v bs) (hf : fileOk bs = true) : Calls Tryz.prog 35 #[v] w (Ret (.bool true) w) := by
  unfold fileOk at hf
  rw [Bool.and_eq_true, decide_eq_true_eq] at hf
  obtain ⟨h2, h1⟩ := hf
  have C := bytesValid_c w h
  rw [h2] at C
  have hl : (bs.length : Int) ≤ 32 := by omega
  have hl2 : ¬ (32 : Int) < (bs.length : Int) := by omega
  obtain ⟨A, c, rfl, -⟩ := h
  clear h2
  go_enter Tryz.func35, Tryz.ntmps35
  go_wp2_with (go_at_call 82; refine C.mono ?_; rintro e w1 ⟨rfl, he1⟩)
  go_ret
  exact ⟨rfl, he1⟩
end Go.Sf
