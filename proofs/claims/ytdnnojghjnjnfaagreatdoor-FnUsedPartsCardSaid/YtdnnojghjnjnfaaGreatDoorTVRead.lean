/- Laws of drawn volumes: what is read is what the store has. -/
import Derived.Test.YtdnnojghjnjnfaaGreatDoorHB
import Derived.Test.YtdnnojghjnjnfaaGreatDoorHC
import Derived.Test.YtdnnojghjnjnfaaGreatDoorGS
import Derived.Test.YtdnnojghjnjnfaaGreatDoorHG
namespace Go.Sf
open Go Go.RowKit Go.Proofs
set_option maxHeartbeats 1000000 in
theorem FileLoad_c {B B' : Nat} {us v : Value} {s : List Hd} {ids : List Int} (w : World) (h : Hds B w us s) (hi : Ints B' w v ids) (hs : storeOk s = true) : Calls Tryz.prog 30 #[us, v] w (RetP (OptInts w.heap.size (loadIf s ids)) w) := by
  have HI := Lib.hid hi; have Hs := Lib.hid hs
  have Co := openStore_c w h
  obtain ⟨A, c, rfl, -⟩ := h
  obtain ⟨A2, c2, rfl, -⟩ := id hi
  clear hi hs
  go_enter Tryz.func30, Tryz.ntmps30
  go_wp2_with fail
  refine Co.mono ?_
  rintro e w1 ⟨he1, ⟨hv, -⟩ | ⟨-, b, rfl, hSt, -⟩⟩
  · rw [Hs.out] at hv; cases hv
  · have HSt := Lib.hid hSt; clear hSt
    go_wp2_with fail
    refine (loadFile_c w1 (storeOk_iff.1 Hs.out) HSt.out (HI.out.ext he1)).mono ?_
    rintro e w2 ⟨u, rfl, ⟨u2, rfl, hI⟩, he2⟩
    go_wp2
    go_ret2
    exact ⟨_, rfl, ⟨_, rfl, hI.keep he1.size (fun _ _ _ => rfl)⟩, he1.trans he2⟩
end Go.Sf
