/- The program's TreeValid. -/
import Derived.Test.YtbdgpbakhjpklaaGreatDoorGF
namespace Go.Sf
open Go Go.RowKit Go.Proofs
set_option maxHeartbeats 1000000 in
theorem TreeValid_c {B : Nat} {v : Value} {l : List It} (w : World) (h : Its B w v l) (hm : ML w) : Calls Tryz.prog 26 #[v] w (Ret (.bool (treeOk l)) w) := by
  have Co := openTree_c w h hm
  clear h hm
  go_enter Tryz.func26, Tryz.ntmps26
  go_wp2_with fail
  refine Co.mono ?_
  rintro e w1 ⟨he1, ⟨htr, rfl⟩ | ⟨htr, adr, kv, rfl, -⟩⟩
  · have Htr := Lib.hid htr
    clear htr Co
    go_wp2
    go_ret
    exact ⟨by rw [Htr.out]; rfl, he1⟩
  · have Htr := Lib.hid htr
    clear htr Co
    go_wp2
    go_ret
    exact ⟨by rw [Htr.out]; rfl, he1⟩
end Go.Sf
