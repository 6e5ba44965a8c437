/- The laws of the changes of two drawn trees. -/
import Derived.Test.YtbdgpbakhjpklaaGreatDoorGG
import Derived.Test.YtbdgpbakhjpklaaGreatDoorGA
namespace Go.Sf
open Go Go.RowKit Go.Proofs
/-- the two answers are the same list -/
theorem same_true {B B' : Nat} {u v : Value} {L : List Ch} {w : World} (h1 : Chs B w u L) (h2 : Chs B' w v L) : ∀ W, Ext w W → Calls Tryz.prog 35 #[u, v] W (Ret (.bool true) W) := fun W e => by
  have := laws_sameChanges_c W (h1.ext e) (h2.ext e)
  rwa [show eqb L L = true from eqb_true.2 rfl] at this
/-- what the count leaves -/
theorem cnt_cells {w : World} {g : Nat} {a b c : Value} (h : Blk w g 3 #[a, b, c]) : (∀ W, Ext w W → W.cell? ⟨g, 0, none⟩ = some a) ∧ (∀ W, Ext w W → W.cell? ⟨g, 1, none⟩ = some b) ∧ (∀ W, Ext w W → W.cell? ⟨g, 2, none⟩ = some c) :=
  ⟨fun W e => by simpa using (h.ext e).cell 0, fun W e => by simpa using (h.ext e).cell 1, fun W e => by simpa using (h.ext e).cell 2⟩
theorem its_empty (B : Nat) (w : World) (g : Nat) : Its B w (.slice (some ⟨g, 0, none⟩) 0 0) [] := SlOf.empty _ _ _ _ _ _ _ (Nat.zero_le _) (fun _ => rfl)
end Go.Sf
