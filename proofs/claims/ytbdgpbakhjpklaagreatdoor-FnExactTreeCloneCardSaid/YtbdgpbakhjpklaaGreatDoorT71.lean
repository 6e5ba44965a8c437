/- A tree with its ids told apart is a tree; two answers that are the same tree. -/
import Derived.Test.YtbdgpbakhjpklaaGreatDoorT49
import Derived.Test.YtbdgpbakhjpklaaGreatDoorGC
namespace Go.Sf
open Go Go.RowKit Go.Proofs
theorem same_tree {B B' : Nat} {u v : Value} {L : List It} {w : World} (h1 : Its B w u L) (h2 : Its B' w v L) : ∀ W, Ext w W → Calls Tryz.prog 17 #[u, v] W (Ret (.bool true) W) := fun W e => by
  have := laws_sameTree_c W (h1.ext e) (h2.ext e)
  rwa [show eqb L L = true from eqb_true.2 rfl] at this
theorem OptItsU.plain {B : Nat} {w : World} {o : Option (List It)} {v : Value} (h : OptItsU B o v w) : OptIts B o v w := by
  obtain ⟨u, lu, rfl, h1, h2, -⟩ := h
  exact ⟨u, rfl, by have := h2.its; rwa [h1] at this⟩
end Go.Sf
