/- The last snapshot with a file: the reference and the program. -/
import Derived.Test.YtdnnojghjnjnfaaGreatDoorGR
import Derived.Test.YtdnnojghjnjnfaaGreatDoorHF
import Derived.Test.YtdnnojghjnjnfaaGreatDoorHG
import Derived.Test.YtdnnojghjnjnfaaGreatDoorHH
/-! The last snapshot with a file: the reference and the program. -/
namespace Go.Sf
open Go Go.RowKit Go.Proofs Go.Maps
end Go.Sf

/-! How many blocks of a disk are shared: the reference and the program. -/
namespace Go.Sf
open Go Go.RowKit Go.Proofs Go.Maps
end Go.Sf

/-! How many bytes only a snapshot has: the reference and the program. -/
namespace Go.Sf
open Go Go.RowKit Go.Proofs Go.Maps
theorem snAt_cases (l : List Sn) (p : ByteArray) : (l.find? (snIs p) = none ∧ snAt l p = -1) ∨ ∃ (i : Nat) (x : Sn), l[i]? = some x ∧ l.find? (snIs p) = some x ∧ snAt l p = (i : Int) := by
  rcases atG_find (snIs p) l 0 with h | ⟨i, x, h1, -, h3, h4, -⟩
  · exact .inl h
  · exact .inr ⟨i, x, h1, h3, by unfold snAt; rw [h4]; simp⟩
end Go.Sf
