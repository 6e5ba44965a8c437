/- The exact law of ChangesOf. -/
import Derived.Test.YtbdgpbakhjpklaaGreatDoorGM
namespace Go.Sf
open Go Go.RowKit Go.Proofs
theorem sum_le {α : Type} (f : α → Nat) (b : Nat) (l : List α) (h : ∀ x, x ∈ l → f x ≤ b) : (l.map f).sum ≤ l.length * b := by
  induction l with
  | nil => simp
  | cons a l ih =>
    have h1 := h a (by simp)
    have h2 := ih fun x hx => h x (by simp [hx])
    rw [List.map_cons, List.sum_cons, List.length_cons, Nat.add_mul, Nat.one_mul]
    omega
theorem ItsU.cost {B : Nat} {w : World} {v : Value} {l : List (It × Value)} (h : ItsU B w v l) : cIts (l.map Prod.fst) ≤ 100000000000000 := by
  obtain ⟨A, c, -, -, -, hl, he⟩ := h
  unfold cIts
  have := sum_le wIt 5000000 (l.map Prod.fst) fun x hx => by
    obtain ⟨q, hq, rfl⟩ := List.mem_map.1 hx
    obtain ⟨k, hk⟩ := List.mem_iff_getElem?.1 hq
    obtain ⟨_, _, _, -, -, -, -, -, -, -, hi⟩ := he k q hk
    have := hi.len
    unfold lim at this; unfold wIt; omega
  rw [List.length_map] at this
  unfold lim at hl
  have h2 : l.length * 5000000 ≤ 4194304 * 5000000 := Nat.mul_le_mul_right _ hl
  omega
theorem ChsU.cost {B : Nat} {w : World} {v : Value} {l : List (Ch × Value)} (h : ChsU B w v l) : cChs (l.map Prod.fst) ≤ 100000000000000 := by
  obtain ⟨A, c, -, -, -, hl, he⟩ := h
  unfold cChs
  have := sum_le wCh 5000000 (l.map Prod.fst) fun x hx => by
    obtain ⟨q, hq, rfl⟩ := List.mem_map.1 hx
    obtain ⟨k, hk⟩ := List.mem_iff_getElem?.1 hq
    obtain ⟨_, _, _, -, -, -, -, -, -, -, -, -, hi⟩ := he k q hk
    have := hi.len
    unfold lim at this; unfold wCh; omega
  rw [List.length_map] at this
  unfold lim at hl
  have h2 : l.length * 5000000 ≤ 4194304 * 5000000 := Nat.mul_le_mul_right _ hl
  omega
theorem bk_len (l : List It) : l.length ≤ bkIts l := by unfold bkIts; omega
end Go.Sf
