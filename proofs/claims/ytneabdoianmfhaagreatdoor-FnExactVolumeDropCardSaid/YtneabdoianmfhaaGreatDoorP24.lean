/- Stores that lose a use of a block. -/
import Derived.Test.YtneabdoianmfhaaGreatDoorP20
namespace Go.Sf
open Go Go.RowKit
theorem storeOk_set {l : List Hd} : StoreOk l ↔ l.length ≤ 16 ∧ (∀ h, h ∈ l → hdOk h = true) ∧ l.Pairwise fun a b => a.id < b.id ∧ a.bytes ≠ b.bytes := by
  constructor
  · intro h
    refine ⟨h.1, fun x hx => ?_, ?_⟩
    · obtain ⟨k, hk⟩ := List.mem_iff_getElem?.1 hx
      exact (h.2 k x hk).1
    · rw [List.pairwise_iff_getElem]
      intro i j hi hj hij
      have h1 := List.getElem?_eq_getElem hi
      have h2 := List.getElem?_eq_getElem hj
      obtain ⟨d, rfl⟩ : ∃ d, j = i + 1 + d := ⟨j - (i + 1), by omega⟩
      exact ⟨h.asc d i _ _ h1 h2, (h.2 _ _ h2).2.2 i _ hij h1⟩
  · rintro ⟨h1, h2, h3⟩
    rw [List.pairwise_iff_getElem] at h3
    refine ⟨h1, fun k x hx => ⟨h2 x (List.mem_of_getElem? hx), fun j y hk hy => ?_, fun j y hj hy => ?_⟩⟩
    · obtain ⟨hi, e1⟩ := List.getElem?_eq_some_iff.1 hy
      obtain ⟨hj, e2⟩ := List.getElem?_eq_some_iff.1 hx
      have := (h3 j k hi hj (by omega)).1
      rwa [e1, e2] at this
    · obtain ⟨hi, e1⟩ := List.getElem?_eq_some_iff.1 hy
      obtain ⟨hj', e2⟩ := List.getElem?_eq_some_iff.1 hx
      have := (h3 j k hi hj' hj).2
      rwa [e1, e2] at this
theorem split_at {α : Type} {l : List α} {k : Nat} {x : α} (h : l[k]? = some x) : l = l.take k ++ x :: l.drop (k + 1) := by
  obtain ⟨hk, e⟩ := List.getElem?_eq_some_iff.1 h
  rw [← e, ← List.drop_eq_getElem_cons hk, List.take_append_drop]
theorem set_split {α : Type} {l : List α} {k : Nat} {x y : α} (h : l[k]? = some x) : l.set k y = l.take k ++ y :: l.drop (k + 1) := by
  obtain ⟨hk, -⟩ := List.getElem?_eq_some_iff.1 h
  exact List.set_eq_take_append_cons_drop .. |>.trans (by rw [if_pos hk])
def lessOne (y : Hd) : Hd := { y with uses := y.uses - 1 }
theorem hdOk_less {y : Hd} (h : hdOk y = true) (h1 : y.uses ≠ 1) : hdOk (lessOne y) = true := by
  obtain ⟨a, b, c, d⟩ := hd_ok h
  simp only [hdOk, Bool.and_eq_true] at h ⊢
  refine ⟨h.1, h.2.1, ?_⟩
  have e : (lessOne y).uses = y.uses - 1 := rfl
  rw [e]
  simp [inB]
  omega
/-- a block less, or used once less -/
def dropAt (l : List Hd) (k : Nat) : List Hd := match l[k]? with
  | some h => if h.uses = 1 then l.eraseIdx k else l.set k { h with uses := h.uses - 1 }
  | none => l
theorem dropAt_ok {l : List Hd} (h : StoreOk l) {k : Nat} {y : Hd} (hy : l[k]? = some y) : StoreOk (dropAt l k) := by
  have h' := h
  rw [storeOk_set] at h ⊢
  obtain ⟨h1, h2, h3⟩ := h
  unfold dropAt
  rw [hy]
  simp only
  split
  · exact ⟨by rw [List.length_eraseIdx]; split <;> omega, fun x hx => h2 x ((List.eraseIdx_sublist ..).subset hx), h3.sublist (List.eraseIdx_sublist ..)⟩
  · next hu =>
    refine ⟨by simpa using h1, fun x hx => ?_, ?_⟩
    · rcases List.mem_or_eq_of_mem_set hx with hx | rfl
      · exact h2 x hx
      · exact hdOk_less (h2 y (List.mem_of_getElem? hy)) hu
    · rw [set_split hy]
      rw [split_at hy] at h3
      rw [List.pairwise_append, List.pairwise_cons] at h3 ⊢
      obtain ⟨p1, ⟨p2, p3⟩, p4⟩ := h3
      refine ⟨p1, ⟨fun b hb => p2 b hb, p3⟩, fun a ha b hb => ?_⟩
      rcases List.mem_cons.1 hb with rfl | hb
      · exact p4 a ha y (by simp)
      · exact p4 a ha b (by simp [hb])
theorem find_dropAt {l : List Hd} (h : StoreOk l) {k : Nat} {y : Hd} (hy : l[k]? = some y) (i : Int) :
    findH (dropAt l k) i = if i = y.id then (if y.uses = 1 then none else some (lessOne y)) else findH l i := by
  have h3 := (storeOk_set.1 h).2.2
  rw [split_at hy, List.pairwise_append, List.pairwise_cons] at h3
  obtain ⟨-, ⟨p2, -⟩, p4⟩ := h3
  have e1 : findH (l.take k) y.id = none := List.find?_eq_none.2 fun x hx => by
    have := (p4 x hx y (by simp)).1
    simp only [idIs, Bool.not_eq_true]
    exact eqb_false.2 (by omega)
  have e2 : findH (l.drop (k + 1)) y.id = none := List.find?_eq_none.2 fun x hx => by
    have := (p2 x hx).1
    simp only [idIs, Bool.not_eq_true]
    exact eqb_false.2 (by omega)
  unfold dropAt
  rw [hy]
  simp only
  by_cases hi : i = y.id
  · subst hi
    rw [if_pos rfl]
    split
    · rw [List.eraseIdx_eq_take_drop_succ]
      unfold findH at *
      rw [List.find?_append, e1, e2]; rfl
    · rw [set_split hy]
      unfold findH at *
      rw [List.find?_append, e1, List.find?_cons_of_pos (by simp [idIs, eqb_true])]; rfl
  · rw [if_neg hi]
    have hn : idIs i y = false := eqb_false.2 fun e => hi e.symm
    conv => rhs; rw [split_at hy]
    split
    · rw [List.eraseIdx_eq_take_drop_succ]
      unfold findH
      rw [List.find?_append, List.find?_append, List.find?_cons_of_neg (by simp [hn])]
    · rw [set_split hy]
      unfold findH
      rw [List.find?_append, List.find?_append, List.find?_cons_of_neg (fun hh => by have h9 : idIs i y = true := hh; rw [hn] at h9; cases h9), List.find?_cons_of_neg (by simp [hn])]
end Go.Sf
