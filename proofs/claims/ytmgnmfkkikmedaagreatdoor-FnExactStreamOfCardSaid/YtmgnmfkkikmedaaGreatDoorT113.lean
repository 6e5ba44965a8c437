/- How many bytes only a snapshot has: the reference and the program. -/
import Derived.Test.YtmgnmfkkikmedaaGreatDoorT112
namespace Go.Sf
open Go Go.RowKit Go.Proofs Go.Maps
/-- a block that only files of a tree have -/
def onlyP (t : List It) (h : Hd) : Nat := if eqb (cntT h.id t : Int) h.uses = true then h.bytes.length else 0
def onlyN (s : List Hd) (t : List It) : Nat := (s.map (onlyP t)).sum
noncomputable def countOn (s : List Hd) (t : List It) (l : List Sn) (p : ByteArray) : Int :=
  if diskOk s t l = true then (match l.find? (snIs p) with | some x => (onlyN s x.tree : Int) | none => -1) else -1
theorem countOn_bad {s : List Hd} {t : List It} {l : List Sn} {p : ByteArray} (h : diskOk s t l = false) : countOn s t l p = -1 := by unfold countOn; rw [h]; rfl
theorem countOn_none {s : List Hd} {t : List It} {l : List Sn} {p : ByteArray} (h : l.find? (snIs p) = none) : countOn s t l p = -1 := by unfold countOn; rw [h]; split <;> rfl
theorem countOn_some {s : List Hd} {t : List It} {l : List Sn} {p : ByteArray} {x : Sn} (hd : diskOk s t l = true) (h : l.find? (snIs p) = some x) : countOn s t l p = (onlyN s x.tree : Int) := by unfold countOn; rw [hd, h]; rfl
theorem snAt_cases (l : List Sn) (p : ByteArray) : (l.find? (snIs p) = none ∧ snAt l p = -1) ∨ ∃ (i : Nat) (x : Sn), l[i]? = some x ∧ l.find? (snIs p) = some x ∧ snAt l p = (i : Int) := by
  rcases atG_find (snIs p) l 0 with h | ⟨i, x, h1, -, h3, h4, -⟩
  · exact .inl h
  · exact .inr ⟨i, x, h1, h3, by unfold snAt; rw [h4]; simp⟩
theorem only_take {s : List Hd} {t : List It} {k : Nat} {x : Hd} (h : s[k]? = some x) : ((s.take (k + 1)).map (onlyP t)).sum = ((s.take k).map (onlyP t)).sum + onlyP t x := by
  rw [List.take_add_one, h, Option.toList_some, List.map_append, List.sum_append]; simp
theorem sum_bd {α : Type} (f : α → Nat) (b : Nat) (l : List α) (h : ∀ x, x ∈ l → f x ≤ b) : (l.map f).sum ≤ l.length * b := by
  induction l with
  | nil => simp
  | cons x l ih =>
    have h1 := h x (by simp)
    have h2 := ih fun y hy => h y (by simp [hy])
    rw [List.map_cons, List.sum_cons, List.length_cons, Nat.succ_mul]
    omega
theorem only_le {s : List Hd} (hs : StoreOk s) (t : List It) (k : Nat) : ((s.take k).map (onlyP t)).sum ≤ 128 := by
  have h1 : ((s.take k).map (onlyP t)).sum ≤ (s.take k).length * 8 := sum_bd (onlyP t) 8 (s.take k) fun h hh => by
    obtain ⟨j, hj⟩ := List.mem_iff_getElem?.1 (List.mem_of_mem_take hh)
    have := (block_len (hd_ok (hs.2 j h hj).1).2.1).2
    unfold onlyP; split <;> omega
  have h2 : (s.take k).length ≤ 16 := Nat.le_trans (List.length_take_le' _ _) hs.1
  omega
end Go.Sf
