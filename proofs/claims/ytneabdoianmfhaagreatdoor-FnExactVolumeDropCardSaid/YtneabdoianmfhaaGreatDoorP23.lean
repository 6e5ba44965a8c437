/- A tree with an item less. -/
import Derived.Test.YtneabdoianmfhaaGreatDoorP22
namespace Go.Sf
open Go Go.RowKit
theorem erase_split {α : Type} {l : List α} {i : Nat} {x : α} (h : l[i]? = some x) : l = l.take i ++ x :: l.drop (i + 1) ∧ l.eraseIdx i = l.take i ++ l.drop (i + 1) := by
  refine ⟨?_, List.eraseIdx_eq_take_drop_succ ..⟩
  rw [← drop_cons h, List.take_append_drop]
theorem kids_in {l : List It} {i : Nat} {x : It} (h : l[i]? = some x) : kidsOf l (key x).dropLast = kidsOf (l.take i) (key x).dropLast ++ x :: kidsOf (l.drop (i + 1)) (key x).dropLast := by
  conv => lhs; rw [(erase_split h).1]
  unfold kidsOf
  rw [List.filter_append, List.filter_cons_of_pos (by simp [kin])]
theorem kids_cut {l : List It} {i : Nat} {x : It} (h : l[i]? = some x) : kidsOf (l.eraseIdx i) (key x).dropLast = (kidsOf l (key x).dropLast).eraseIdx (kidsOf (l.take i) (key x).dropLast).length := by
  rw [kids_in h, (erase_split h).2, List.eraseIdx_append_of_length_le (Nat.le_refl _), Nat.sub_self]
  unfold kidsOf
  rw [List.filter_append]; rfl
theorem kids_cut_far {l : List It} {i : Nat} {x : It} (h : l[i]? = some x) {k : Key} (hk : (key x).dropLast ≠ k) : kidsOf (l.eraseIdx i) k = kidsOf l k := by
  conv => rhs; rw [(erase_split h).1]
  rw [(erase_split h).2]
  unfold kidsOf
  rw [List.filter_append, List.filter_append, List.filter_cons_of_neg (by simp [kin, hk])]
theorem mem_erase {l : List It} (hs : Srt l) {i : Nat} {x y : It} (h : l[i]? = some x) : y ∈ l.eraseIdx i ↔ y ∈ l ∧ y.path ≠ x.path := by
  have hs' := hs
  unfold Srt at hs'
  rw [(erase_split h).1, List.pairwise_append, List.pairwise_cons] at hs'
  obtain ⟨-, ⟨h2, -⟩, h3⟩ := hs'
  rw [(erase_split h).2]
  conv => rhs; rw [(erase_split h).1]
  simp only [List.mem_append, List.mem_cons]
  constructor
  · rintro (hy | hy)
    · exact ⟨.inl hy, fun e => by have := h3 y hy x (by simp); rw [e, blt_irrefl] at this; cases this⟩
    · exact ⟨.inr (.inr hy), fun e => by have := h2 y hy; rw [e, blt_irrefl] at this; cases this⟩
  · rintro ⟨hy | rfl | hy, hne⟩
    · exact .inl hy
    · exact absurd rfl hne
    · exact .inr hy
/-- where a name of a directory stands in it -/
theorem lb_in {l : List It} (hs : Srt l) {i : Nat} {x : It} (h : l[i]? = some x) : lbB (namesOf l (key x).dropLast) (nameOf (key x)) = (kidsOf (l.take i) (key x).dropLast).length := by
  have hk := kids_in h
  have hs' := hs
  unfold Srt at hs'
  rw [(erase_split h).1, List.pairwise_append, List.pairwise_cons] at hs'
  obtain ⟨-, -, h3⟩ := hs'
  refine lbB_of (by unfold namesOf; rw [List.length_map, hk, List.length_append]; omega) (fun j nm hj hn => ?_) (fun nm hn => ?_)
  · unfold namesOf at hn
    rw [List.getElem?_map, Option.map_eq_some_iff] at hn
    obtain ⟨y, hy, rfl⟩ := hn
    rw [hk, List.getElem?_append_left hj] at hy
    have hy' := mem_kids.1 (List.mem_of_getElem? hy)
    rw [path_names hy'.2]
    exact h3 y hy'.1 x (by simp)
  · unfold namesOf at hn
    rw [List.getElem?_map, Option.map_eq_some_iff] at hn
    obtain ⟨y, hy, rfl⟩ := hn
    rw [hk, List.getElem?_append_right (Nat.le_refl _), Nat.sub_self] at hy
    injection hy with hy
    subst hy
    exact blt_irrefl _
/-- what may be dropped -/
theorem cut_ok {l : List It} (ht : treeOk l = true) {i : Nat} {x : It} (h : l[i]? = some x) : treeOk (l.eraseIdx i) = true ↔ kidsOf l (key x) = [] := by
  obtain ⟨hl, hs, hf⟩ := tree_set.1 ht
  have hx := List.mem_of_getElem? h
  rw [tree_set]
  constructor
  · rintro ⟨-, -, h3⟩
    rw [List.eq_nil_iff_forall_not_mem]
    intro y hy
    obtain ⟨hyl, hyk⟩ := mem_kids.1 hy
    have hne : y.path ≠ x.path := fun e => by
      have : key y = key x := by unfold key; rw [e]
      rw [this] at hyk
      have := congrArg List.length hyk
      have h2 := congrArg List.length (key_last (x := x))
      simp only [List.length_append, List.length_singleton] at h2
      omega
    rcases (h3 y ((mem_erase hs h).2 ⟨hyl, hne⟩)).2 with h0 | ⟨z, hz, hk, -⟩
    · rw [hyk] at h0; exact key_ne x h0
    · rw [hyk] at hk
      exact ((mem_erase hs h).1 hz).2 (key_path hk)
  · intro h0
    refine ⟨by rw [List.length_eraseIdx]; split <;> omega, hs.sublist (List.eraseIdx_sublist ..), fun y hy => ?_⟩
    obtain ⟨hyl, hne⟩ := (mem_erase hs h).1 hy
    refine ⟨(hf y hyl).1, (hf y hyl).2.imp_right fun ⟨z, hz, hk, hd⟩ => ⟨z, (mem_erase hs h).2 ⟨hz, fun e => ?_⟩, hk, hd⟩⟩
    have hzx : key z = key x := by unfold key; rw [e]
    have : y ∈ kidsOf l (key x) := mem_kids.2 ⟨hyl, by rw [← hk, hzx]⟩
    rw [h0] at this
    cases this
theorem erase_key {l : List It} (hs : Srt l) {i : Nat} {x : It} (h : l[i]? = some x) {k : Key} (hk : isKey (l.eraseIdx i) k) : isKey l k ∧ k ≠ key x := by
  rcases hk with rfl | ⟨y, hy, rfl⟩
  · exact ⟨.inl rfl, fun e => key_ne x e.symm⟩
  · obtain ⟨h1, h2⟩ := (mem_erase hs h).1 hy
    exact ⟨.inr ⟨y, h1, rfl⟩, fun e => h2 (key_path e)⟩
end Go.Sf
