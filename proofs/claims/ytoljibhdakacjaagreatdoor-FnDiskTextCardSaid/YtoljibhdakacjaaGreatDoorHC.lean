/- What holds of valid volumes, plain: uses are counted, blocks are there, what is loaded is a file. -/
import Derived.Test.YtoljibhdakacjaaGreatDoorGU
import Derived.Test.YtoljibhdakacjaaGreatDoorGS
import Derived.Test.YtoljibhdakacjaaGreatDoorGY
/-! What holds of valid volumes, plain: uses are counted, blocks are there, what is loaded is a file. -/
namespace Go.Sf
open Go Go.RowKit
theorem volOk_iff {s : List Hd} {t : List It} : volOk s t = true ↔ storeOk s = true ∧ treeOk t = true ∧ filesFit s t = true ∧ usesFit s t = true := by
  unfold volOk; simp only [Bool.and_eq_true]
theorem usesFit_iff {s : List Hd} {t : List It} : usesFit s t = true ↔ ∀ h, h ∈ s → (cntT h.id t : Int) = h.uses := by
  unfold usesFit; simp only [List.all_eq_true, eqb_iff]
theorem filesFit_iff {s : List Hd} {t : List It} : filesFit s t = true ↔ ∀ x, x ∈ t → IdsFit s x.ids := by
  unfold filesFit; simp only [List.all_eq_true, idsFit_iff]
theorem cntT_cons (i : Int) (x : It) (t : List It) : cntT i (x :: t) = cntI i x.ids + cntT i t := by simp [cntT]
theorem cntT_pos {i : Int} {t : List It} (h : 1 ≤ cntT i t) : ∃ x, x ∈ t ∧ 1 ≤ cntI i x.ids := by
  induction t with
  | nil => simp [cntT] at h
  | cons x t ih =>
    rcases Nat.lt_or_ge (cntI i x.ids) 1 with h1 | h1
    · rw [cntT_cons] at h
      obtain ⟨y, hy, h2⟩ := ih (by omega)
      exact ⟨y, List.mem_cons_of_mem _ hy, h2⟩
    · exact ⟨x, List.mem_cons_self, h1⟩
theorem cntI_mem {i : Int} {ids : List Int} (h : 1 ≤ cntI i ids) : i ∈ ids := by
  unfold cntI at h
  obtain ⟨j, hj⟩ := List.exists_mem_of_length_pos (l := ids.filter fun j => eqb j i) (by omega)
  rw [List.mem_filter] at hj
  rw [← eqb_iff.1 hj.2]; exact hj.1
/-! ### each use has its place -/
theorem sum_add (s : List Hd) (f g : Hd → Nat) : (s.map fun h => f h + g h).sum = (s.map f).sum + (s.map g).sum := by
  induction s with
  | nil => rfl
  | cons x s ih => simp only [List.map_cons, List.sum_cons, ih]; omega
theorem none_of {i : Int} {s : List Hd} (h : ∀ x, x ∈ s → x.id ≠ i) : (s.map fun x => if i = x.id then 1 else 0).sum = 0 := by
  induction s with
  | nil => rfl
  | cons x s ih =>
    rw [List.map_cons, List.sum_cons, if_neg fun e => h x List.mem_cons_self e.symm, ih fun y hy => h y (List.mem_cons_of_mem _ hy)]
theorem one_of {i : Int} {s : List Hd} (hp : s.Pairwise fun a b => a.id ≠ b.id) (h : ∃ x, x ∈ s ∧ x.id = i) : (s.map fun x => if i = x.id then 1 else 0).sum = 1 := by
  induction s with
  | nil => obtain ⟨x, hx, -⟩ := h; cases hx
  | cons x s ih =>
    rw [List.pairwise_cons] at hp
    rw [List.map_cons, List.sum_cons]
    by_cases e : x.id = i
    · rw [if_pos e.symm, none_of fun y hy => by have := hp.1 y hy; rw [e] at this; exact fun q => this q.symm]
    · obtain ⟨y, hy, hyi⟩ := h
      rcases List.mem_cons.1 hy with rfl | hy
      · exact absurd hyi e
      · rw [if_neg fun q => e q.symm, ih hp.2 ⟨y, hy, hyi⟩]
theorem cnt_sum {s : List Hd} (hp : s.Pairwise fun a b => a.id ≠ b.id) : ∀ L : List Int, (∀ i, i ∈ L → ∃ x, x ∈ s ∧ x.id = i) → (s.map fun h => cntI h.id L).sum = L.length := by
  intro L
  induction L with
  | nil =>
    intro _
    have : ∀ s : List Hd, (s.map fun h => cntI h.id []).sum = 0 := fun s => by
      induction s with
      | nil => rfl
      | cons x s ih => rw [List.map_cons, List.sum_cons, ih]; rfl
    simpa using this s
  | cons i L ih =>
    intro h
    have e : (s.map fun h => cntI h.id (i :: L)) = s.map fun h => cntI h.id L + if i = h.id then 1 else 0 := by
      refine List.map_congr_left fun x _ => ?_
      rw [cntI_cons]
    rw [e, sum_add, ih fun j hj => h j (List.mem_cons_of_mem _ hj), one_of hp (h i List.mem_cons_self), List.length_cons]
theorem ids_apart {s : List Hd} (h : StoreOk s) : s.Pairwise fun a b => a.id ≠ b.id :=
  (storeOk_set.1 h).2.2.imp fun {a b} q => by have := q.1; omega
/-! ### what is loaded -/
end Go.Sf

/-! What a directory more, and an item less, leave of a valid volume: plain. -/
namespace Go.Sf
open Go Go.RowKit
theorem cntT_perm {t t' : List It} (h : t.Perm t') (i : Int) : cntT i t = cntT i t' := by
  unfold cntT
  exact (h.map _).sum_nat
theorem put_some {t t' : List It} {x : It} (h : treePut t x = some t') : treeOk t = true ∧ itemOk x = true ∧ mayPut t x = true ∧ treeOk t' = true ∧ t' = putIt x t := by
  unfold treePut at h
  split at h
  · next hc => cases h; exact ⟨hc.1, hc.2.1, hc.2.2.1, hc.2.2.2, rfl⟩
  · cases h
/-- blocks of a file used once less -/
theorem dropAll_find : ∀ (ids : List Int) {s : List Hd}, StoreOk s → HasUses s ids → ∃ s', dropAll s ids = some s' ∧ StoreOk s' ∧ s'.length ≤ s.length ∧
    ∀ i, findH s' i = (findH s i).bind fun h => if h.uses = (cntI i ids : Int) then none else some { h with uses := h.uses - (cntI i ids : Int) } := by
  intro ids
  induction ids with
  | nil =>
    intro s hs _
    refine ⟨s, rfl, hs, Nat.le_refl _, fun i => ?_⟩
    cases hf : findH s i with
    | none => rfl
    | some h =>
      obtain ⟨j, hj⟩ := List.mem_iff_getElem?.1 (findH_some hf).1
      have := hd_ok (hs.2 j h hj).1
      have e : cntI i [] = 0 := rfl
      rw [Option.bind_some, e, if_neg (by omega)]
      simp
  | cons j r ih =>
    intro s hs hu
    obtain ⟨k, y, hk, hy, hu'⟩ := uses_step hs hu
    obtain ⟨s', h1, h2, h3, h4⟩ := ih (dropAt_ok hs hk) hu'
    refine ⟨s', ?_, h2, Nat.le_trans h3 ?_, fun i => ?_⟩
    · show (dropId s j).bind _ = _
      rw [← hy, dropId_of hs hk]; exact h1
    · have := dropId_len (dropId_of hs hk); exact this
    · rw [h4 i, find_dropAt hs hk]
      have hyf := hs.find hk
      have hy1 := hd_ok (hs.2 k y hk).1
      by_cases e : i = y.id
      · subst e
        rw [if_pos rfl, hyf, Option.bind_some, cntI_cons, if_pos hy.symm]
        by_cases h1u : y.uses = 1
        · have hz : cntI y.id r = 0 := by
            rcases Nat.eq_zero_or_pos (cntI y.id r) with h | h
            · exact h
            · have hm := cntI_mem h
              obtain ⟨z, hz, -⟩ := hu' y.id hm
              rw [find_dropAt hs hk, if_pos rfl, if_pos h1u] at hz
              cases hz
          rw [if_pos h1u, hz, if_pos (by omega)]; rfl
        · rw [if_neg h1u, Option.bind_some]
          show (if y.uses - 1 = _ then none else some (Hd.mk _ _ _)) = _
          by_cases h2u : y.uses - 1 = (cntI y.id r : Int)
          · rw [if_pos h2u, if_pos (by omega)]
          · rw [if_neg h2u, if_neg (by omega)]
            congr 2
            show y.uses - 1 - _ = _
            omega
      · rw [if_neg e, cntI_cons, if_neg (by rw [← hy]; exact fun q => e q.symm)]
        rfl
end Go.Sf
