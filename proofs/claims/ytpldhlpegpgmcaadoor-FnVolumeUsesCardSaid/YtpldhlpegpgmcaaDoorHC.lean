/- What holds of valid volumes, plain: uses are counted, blocks are there, what is loaded is a file. -/
import Derived.Test.YtpldhlpegpgmcaaDoorGU
import Derived.Test.YtpldhlpegpgmcaaDoorGS
import Derived.Test.YtpldhlpegpgmcaaDoorGY
/-! What holds of valid volumes, plain: uses are counted, blocks are there, what is loaded is a file. -/
namespace Go.Sf
open Go Go.RowKit
theorem volOk_iff {s : List Hd} {t : List It} : volOk s t = true ↔ storeOk s = true ∧ treeOk t = true ∧ filesFit s t = true ∧ usesFit s t = true := by
  unfold volOk; simp only [Bool.and_eq_true]
theorem usesFit_iff {s : List Hd} {t : List It} : usesFit s t = true ↔ ∀ h, h ∈ s → (cntT h.id t : Int) = h.uses := by
  unfold usesFit; simp only [List.all_eq_true, eqb_iff]
theorem filesFit_iff {s : List Hd} {t : List It} : filesFit s t = true ↔ ∀ x, x ∈ t → IdsFit s x.ids := by
  unfold filesFit; simp only [List.all_eq_true, idsFit_iff]
theorem cntT_cons (i : Int) (x : It) (t : List It) : cntT i (x :: t) = cntI i x.ids + cntT i t := by simp [cntT]
/-! ### each use has its place -/
def usesSum (s : List Hd) : Int := (s.map (·.uses)).sum
def idsLen (t : List It) : Nat := (t.map fun x => x.ids.length).sum
def allIds (t : List It) : List Int := t.flatMap (·.ids)
theorem sum_add (s : List Hd) (f g : Hd → Nat) : (s.map fun h => f h + g h).sum = (s.map f).sum + (s.map g).sum := by
  induction s with
  | nil => rfl
  | cons x s ih => simp only [List.map_cons, List.sum_cons, ih]; omega
theorem none_of {i : Int} {s : List Hd} (h : ∀ x, x ∈ s → x.id ≠ i) : (s.map fun x => if i = x.id then 1 else 0).sum = 0 := by
  induction s with
  | nil => rfl
  | cons x s ih =>
    rw [List.map_cons, List.sum_cons, if_neg fun e => h x List.mem_cons_self e.symm, ih fun y hy => h y (List.mem_cons_of_mem _ hy)]
theorem one_of {i : Int} {s : List Hd} (hp : s.Pairwise fun a b => a.id ≠ b.id) (h : ∃ x, x ∈ s ∧ x.id = i) : (s.map fun x => if i = x.id then 1 else 0).sum = 1 := by
  induction s with
  | nil => obtain ⟨x, hx, -⟩ := h; cases hx
  | cons x s ih =>
    rw [List.pairwise_cons] at hp
    rw [List.map_cons, List.sum_cons]
    by_cases e : x.id = i
    · rw [if_pos e.symm, none_of fun y hy => by have := hp.1 y hy; rw [e] at this; exact fun q => this q.symm]
    · obtain ⟨y, hy, hyi⟩ := h
      rcases List.mem_cons.1 hy with rfl | hy
      · exact absurd hyi e
      · rw [if_neg fun q => e q.symm, ih hp.2 ⟨y, hy, hyi⟩]
theorem cnt_sum {s : List Hd} (hp : s.Pairwise fun a b => a.id ≠ b.id) : ∀ L : List Int, (∀ i, i ∈ L → ∃ x, x ∈ s ∧ x.id = i) → (s.map fun h => cntI h.id L).sum = L.length := by
  intro L
  induction L with
  | nil =>
    intro _
    have : ∀ s : List Hd, (s.map fun h => cntI h.id []).sum = 0 := fun s => by
      induction s with
      | nil => rfl
      | cons x s ih => rw [List.map_cons, List.sum_cons, ih]; rfl
    simpa using this s
  | cons i L ih =>
    intro h
    have e : (s.map fun h => cntI h.id (i :: L)) = s.map fun h => cntI h.id L + if i = h.id then 1 else 0 := by
      refine List.map_congr_left fun x _ => ?_
      rw [cntI_cons]
    rw [e, sum_add, ih fun j hj => h j (List.mem_cons_of_mem _ hj), one_of hp (h i List.mem_cons_self), List.length_cons]
theorem cntI_app (i : Int) (a b : List Int) : cntI i (a ++ b) = cntI i a + cntI i b := by
  unfold cntI; rw [List.filter_append, List.length_append]
theorem cntT_all (i : Int) (t : List It) : cntT i t = cntI i (allIds t) := by
  induction t with
  | nil => rfl
  | cons x t ih =>
    rw [cntT_cons, ih]
    unfold allIds
    rw [List.flatMap_cons, cntI_app]
theorem allIds_len (t : List It) : (allIds t).length = idsLen t := by
  induction t with
  | nil => rfl
  | cons x t ih =>
    unfold allIds idsLen at *
    rw [List.flatMap_cons, List.length_append, ih, List.map_cons, List.sum_cons]
theorem ids_apart {s : List Hd} (h : StoreOk s) : s.Pairwise fun a b => a.id ≠ b.id :=
  (storeOk_set.1 h).2.2.imp fun {a b} q => by have := q.1; omega
theorem fit_ids {s : List Hd} {ids : List Int} (h : IdsFit s ids) : ∀ i, i ∈ ids → ∃ x, x ∈ s ∧ x.id = i := fun i hi => by
  obtain ⟨k, hk⟩ := List.mem_iff_getElem?.1 hi
  obtain ⟨y, hy, -⟩ := h.2 k i hk
  exact ⟨y, findH_some hy⟩
theorem uses_cast {s : List Hd} {f : Int → Nat} (h : ∀ x, x ∈ s → (f x.id : Int) = x.uses) : usesSum s = (((s.map fun x => f x.id).sum : Nat) : Int) := by
  unfold usesSum
  induction s with
  | nil => rfl
  | cons x s ih =>
    rw [List.map_cons, List.sum_cons, List.map_cons, List.sum_cons, ih fun y hy => h y (List.mem_cons_of_mem _ hy), ← h x List.mem_cons_self]
    omega
theorem vol_sum {s : List Hd} {t : List It} (hv : volOk s t = true) : usesSum s = (idsLen t : Int) := by
  obtain ⟨h1, -, h3, h4⟩ := volOk_iff.1 hv
  have hS := storeOk_iff.1 h1
  rw [uses_cast (f := fun i => cntT i t) (usesFit_iff.1 h4), ← allIds_len, ← cnt_sum (ids_apart hS) (allIds t) fun i hi => ?_]
  · congr 2
    exact List.map_congr_left fun x _ => cntT_all _ _
  · unfold allIds at hi
    rw [List.mem_flatMap] at hi
    obtain ⟨x, hx, hi⟩ := hi
    exact fit_ids (filesFit_iff.1 h3 x hx) i hi
theorem usesSum_take {s : List Hd} {k : Nat} {x : Hd} (h : s[k]? = some x) : usesSum (s.take (k + 1)) = usesSum (s.take k) + x.uses := by
  unfold usesSum
  rw [List.take_add_one, h, Option.toList_some, List.map_append, List.sum_append]; simp
theorem idsLen_take {t : List It} {k : Nat} {x : It} (h : t[k]? = some x) : idsLen (t.take (k + 1)) = idsLen (t.take k) + x.ids.length := by
  unfold idsLen
  rw [List.take_add_one, h, Option.toList_some, List.map_append, List.sum_append]; simp
theorem usesSum_low {s : List Hd} (h : ∀ x, x ∈ s → 1 ≤ x.uses ∧ x.uses ≤ 999) : 0 ≤ usesSum s ∧ usesSum s ≤ 999 * s.length := by
  unfold usesSum
  induction s with
  | nil => simp
  | cons x s ih =>
    have h1 := h x List.mem_cons_self
    have h2 := ih fun y hy => h y (List.mem_cons_of_mem _ hy)
    rw [List.map_cons, List.sum_cons, List.length_cons]
    omega
theorem idsLen_low {t : List It} (h : ∀ x, x ∈ t → x.ids.length ≤ 4) : idsLen t ≤ 4 * t.length := by
  unfold idsLen
  induction t with
  | nil => simp
  | cons x t ih =>
    have h1 := h x List.mem_cons_self
    have h2 := ih fun y hy => h y (List.mem_cons_of_mem _ hy)
    rw [List.map_cons, List.sum_cons, List.length_cons]
    omega
/-! ### what is loaded -/
end Go.Sf

/-! What a directory more, and an item less, leave of a valid volume: plain. -/
namespace Go.Sf
open Go Go.RowKit
end Go.Sf
