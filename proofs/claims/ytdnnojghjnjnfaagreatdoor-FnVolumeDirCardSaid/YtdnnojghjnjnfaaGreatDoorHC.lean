/- What holds of valid volumes, plain: uses are counted, blocks are there, what is loaded is a file. -/
import Derived.Test.YtdnnojghjnjnfaaGreatDoorGU
import Derived.Test.YtdnnojghjnjnfaaGreatDoorGS
import Derived.Test.YtdnnojghjnjnfaaGreatDoorP26
/-! What holds of valid volumes, plain: uses are counted, blocks are there, what is loaded is a file. -/
namespace Go.Sf
open Go Go.RowKit
theorem volOk_iff {s : List Hd} {t : List It} : volOk s t = true ↔ storeOk s = true ∧ treeOk t = true ∧ filesFit s t = true ∧ usesFit s t = true := by
  unfold volOk; simp only [Bool.and_eq_true]
theorem usesFit_iff {s : List Hd} {t : List It} : usesFit s t = true ↔ ∀ h, h ∈ s → (cntT h.id t : Int) = h.uses := by
  unfold usesFit; simp only [List.all_eq_true, eqb_iff]
theorem filesFit_iff {s : List Hd} {t : List It} : filesFit s t = true ↔ ∀ x, x ∈ t → IdsFit s x.ids := by
  unfold filesFit; simp only [List.all_eq_true, idsFit_iff]
theorem bool_false {b : Bool} (h : ¬ b = true) : b = false := by cases b <;> simp at h ⊢
theorem vol_more {s : List Hd} {t : List It} {h : Hd} (hv : volOk s t = true) (h0 : s[0]? = some h) : volOk (s.set 0 { h with uses := h.uses + 1 }) t = false := bool_false fun hc => by
  have h1 := (usesFit_iff.1 (volOk_iff.1 hv).2.2.2) h (List.mem_of_getElem? h0)
  have h2 := (usesFit_iff.1 (volOk_iff.1 hc).2.2.2) { h with uses := h.uses + 1 } (List.mem_of_getElem? (i := 0) (List.getElem?_set_self (lt_of_get h0)))
  simp only at h2
  omega
theorem cntT_cons (i : Int) (x : It) (t : List It) : cntT i (x :: t) = cntI i x.ids + cntT i t := by simp [cntT]
theorem cntT_pos {i : Int} {t : List It} (h : 1 ≤ cntT i t) : ∃ x, x ∈ t ∧ 1 ≤ cntI i x.ids := by
  induction t with
  | nil => simp [cntT] at h
  | cons x t ih =>
    rcases Nat.lt_or_ge (cntI i x.ids) 1 with h1 | h1
    · rw [cntT_cons] at h
      obtain ⟨y, hy, h2⟩ := ih (by omega)
      exact ⟨y, List.mem_cons_of_mem _ hy, h2⟩
    · exact ⟨x, List.mem_cons_self, h1⟩
theorem cntI_mem {i : Int} {ids : List Int} (h : 1 ≤ cntI i ids) : i ∈ ids := by
  unfold cntI at h
  obtain ⟨j, hj⟩ := List.exists_mem_of_length_pos (l := ids.filter fun j => eqb j i) (by omega)
  rw [List.mem_filter] at hj
  rw [← eqb_iff.1 hj.2]; exact hj.1
theorem vol_less {s : List Hd} {t : List It} (hv : volOk s t = true) (hs : 0 < s.length) : volOk (s.take (s.length - 1)) t = false := bool_false fun hc => by
  obtain ⟨h1, -, -, h4⟩ := volOk_iff.1 hv
  obtain ⟨-, -, h3, -⟩ := volOk_iff.1 hc
  have hS := storeOk_iff.1 h1
  obtain ⟨h, hh⟩ := get_of_lt (l := s) (k := s.length - 1) (by omega)
  have hu := (usesFit_iff.1 h4) h (List.mem_of_getElem? hh)
  have hk := hd_ok (hS.2 _ h hh).1
  obtain ⟨x, hx, hc⟩ := cntT_pos (i := h.id) (t := t) (by omega)
  obtain ⟨k, hk2⟩ := List.mem_iff_getElem?.1 (cntI_mem hc)
  obtain ⟨y, hy, -⟩ := (filesFit_iff.1 h3 x hx).2 k _ hk2
  obtain ⟨g1, g2⟩ := findH_some hy
  obtain ⟨j, hj⟩ := List.mem_iff_getElem?.1 g1
  have hjl := lt_of_get hj
  rw [List.length_take] at hjl
  rw [List.getElem?_take, if_pos (by omega)] at hj
  have := hS.inj hj hh g2
  omega
/-! ### each use has its place -/
def usesSum (s : List Hd) : Int := (s.map (·.uses)).sum
def idsLen (t : List It) : Nat := (t.map fun x => x.ids.length).sum
def allIds (t : List It) : List Int := t.flatMap (·.ids)
theorem sum_add (s : List Hd) (f g : Hd → Nat) : (s.map fun h => f h + g h).sum = (s.map f).sum + (s.map g).sum := by
  induction s with
  | nil => rfl
  | cons x s ih => simp only [List.map_cons, List.sum_cons, ih]; omega
theorem none_of {i : Int} {s : List Hd} (h : ∀ x, x ∈ s → x.id ≠ i) : (s.map fun x => if i = x.id then 1 else 0).sum = 0 := by
  induction s with
  | nil => rfl
  | cons x s ih =>
    rw [List.map_cons, List.sum_cons, if_neg fun e => h x List.mem_cons_self e.symm, ih fun y hy => h y (List.mem_cons_of_mem _ hy)]
theorem one_of {i : Int} {s : List Hd} (hp : s.Pairwise fun a b => a.id ≠ b.id) (h : ∃ x, x ∈ s ∧ x.id = i) : (s.map fun x => if i = x.id then 1 else 0).sum = 1 := by
  induction s with
  | nil => obtain ⟨x, hx, -⟩ := h; cases hx
  | cons x s ih =>
    rw [List.pairwise_cons] at hp
    rw [List.map_cons, List.sum_cons]
    by_cases e : x.id = i
    · rw [if_pos e.symm, none_of fun y hy => by have := hp.1 y hy; rw [e] at this; exact fun q => this q.symm]
    · obtain ⟨y, hy, hyi⟩ := h
      rcases List.mem_cons.1 hy with rfl | hy
      · exact absurd hyi e
      · rw [if_neg fun q => e q.symm, ih hp.2 ⟨y, hy, hyi⟩]
theorem cnt_sum {s : List Hd} (hp : s.Pairwise fun a b => a.id ≠ b.id) : ∀ L : List Int, (∀ i, i ∈ L → ∃ x, x ∈ s ∧ x.id = i) → (s.map fun h => cntI h.id L).sum = L.length := by
  intro L
  induction L with
  | nil =>
    intro _
    have : ∀ s : List Hd, (s.map fun h => cntI h.id []).sum = 0 := fun s => by
      induction s with
      | nil => rfl
      | cons x s ih => rw [List.map_cons, List.sum_cons, ih]; rfl
    simpa using this s
  | cons i L ih =>
    intro h
    have e : (s.map fun h => cntI h.id (i :: L)) = s.map fun h => cntI h.id L + if i = h.id then 1 else 0 := by
      refine List.map_congr_left fun x _ => ?_
      rw [cntI_cons]
    rw [e, sum_add, ih fun j hj => h j (List.mem_cons_of_mem _ hj), one_of hp (h i List.mem_cons_self), List.length_cons]
theorem cntI_app (i : Int) (a b : List Int) : cntI i (a ++ b) = cntI i a + cntI i b := by
  unfold cntI; rw [List.filter_append, List.length_append]
theorem cntT_all (i : Int) (t : List It) : cntT i t = cntI i (allIds t) := by
  induction t with
  | nil => rfl
  | cons x t ih =>
    rw [cntT_cons, ih]
    unfold allIds
    rw [List.flatMap_cons, cntI_app]
theorem allIds_len (t : List It) : (allIds t).length = idsLen t := by
  induction t with
  | nil => rfl
  | cons x t ih =>
    unfold allIds idsLen at *
    rw [List.flatMap_cons, List.length_append, ih, List.map_cons, List.sum_cons]
theorem ids_apart {s : List Hd} (h : StoreOk s) : s.Pairwise fun a b => a.id ≠ b.id :=
  (storeOk_set.1 h).2.2.imp fun {a b} q => by have := q.1; omega
theorem fit_ids {s : List Hd} {ids : List Int} (h : IdsFit s ids) : ∀ i, i ∈ ids → ∃ x, x ∈ s ∧ x.id = i := fun i hi => by
  obtain ⟨k, hk⟩ := List.mem_iff_getElem?.1 hi
  obtain ⟨y, hy, -⟩ := h.2 k i hk
  exact ⟨y, findH_some hy⟩
theorem uses_cast {s : List Hd} {f : Int → Nat} (h : ∀ x, x ∈ s → (f x.id : Int) = x.uses) : usesSum s = (((s.map fun x => f x.id).sum : Nat) : Int) := by
  unfold usesSum
  induction s with
  | nil => rfl
  | cons x s ih =>
    rw [List.map_cons, List.sum_cons, List.map_cons, List.sum_cons, ih fun y hy => h y (List.mem_cons_of_mem _ hy), ← h x List.mem_cons_self]
    omega
theorem vol_sum {s : List Hd} {t : List It} (hv : volOk s t = true) : usesSum s = (idsLen t : Int) := by
  obtain ⟨h1, -, h3, h4⟩ := volOk_iff.1 hv
  have hS := storeOk_iff.1 h1
  rw [uses_cast (f := fun i => cntT i t) (usesFit_iff.1 h4), ← allIds_len, ← cnt_sum (ids_apart hS) (allIds t) fun i hi => ?_]
  · congr 2
    exact List.map_congr_left fun x _ => cntT_all _ _
  · unfold allIds at hi
    rw [List.mem_flatMap] at hi
    obtain ⟨x, hx, hi⟩ := hi
    exact fit_ids (filesFit_iff.1 h3 x hx) i hi
theorem usesSum_take {s : List Hd} {k : Nat} {x : Hd} (h : s[k]? = some x) : usesSum (s.take (k + 1)) = usesSum (s.take k) + x.uses := by
  unfold usesSum
  rw [List.take_add_one, h, Option.toList_some, List.map_append, List.sum_append]; simp
theorem idsLen_take {t : List It} {k : Nat} {x : It} (h : t[k]? = some x) : idsLen (t.take (k + 1)) = idsLen (t.take k) + x.ids.length := by
  unfold idsLen
  rw [List.take_add_one, h, Option.toList_some, List.map_append, List.sum_append]; simp
theorem usesSum_low {s : List Hd} (h : ∀ x, x ∈ s → 1 ≤ x.uses ∧ x.uses ≤ 999) : 0 ≤ usesSum s ∧ usesSum s ≤ 999 * s.length := by
  unfold usesSum
  induction s with
  | nil => simp
  | cons x s ih =>
    have h1 := h x List.mem_cons_self
    have h2 := ih fun y hy => h y (List.mem_cons_of_mem _ hy)
    rw [List.map_cons, List.sum_cons, List.length_cons]
    omega
theorem idsLen_low {t : List It} (h : ∀ x, x ∈ t → x.ids.length ≤ 4) : idsLen t ≤ 4 * t.length := by
  unfold idsLen
  induction t with
  | nil => simp
  | cons x t ih =>
    have h1 := h x List.mem_cons_self
    have h2 := ih fun y hy => h y (List.mem_cons_of_mem _ hy)
    rw [List.map_cons, List.sum_cons, List.length_cons]
    omega
/-! ### what is loaded -/
theorem load_valid {s : List Hd} (hs : StoreOk s) {ids : List Int} (hf : IdsFit s ids) : fileOk (loadOf s ids) = true := by
  unfold fileOk
  rw [Bool.and_eq_true, decide_eq_true_eq, List.all_eq_true]
  constructor
  · intro b hb
    unfold loadOf at hb
    rw [List.mem_flatMap] at hb
    obtain ⟨i, hi, hb⟩ := hb
    obtain ⟨k, hk⟩ := List.mem_iff_getElem?.1 hi
    obtain ⟨y, hy, -⟩ := hf.2 k i hk
    rw [hy] at hb
    obtain ⟨j, hj⟩ := List.mem_iff_getElem?.1 (findH_some hy).1
    have := (hd_ok (hs.2 j y hj).1).2.1
    unfold blockOk at this
    rw [Bool.and_eq_true, List.all_eq_true] at this
    exact this.1 b (by simpa using hb)
  · have h1 := loadOf_len hs ids
    have h2 := hf.1
    omega
theorem readOf_some {s : List Hd} {t : List It} {p : ByteArray} {out : List Int} (h : readOf s t p = some out) :
    ∃ x, volOk s t = true ∧ findIt t p = some x ∧ x ∈ t ∧ x.dir = false ∧ IdsFit s x.ids ∧ StoreOk s ∧ treeOk t = true ∧ out = loadOf s x.ids ∧ fileOk out = true := by
  unfold readOf at h
  split at h
  · next hv =>
    rw [Option.map_eq_some_iff] at h
    obtain ⟨x, hx, rfl⟩ := h
    obtain ⟨h1, h2, h3, -⟩ := volOk_iff.1 hv
    unfold fileOf at hx
    rw [Option.bind_eq_some_iff] at hx
    obtain ⟨y, hy, hx⟩ := hx
    split at hx
    · cases hx
    · next hd =>
      cases hx
      have hm := (findIt_some hy).1
      have hf := filesFit_iff.1 h3 _ hm
      exact ⟨_, hv, hy, hm, by simpa using hd, hf, storeOk_iff.1 h1, h2, rfl, load_valid (storeOk_iff.1 h1) hf⟩
  · cases h
theorem read_item {s : List Hd} {t : List It} (hv : volOk s t = true) {x : It} (hx : x ∈ t) : (readOf s t x.path).isSome = !x.dir := by
  unfold readOf fileOf
  rw [if_pos hv, tree_find (volOk_iff.1 hv).2.1 hx]
  cases hd : x.dir <;> simp [hd]
end Go.Sf

/-! What a directory more, and an item less, leave of a valid volume: plain. -/
namespace Go.Sf
open Go Go.RowKit
theorem cntT_perm {t t' : List It} (h : t.Perm t') (i : Int) : cntT i t = cntT i t' := by
  unfold cntT
  exact (h.map _).sum_nat
theorem put_some {t t' : List It} {x : It} (h : treePut t x = some t') : treeOk t = true ∧ itemOk x = true ∧ mayPut t x = true ∧ treeOk t' = true ∧ t' = putIt x t := by
  unfold treePut at h
  split at h
  · next hc => cases h; exact ⟨hc.1, hc.2.1, hc.2.2.1, hc.2.2.2, rfl⟩
  · cases h
theorem put_dir {t t' : List It} {p : ByteArray} (h : treePut t (dirIt p) = some t') : treeOk t = true ∧ itemOk (dirIt p) = true ∧ treeOk t' = true ∧ t'.Perm (dirIt p :: t) ∧ findIt t p = none ∧ ∀ y, y ∈ t → y.path ≠ p := by
  obtain ⟨h1, h2, h3, h4, rfl⟩ := put_some h
  have hn : findIt t p = none := by
    unfold mayPut at h3
    cases hf : findIt t (dirIt p).path with
    | none => exact hf
    | some y => rw [hf] at h3; simp [dirIt] at h3
  have hne := findIt_none hn
  exact ⟨h1, h2, h4, putIt_perm hne, hn, hne⟩
theorem volPut_some {s s' : List Hd} {t t' : List It} {p : ByteArray} (h : volPut s t (dirIt p) = some (s', t')) : s' = s ∧ volOk s t = true ∧ volOk s t' = true ∧ treePut t (dirIt p) = some t' := by
  unfold volPut at h
  split at h
  · next hv =>
    rw [Option.map_eq_some_iff] at h
    obtain ⟨t2, h2, e⟩ := h
    cases e
    obtain ⟨h1, h3, h4, hp, -, -⟩ := put_dir h2
    obtain ⟨k1, -, k3, k4⟩ := volOk_iff.1 hv
    refine ⟨rfl, hv, volOk_iff.2 ⟨k1, h4, filesFit_iff.2 fun x hx => ?_, usesFit_iff.2 fun y hy => ?_⟩, h2⟩
    · rcases List.mem_cons.1 (hp.mem_iff.1 hx) with rfl | hx
      · exact ⟨Nat.zero_le _, fun k i hk => by simp [dirIt] at hk⟩
      · exact filesFit_iff.1 k3 x hx
    · rw [cntT_perm hp, cntT_cons, show cntI y.id (dirIt p).ids = 0 from rfl, Nat.zero_add]
      exact usesFit_iff.1 k4 y hy
  · cases h
/-- in a new directory is nothing -/
theorem new_empty {t t' : List It} {p : ByteArray} (h : treePut t (dirIt p) = some t') : kidsOf t' (key (dirIt p)) = [] := by
  obtain ⟨h1, h2, h4, hp, -, hne⟩ := put_dir h
  rw [List.eq_nil_iff_forall_not_mem]
  intro y hy
  obtain ⟨hyl, hyk⟩ := mem_kids.1 hy
  rcases List.mem_cons.1 (hp.mem_iff.1 hyl) with rfl | hyl
  · have := congrArg List.length hyk
    have h2 := congrArg List.length (key_last (x := dirIt p))
    simp only [List.length_append, List.length_singleton] at h2
    omega
  · rcases ((tree_set.1 h1).2.2 y hyl).2 with h0 | ⟨z, hz, hk, -⟩
    · rw [hyk] at h0; exact key_ne _ h0
    · rw [hyk] at hk
      exact hne z hz (key_path hk)
/-- blocks of a file used once less -/
theorem dropAll_find : ∀ (ids : List Int) {s : List Hd}, StoreOk s → HasUses s ids → ∃ s', dropAll s ids = some s' ∧ StoreOk s' ∧ s'.length ≤ s.length ∧
    ∀ i, findH s' i = (findH s i).bind fun h => if h.uses = (cntI i ids : Int) then none else some { h with uses := h.uses - (cntI i ids : Int) } := by
  intro ids
  induction ids with
  | nil =>
    intro s hs _
    refine ⟨s, rfl, hs, Nat.le_refl _, fun i => ?_⟩
    cases hf : findH s i with
    | none => rfl
    | some h =>
      obtain ⟨j, hj⟩ := List.mem_iff_getElem?.1 (findH_some hf).1
      have := hd_ok (hs.2 j h hj).1
      have e : cntI i [] = 0 := rfl
      rw [Option.bind_some, e, if_neg (by omega)]
      simp
  | cons j r ih =>
    intro s hs hu
    obtain ⟨k, y, hk, hy, hu'⟩ := uses_step hs hu
    obtain ⟨s', h1, h2, h3, h4⟩ := ih (dropAt_ok hs hk) hu'
    refine ⟨s', ?_, h2, Nat.le_trans h3 ?_, fun i => ?_⟩
    · show (dropId s j).bind _ = _
      rw [← hy, dropId_of hs hk]; exact h1
    · have := dropId_len (dropId_of hs hk); exact this
    · rw [h4 i, find_dropAt hs hk]
      have hyf := hs.find hk
      have hy1 := hd_ok (hs.2 k y hk).1
      by_cases e : i = y.id
      · subst e
        rw [if_pos rfl, hyf, Option.bind_some, cntI_cons, if_pos hy.symm]
        by_cases h1u : y.uses = 1
        · have hz : cntI y.id r = 0 := by
            rcases Nat.eq_zero_or_pos (cntI y.id r) with h | h
            · exact h
            · have hm := cntI_mem h
              obtain ⟨z, hz, -⟩ := hu' y.id hm
              rw [find_dropAt hs hk, if_pos rfl, if_pos h1u] at hz
              cases hz
          rw [if_pos h1u, hz, if_pos (by omega)]; rfl
        · rw [if_neg h1u, Option.bind_some]
          show (if y.uses - 1 = _ then none else some (Hd.mk _ _ _)) = _
          by_cases h2u : y.uses - 1 = (cntI y.id r : Int)
          · rw [if_pos h2u, if_pos (by omega)]
          · rw [if_neg h2u, if_neg (by omega)]
            congr 2
            show y.uses - 1 - _ = _
            omega
      · rw [if_neg e, cntI_cons, if_neg (by rw [← hy]; exact fun q => e q.symm)]
        rfl
theorem cntT_erase {t : List It} {i : Nat} {x : It} (h : t[i]? = some x) (j : Int) : cntT j t = cntI j x.ids + cntT j (t.eraseIdx i) := by
  rw [← cntT_cons]
  refine cntT_perm ?_ j
  rw [(erase_split h).2]
  conv => lhs; rw [(erase_split h).1]
  exact List.perm_middle
/-- what an item less leaves -/
theorem volDrop_some {s s' : List Hd} {t t' : List It} {p : ByteArray} (h : volDrop s t p = some (s', t')) :
    volOk s t = true ∧ volOk s' t' = true ∧ s'.length ≤ s.length ∧ t'.length + 1 = t.length ∧ findIt t' p = none := by
  unfold volDrop at h
  split at h
  · next hv =>
    rw [Option.map_eq_some_iff] at h
    obtain ⟨t2, h2, e⟩ := h
    cases e
    obtain ⟨i, x, hi, hf, -, rfl, hto, hto'⟩ := treeDrop_find h2
    have hx := (findIt_some hf).1
    have hxp := (findIt_some hf).2
    obtain ⟨hu, hfit, hS, -⟩ := vol_uses hv hx
    obtain ⟨k1, -, k3, k4⟩ := volOk_iff.1 hv
    obtain ⟨s2, e1, e2, e3, e4⟩ := dropAll_find x.ids hS hu
    have ei : idsAt t p = x.ids := by unfold idsAt; rw [hf]; rfl
    have ef : (freeAll s (idsAt t p)).getD [] = s2 := by unfold freeAll; rw [ei, if_pos ⟨k1, hfit⟩, e1]; rfl
    rw [ef]
    have hil := lt_of_get hi
    refine ⟨hv, volOk_iff.2 ⟨storeOk_iff.2 e2, hto', filesFit_iff.2 fun y hy => ?_, usesFit_iff.2 fun z hz => ?_⟩, e3, by rw [List.length_eraseIdx, if_pos hil]; omega, ?_⟩
    · have hyt : y ∈ t := (List.eraseIdx_sublist ..).subset hy
      obtain ⟨g1, g2⟩ := filesFit_iff.1 k3 y hyt
      refine ⟨g1, fun k j hk => ?_⟩
      obtain ⟨z, hz, hz8⟩ := g2 k j hk
      have hjm := List.mem_of_getElem? hk
      have hc := cntT_erase hi j
      have hp := cntI_pos hjm
      have hl := cntI_le_T (i := j) hy
      obtain ⟨gz, gi⟩ := findH_some hz
      have huse := usesFit_iff.1 k4 z gz
      rw [gi] at huse
      exact ⟨{ z with uses := z.uses - (cntI j x.ids : Int) }, by rw [e4 j, hz, Option.bind_some, if_neg (by omega)], fun hk' => hz8 hk'⟩
    · obtain ⟨k, hk⟩ := List.mem_iff_getElem?.1 hz
      have hzf := e2.find hk
      rw [e4 z.id, Option.bind_eq_some_iff] at hzf
      obtain ⟨q, hq, hz2⟩ := hzf
      split at hz2
      · cases hz2
      · next hne =>
        injection hz2 with hz2
        obtain ⟨gq, gi⟩ := findH_some hq
        have huse := usesFit_iff.1 k4 q gq
        have hc := cntT_erase hi z.id
        have : z.uses = q.uses - (cntI z.id x.ids : Int) := (congrArg Hd.uses hz2).symm
        rw [gi] at huse
        omega
    · cases hn : findIt (t.eraseIdx i) p with
      | none => rfl
      | some y =>
        obtain ⟨a1, a2⟩ := findIt_some hn
        have := ((mem_erase (tree_set.1 hto).2.1 hi).1 a1).2
        rw [hxp] at this
        exact absurd a2 this
  · cases h
theorem read_gone {s : List Hd} {t : List It} {p : ByteArray} (h : findIt t p = none) : readOf s t p = none := by
  unfold readOf fileOf
  rw [h]
  split <;> rfl
end Go.Sf
