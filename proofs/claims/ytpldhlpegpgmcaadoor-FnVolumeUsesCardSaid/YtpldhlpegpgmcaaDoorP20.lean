/- Stores of blocks and volumes, plain. -/
import Derived.Test.YtpldhlpegpgmcaaDoorGI
import Derived.Test.YtpldhlpegpgmcaaDoorGD
namespace Go.Sf
def byteOk (n : Int) : Bool := inB n 0 255
def blockOk (bs : List Int) : Bool := bs.all byteOk && inB bs.length 1 8
def idIs (i : Int) (h : Hd) : Bool := eqb h.id i
def hAt (l : List Hd) (i : Int) : Int := atG (idIs i) l 0
def findH (l : List Hd) (i : Int) : Option Hd := l.find? (idIs i)
/-- what is asked of the block at k by itself -/
def hdOk (h : Hd) : Bool := inB h.id 1 99 && (blockOk h.bytes && inB h.uses 1 999)
def HdAt (l : List Hd) (k : Nat) (h : Hd) : Prop := hdOk h = true ∧ (∀ j y, k = j + 1 → l[j]? = some y → y.id < h.id) ∧ ∀ j y, j < k → l[j]? = some y → y.bytes ≠ h.bytes
def StoreOk (l : List Hd) : Prop := l.length ≤ 16 ∧ ∀ k h, l[k]? = some h → HdAt l k h
open Classical in
noncomputable def storeOk (l : List Hd) : Bool := decide (StoreOk l)
theorem storeOk_iff {l : List Hd} : storeOk l = true ↔ StoreOk l := by unfold storeOk; simp
theorem storeOk_false {l : List Hd} : storeOk l = false ↔ ¬ StoreOk l := by unfold storeOk; simp
/-- ids of a file: each block there, all but the last one full -/
def IdsFit (l : List Hd) (ids : List Int) : Prop := ids.length ≤ 4 ∧ ∀ k i, ids[k]? = some i → ∃ h, findH l i = some h ∧ (k + 1 < ids.length → 8 ≤ h.bytes.length)
open Classical in
noncomputable def idsFit (l : List Hd) (ids : List Int) : Bool := decide (IdsFit l ids)
theorem idsFit_iff {l : List Hd} {ids : List Int} : idsFit l ids = true ↔ IdsFit l ids := by unfold idsFit; simp
theorem idsFit_false {l : List Hd} {ids : List Int} : idsFit l ids = false ↔ ¬ IdsFit l ids := by unfold idsFit; simp
/-- how often an id stands in a list of ids -/
def cntI (i : Int) (ids : List Int) : Nat := (ids.filter fun j => eqb j i).length
/-- how often items have an id -/
def cntT (i : Int) (t : List It) : Nat := (t.map fun x => cntI i x.ids).sum
theorem cntI_take {i : Int} {ids : List Int} {k : Nat} {j : Int} (h : ids[k]? = some j) : cntI i (ids.take (k + 1)) = cntI i (ids.take k) + if j = i then 1 else 0 := by
  unfold cntI
  rw [List.take_add_one, h, Option.toList_some, List.filter_append, List.length_append]
  by_cases e : j = i
  · rw [if_pos e, List.filter_cons_of_pos (by rw [eqb_true.2 e])]; simp
  · rw [if_neg e, List.filter_cons_of_neg (by rw [eqb_false.2 e]; simp)]; simp
theorem cntT_take {i : Int} {t : List It} {k : Nat} {x : It} (h : t[k]? = some x) : cntT i (t.take (k + 1)) = cntT i (t.take k) + cntI i x.ids := by
  unfold cntT
  rw [List.take_add_one, h, Option.toList_some, List.map_append, List.sum_append]; simp
theorem cntI_le (i : Int) (ids : List Int) : cntI i ids ≤ ids.length := List.length_filter_le _ _
noncomputable def filesFit (s : List Hd) (t : List It) : Bool := t.all fun x => idsFit s x.ids
noncomputable def usesFit (s : List Hd) (t : List It) : Bool := s.all fun h => eqb (cntT h.id t : Int) h.uses
noncomputable def volOk (s : List Hd) (t : List It) : Bool := storeOk s && (treeOk t && (filesFit s t && usesFit s t))
theorem StoreOk.asc {l : List Hd} (h : StoreOk l) : ∀ (d i : Nat) (x y : Hd), l[i]? = some x → l[i + 1 + d]? = some y → x.id < y.id := by
  intro d
  induction d with
  | zero => intro i x y hx hy; exact (h.2 _ _ hy).2.1 i x rfl hx
  | succ d ih =>
    intro i x y hx hy
    have hlt := lt_of_get hy
    obtain ⟨z, hz⟩ := get_of_lt (l := l) (k := i + 1 + d) (by omega)
    have h1 := ih i x z hx hz
    have h2 := (h.2 _ _ hy).2.1 (i + 1 + d) z rfl hz
    omega
theorem StoreOk.inj {l : List Hd} (h : StoreOk l) {i j : Nat} {x y : Hd} (hx : l[i]? = some x) (hy : l[j]? = some y) (e : x.id = y.id) : i = j := by
  rcases Nat.lt_trichotomy i j with hij | hij | hij
  · have := h.asc (j - (i + 1)) i x y hx (by rw [show i + 1 + (j - (i + 1)) = j by omega]; exact hy); omega
  · exact hij
  · have := h.asc (i - (j + 1)) j y x hy (by rw [show j + 1 + (i - (j + 1)) = i by omega]; exact hx); omega
theorem findH_some {l : List Hd} {i : Int} {h : Hd} (hf : findH l i = some h) : h ∈ l ∧ h.id = i := by
  unfold findH at hf
  exact ⟨List.mem_of_find?_eq_some hf, by have := List.find?_some hf; simpa [idIs, eqb_iff] using this⟩
theorem findH_none {l : List Hd} {i : Int} (hf : findH l i = none) : ∀ h, h ∈ l → h.id ≠ i := fun h hh e => by
  have := List.find?_eq_none.1 hf h hh
  exact this (by simpa [idIs, eqb_iff] using e)
theorem StoreOk.find {l : List Hd} (h : StoreOk l) {k : Nat} {x : Hd} (hx : l[k]? = some x) : findH l x.id = some x := by
  cases hf : findH l x.id with
  | none => exact absurd rfl (findH_none hf x (List.mem_of_getElem? hx))
  | some y =>
    obtain ⟨h1, h2⟩ := findH_some hf
    obtain ⟨j, hj⟩ := List.mem_iff_getElem?.1 h1
    have e := h.inj hj hx h2
    subst e
    rw [hj] at hx
    rw [hx]
theorem StoreOk.take {l : List Hd} (h : StoreOk l) (n : Nat) : StoreOk (l.take n) := by
  refine ⟨by rw [List.length_take]; have := h.1; omega, fun k x hx => ?_⟩
  rw [List.getElem?_take] at hx
  split at hx
  · obtain ⟨h1, h2, h3⟩ := h.2 k x hx
    refine ⟨h1, fun j y e hy => h2 j y e ?_, fun j y hj hy => h3 j y hj ?_⟩
    · rw [List.getElem?_take] at hy; split at hy
      · exact hy
      · cases hy
    · rw [List.getElem?_take] at hy; split at hy
      · exact hy
      · cases hy
  · cases hx
theorem findH_take {l : List Hd} (h : StoreOk l) {k : Nat} {x : Hd} (hx : l[k]? = some x) (i : Int) : findH (l.take (k + 1)) i = if i = x.id then some x else findH (l.take k) i := by
  have e : l.take (k + 1) = l.take k ++ [x] := by rw [List.take_add_one, hx]; rfl
  have hk : (l.take (k + 1))[k]? = some x := by rw [List.getElem?_take, if_pos (by omega)]; exact hx
  by_cases hi : i = x.id
  · subst hi
    rw [if_pos rfl]
    exact (h.take (k + 1)).find hk
  · rw [if_neg hi, e]
    unfold findH
    rw [List.find?_append]
    have : List.find? (idIs i) [x] = none := by
      rw [List.find?_cons_of_neg (by rw [idIs, eqb_false.2 (fun q => hi q.symm)]; simp)]; rfl
    rw [this]; simp
theorem hd_ok {h : Hd} (hh : hdOk h = true) : (1 ≤ h.id ∧ h.id ≤ 99) ∧ blockOk h.bytes = true ∧ 1 ≤ h.uses ∧ h.uses ≤ 999 := by
  unfold hdOk at hh
  simp only [Bool.and_eq_true, inB_iff] at hh
  exact hh
theorem block_len {bs : List Int} (h : blockOk bs = true) : 1 ≤ bs.length ∧ bs.length ≤ 8 := by
  unfold blockOk at h
  simp only [Bool.and_eq_true, inB_iff] at h
  omega
end Go.Sf
