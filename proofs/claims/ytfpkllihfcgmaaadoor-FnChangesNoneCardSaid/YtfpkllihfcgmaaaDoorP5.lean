/- A tree is valid just where it grew item by item. -/
import Derived.Test.YtfpkllihfcgmaaaDoorP4
namespace Go.Sf
open Go
theorem findIt_some {l : List It} {p : ByteArray} {y : It} (h : findIt l p = some y) : y ∈ l ∧ y.path = p := by
  unfold findIt at h
  have h1 := List.mem_of_find?_eq_some h
  have h2 := List.find?_some h
  exact ⟨h1, eqb_iff.1 h2⟩
theorem findIt_none {l : List It} {p : ByteArray} (h : findIt l p = none) : ∀ y, y ∈ l → y.path ≠ p := by
  unfold findIt at h
  rw [List.find?_eq_none] at h
  intro y hy e
  exact h y hy (eqb_iff.2 e)
theorem Grow.find {l : List It} (h : Grow l) {y : It} (hy : y ∈ l) : findIt l y.path = some y := by
  cases hf : findIt l y.path with
  | none => exact absurd rfl (findIt_none hf y hy)
  | some z => have := findIt_some hf; rw [h.inj this.1 hy this.2]
theorem parent_lt {x : It} (h : (key x).dropLast ≠ []) : lt8 (bl (parentB x.path)) (bl x.path) = true := by
  rw [key_path_eq x, parent_join]
  show lt8 (joinS (key x).dropLast) _ = true
  rw [startOf, if_neg h, List.append_assoc]
  exact lt8_longer _ _ _
theorem asc_of {l : List It} (h : ∀ k x y, l[k]? = some x → l[k + 1]? = some y → lt8 (bl x.path) (bl y.path) = true) : ∀ d i x y, l[i]? = some x → l[i + 1 + d]? = some y → lt8 (bl x.path) (bl y.path) = true := by
  intro d
  induction d with
  | zero => exact h
  | succ d ih =>
    intro i x y hx hy
    have hlt : i + 1 + d < l.length := by
      have : i + 1 + (d + 1) < l.length := by
        rcases Nat.lt_or_ge (i + 1 + (d + 1)) l.length with h | h
        · exact h
        · rw [List.getElem?_eq_none h] at hy; cases hy
      omega
    have hz := List.getElem?_eq_getElem hlt
    exact lt8_trans _ _ _ (ih i x _ hx hz) (h _ _ _ hz hy)
theorem home_take {l : List It} {k : Nat} {x : It} (hx : pathOk x.path = true) :
    (∀ y, y ∈ l.take k → y.path = parentB x.path → findIt (l.take k) y.path = some y) → (homeOk (l.take k) x.path = true ↔ ((key x).dropLast = [] ∨ ∃ z, z ∈ l.take k ∧ key z = (key x).dropLast ∧ z.dir = true)) := by
  intro hf
  unfold homeOk
  rw [Bool.or_eq_true, parent_nil hx]
  by_cases hn : (key x).dropLast = []
  · simp [hn]
  · simp only [hn, false_or]
    unfold dirAt
    constructor
    · intro h
      cases hq : findIt (l.take k) (parentB x.path) with
      | none => rw [hq] at h; cases h
      | some z =>
        rw [hq] at h
        exact ⟨z, (findIt_some hq).1, (parent_key hx hn).1 (findIt_some hq).2, h⟩
    · rintro ⟨z, hz, h1, h2⟩
      have e := (parent_key hx hn).2 h1
      have := hf z hz e
      rw [e] at this
      rw [this]; exact h2
theorem treeOk_grow {l : List It} : TreeOk l ↔ l.length ≤ 12 ∧ Grow l := by
  unfold TreeOk
  refine and_congr_right fun _ => ?_
  constructor
  · intro h
    have hasc : ∀ (i j : Nat) (x y : It), l[i]? = some x → l[j]? = some y → i < j → lt8 (bl x.path) (bl y.path) = true := fun i j x y hx hy hij => by
      refine asc_of (fun k x y hx hy => ?_) (j - (i + 1)) i x y hx (by rw [← hy]; congr 1; omega)
      rw [← blt_eq]; exact (h (k + 1) y hy).2.1 k x rfl hx
    intro k x hx
    obtain ⟨h1, h2, h3⟩ := h k x hx
    have hp := itemOk_path h1
    refine ⟨h1, fun y hy => ?_, ?_⟩
    · obtain ⟨i, hi⟩ := List.mem_iff_getElem?.1 hy
      rw [List.getElem?_take] at hi
      split at hi
      · next hik => exact hasc i k y x hi hx hik
      · cases hi
    · unfold homeOk at h3
      rw [Bool.or_eq_true, parent_nil hp] at h3
      refine h3.imp_right fun h3 => ?_
      by_cases hn : (key x).dropLast = []
      · rw [(parent_nil hp).2 hn |> eqb_iff.1] at h3
        unfold dirAt at h3
        cases hq : findIt l emptyB with
        | none => rw [hq] at h3; cases h3
        | some z =>
          have hz := findIt_some hq
          obtain ⟨j, hj⟩ := List.mem_iff_getElem?.1 hz.1
          have := itemOk_path (h j z hj).1
          rw [hz.2] at this
          exact absurd this (by decide)
      · unfold dirAt at h3
        cases hq : findIt l (parentB x.path) with
        | none => rw [hq] at h3; cases h3
        | some z =>
          rw [hq] at h3
          have hz := findIt_some hq
          obtain ⟨j, hj⟩ := List.mem_iff_getElem?.1 hz.1
          have hlt := parent_lt hn
          have hjk : j < k := by
            rcases Nat.lt_or_ge j k with h | h
            · exact h
            · exfalso
              rw [← hz.2] at hlt
              rcases Nat.lt_or_ge k j with h' | h'
              · have := hasc k j x z hx hj h'
                rw [lt8_asymm hlt] at this; cases this
              · have : j = k := by omega
                subst this
                rw [hj] at hx
                rw [Option.some.inj hx, lt8_irrefl] at hlt; cases hlt
          exact ⟨z, List.mem_iff_getElem?.2 ⟨j, by rw [List.getElem?_take, if_pos hjk]; exact hj⟩, (parent_key hp hn).1 hz.2, h3⟩
  · intro hg k x hx
    obtain ⟨h1, h2, h3⟩ := hg k x hx
    have hp := itemOk_path h1
    refine ⟨h1, fun j y hk hy => ?_, ?_⟩
    · rw [blt_eq]; exact hg.lt hy hx (by omega)
    · have := (home_take (k := l.length) (l := l) hp (fun y hy _ => by rw [List.take_length] at hy ⊢; exact hg.find hy)).2
      rw [List.take_length] at this
      exact this (h3.imp_right fun ⟨z, hz, r⟩ => ⟨z, List.mem_of_mem_take hz, r⟩)
theorem treeOk_iff' {l : List It} : treeOk l = true ↔ l.length ≤ 12 ∧ Grow l := treeOk_iff.trans treeOk_grow
end Go.Sf
