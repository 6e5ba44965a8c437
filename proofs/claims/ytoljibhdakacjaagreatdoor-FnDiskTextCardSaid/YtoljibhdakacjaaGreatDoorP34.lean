/- What holds of texts: plain. -/
import Derived.Test.YtoljibhdakacjaaGreatDoorHL
import Derived.Test.YtoljibhdakacjaaGreatDoorT101
namespace Go.Sf
open Go Go.RowKit
theorem textB_take {s : List Hd} {t : List It} {k : Nat} {x : It} (h : t[k]? = some x) : textB s (t.take (k + 1)) = textB s (t.take k) ++ lineB s x ++ ⟨#[10]⟩ := foldl_take (textStep s) _ h
/-- how many lines end in a text -/
def nls (l : List UInt8) : Nat := (l.filter fun c => c == 10).length
theorem nls_app (a b : List UInt8) : nls (a ++ b) = nls a + nls b := by unfold nls; rw [List.filter_append, List.length_append]
theorem nls_none {l : List UInt8} (h : ∀ c, c ∈ l → c ≠ 10) : nls l = 0 := by
  unfold nls
  rw [List.length_eq_zero_iff, List.filter_eq_nil_iff]
  intro c hc
  simpa using h c hc
theorem nls_take {l : List UInt8} {k : Nat} {c : UInt8} (h : l[k]? = some c) : nls (l.take (k + 1)) = nls (l.take k) + if c = 10 then 1 else 0 := by
  rw [List.take_add_one, h, Option.toList_some, nls_app]
  congr 1
  unfold nls
  by_cases e : c = 10 <;> simp [e]
theorem low_ne {c : UInt8} (h : low c = true) : c ≠ 10 := by
  have := low_gt h
  intro e
  subst e
  exact absurd this (by decide)
theorem joinS_ne : ∀ (ws : List (List UInt8)), ws.all wordOk = true → ∀ c, c ∈ joinS ws → c ≠ 10 := by
  intro ws
  induction ws with
  | nil => intro _ c hc; cases hc
  | cons a r ih =>
    intro h c hc
    rw [List.all_cons, Bool.and_eq_true] at h
    have ha : ∀ c, c ∈ a → c ≠ 10 := fun c hc => low_ne (List.all_eq_true.1 (wordOk_low h.1) c hc)
    by_cases hr : r = []
    · subst hr
      exact ha c hc
    · rw [joinS_cons hr, List.mem_append, List.mem_cons] at hc
      rcases hc with hc | rfl | hc
      · exact ha c hc
      · decide
      · exact ih h.2 c hc
theorem path_nls {p : ByteArray} (h : pathOk p = true) : nls (bl p) = 0 := nls_none fun c hc => by
  rw [← joinS_cut (bl p)] at hc
  exact joinS_ne _ (pathOk_words h).1 c hc
theorem dec_nls (n : Nat) : nls (bl (decB n)) = 0 := by
  induction n using Nat.strongRecOn with
  | ind n ih =>
    by_cases h : n < 10
    · rw [decB_lo h]
      refine nls_none fun c hc => ?_
      simp only [bl, List.mem_singleton] at hc
      subst hc
      intro e
      have := congrArg UInt8.toNat e
      simp at this
      omega
    · rw [decB_hi h, bl_append, nls_app, ih (n / 10) (by omega), Nat.zero_add]
      refine nls_none fun c hc => ?_
      simp only [bl, List.mem_singleton] at hc
      subst hc
      intro e
      have := congrArg UInt8.toNat e
      simp at this
      omega
theorem line_nls {s : List Hd} {x : It} (h : pathOk x.path = true) : nls (bl (lineB s x)) = 0 := by
  unfold lineB
  split
  · rw [bl_append, nls_app, path_nls h]; rfl
  · rw [bl_append, bl_append, nls_app, nls_app, path_nls h, dec_nls]; rfl
/-- as many lines as items -/
theorem text_nls {s : List Hd} {t : List It} (h : ∀ x, x ∈ t → pathOk x.path = true) : nls (bl (textB s t)) = t.length := by
  have : ∀ k, k ≤ t.length → nls (bl (textB s (t.take k))) = k := by
    intro k
    induction k with
    | zero => intro _; rfl
    | succ k ih =>
      intro hk
      obtain ⟨x, hx⟩ := get_of_lt (l := t) (k := k) (by omega)
      rw [textB_take hx, bl_append, bl_append, nls_app, nls_app, ih (by omega), line_nls (h x (List.mem_of_getElem? hx))]; rfl
  have h2 := this t.length (Nat.le_refl _)
  rwa [List.take_length] at h2
theorem treeText_some {s : List Hd} {t : List It} (h : (treeTextOf s t).toList ≠ []) : storeOk s = true ∧ treeOk t = true ∧ filesFit s t = true ∧ treeTextOf s t = textB s t := by
  unfold treeTextOf at h ⊢
  split at h
  · next hc =>
    rw [if_pos hc]
    simp only [Bool.and_eq_true] at hc
    exact ⟨hc.1, hc.2.1, hc.2.2, rfl⟩
  · exact absurd (by rw [ByteArray.toList_eq]) h
end Go.Sf
