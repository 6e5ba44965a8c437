/- The program's paths within others, and moved. -/
import Derived.Test.YtoljibhdakacjaaGreatDoorGJ
import Derived.Test.YtoljibhdakacjaaGreatDoorHG
/-! The program's paths within others, and moved. -/
namespace Go.Sf
open Go Go.RowKit Go.Proofs
def hasPre (s p : ByteArray) : Bool := decide (bl p <+: bl s)
theorem hasPre_short {s p : ByteArray} (h : s.size < p.size) : hasPre s p = false := by
  unfold hasPre
  rw [decide_eq_false_iff_not]
  intro hp
  have := hp.length_le
  rw [bl_length, bl_length] at this
  omega
theorem hasPre_long {s p : ByteArray} (_h : p.size ≤ s.size) : hasPre s p = eqb (s.extract 0 p.size) p := by
  have hb : bl (s.extract 0 p.size) = (bl s).take p.size := by rw [bl_extract, List.drop_zero]
  unfold hasPre
  cases he : eqb (s.extract 0 p.size) p with
  | true =>
    rw [decide_eq_true_eq]
    have := congrArg bl (eqb_true.1 he)
    rw [hb] at this
    exact ⟨(bl s).drop p.size, by rw [← this, List.take_append_drop]⟩
  | false =>
    rw [decide_eq_false_iff_not]
    rintro ⟨r, hr⟩
    refine eqb_false.1 he (bl_inj ?_)
    rw [hb, ← hr, ← bl_length, List.take_left]
set_option maxHeartbeats 1000000 in
theorem lite_HasPrefix_c (s p : ByteArray) (w : World) (_hs : s.size < lim) (_hp : p.size ≤ lim) : Calls Tryz.prog 182 #[.string s, .string p] w (Ret (.bool (hasPre s p)) w) := by
  by_cases h : p.size ≤ s.size
  · have h1 : (p.size : Int) ≤ (s.size : Int) := by omega
    have Hh := Lib.hid (hasPre_long h)
    go_enter Tryz.func182, Tryz.ntmps182
    go_wp2
    go_ret
    refine ⟨ret_b ?_, Ext.refl w⟩
    rw [Hh.out]
    cases he : eqb (s.extract 0 p.size) p with
    | true => rw [eqb_true.1 he]; simp
    | false => rw [bytes_ne_iff, decide_eq_false_iff_not]; exact eqb_false.1 he
  · have h1 : ¬ (p.size : Int) ≤ (s.size : Int) := by omega
    have Hh := Lib.hid (hasPre_short (s := s) (p := p) (by omega))
    go_enter Tryz.func182, Tryz.ntmps182
    go_wp2
    go_ret
    exact ⟨ret_b Hh.out.symm, Ext.refl w⟩
set_option maxHeartbeats 1000000 in
theorem HasPrefix_c (s p : ByteArray) (w : World) (hs : s.size < lim) (hp : p.size ≤ lim) : Calls Tryz.prog 144 #[.string s, .string p] w (Ret (.bool (hasPre s p)) w) := by
  go_enter Tryz.func144, Tryz.ntmps144
  go_wp2_with (go_at_call 182; refine (lite_HasPrefix_c s p _ hs hp).mono ?_; rintro e w1 ⟨rfl, he1⟩)
  go_ret
  exact ⟨rfl, he1⟩
theorem within_pre {p d : ByteArray} (h0 : bl d ≠ []) (h1 : p ≠ d) : within p d = hasPre p (d ++ (⟨#[47]⟩ : ByteArray)) := by
  unfold within hasPre
  rw [bl_push]
  congr 1
  simp [h0, h1]
theorem dir_ok {p d : ByteArray} (hp : pathOk p = true) (h : bl d ++ [47] <+: bl p) : pathOk d = true := by
  obtain ⟨r, hr⟩ := h
  rw [List.append_assoc] at hr
  have hc : cut (bl p) = cut (bl d) ++ cut r := by rw [← hr]; exact cut_app _ _
  obtain ⟨h1, h2⟩ := pathOk_words hp
  rw [hc, List.all_append, Bool.and_eq_true] at h1
  rw [hc, List.length_append] at h2
  exact pathOk_of h1.1 (by omega)
theorem within_bad {p d : ByteArray} (hp : pathOk p = true) (h0 : bl d ≠ []) (h1 : p ≠ d) (hd : pathOk d = false) : within p d = false := by
  rw [within_pre h0 h1, hasPre, bl_push, decide_eq_false_iff_not]
  intro h
  rw [dir_ok hp h] at hd; cases hd
set_option maxHeartbeats 1000000 in
theorem implWithin_c (p d : ByteArray) (w : World) (hp : p.size < lim) (hd : d.size < lim) (hm : ML w) : Calls Tryz.prog 110 #[.string p, .string d] w (Ret (.bool (pathOk p && within p d)) w) := by
  have Cp : Calls Tryz.prog 109 #[.string p] w (Ret (.bool (pathOk p)) w) := valid_c p w hp hm
  have Cd : ∀ W, Ext w W → Calls Tryz.prog 109 #[.string d] W (Ret (.bool (pathOk d)) W) := fun W e => valid_c d W hd (hm.ext e)
  have Ch : ∀ W, Calls Tryz.prog 144 #[.string p, .string (d ++ (⟨#[47]⟩ : ByteArray))] W (Ret (.bool (hasPre p (d ++ (⟨#[47]⟩ : ByteArray)))) W) := fun W => HasPrefix_c _ _ W hp (by rw [ByteArray.size_append]; show d.size + 1 ≤ lim; omega)
  clear hm
  unfold lim at hp hd
  cases h1 : pathOk p with
  | false =>
    rw [h1] at Cp
    clear h1
    go_enter Tryz.func110, Tryz.ntmps110
    go_wp2_with (go_at_call 109; refine Cp.mono ?_; rintro e w1 ⟨rfl, he1⟩)
    go_ret
    exact ⟨rfl, he1⟩
  | true =>
  rw [h1] at Cp
  rw [Bool.true_and]
  by_cases h0 : bl d = []
  · have h0' : d.toList.isEmpty = true := by rw [emp_iff.2 h0]; rfl
    have Hr := Lib.hid (within_emp (p := p) h0)
    clear h0 h1
    go_enter Tryz.func110, Tryz.ntmps110
    go_wp2_with (go_at_call 109; refine Cp.mono ?_; rintro e w1 ⟨rfl, he1⟩)
    go_ret
    exact ⟨ret_b Hr.out.symm, he1⟩
  have h0' : d.toList.isEmpty = false := emp_false h0
  by_cases h2 : p = d
  · have Hr := Lib.hid (within_eq h2)
    subst h2
    clear h0 h1
    go_enter Tryz.func110, Tryz.ntmps110
    go_wp2_with fail
    refine Cp.mono ?_; rintro e w1 ⟨rfl, he1⟩
    go_wp2
    go_ret
    exact ⟨ret_b Hr.out.symm, he1⟩
  have h2' : (p.toList == d.toList) = false := by rw [bytes_ne_iff, decide_eq_false_iff_not]; exact h2
  cases h3 : pathOk d with
  | false =>
    have Hr := Lib.hid (within_bad h1 h0 h2 h3)
    rw [h3] at Cd
    clear h0 h1 h2 h3
    go_enter Tryz.func110, Tryz.ntmps110
    go_wp2_with fail
    refine Cp.mono ?_; rintro e w1 ⟨rfl, he1⟩
    go_wp2_with fail
    refine (Cd _ he1).mono ?_; rintro e w2 ⟨rfl, he2⟩
    go_wp2
    go_ret
    exact ⟨ret_b Hr.out.symm, he1.trans he2⟩
  | true =>
    have Hr := Lib.hid (within_pre h0 h2)
    rw [h3] at Cd
    clear h0 h1 h2 h3
    go_enter Tryz.func110, Tryz.ntmps110
    go_wp2_with fail
    refine Cp.mono ?_; rintro e w1 ⟨rfl, he1⟩
    go_wp2_with fail
    refine (Cd _ he1).mono ?_; rintro e w2 ⟨rfl, he2⟩
    go_wp2_with fail
    refine (Ch _).mono ?_; rintro e w3 ⟨rfl, he3⟩
    go_wp2
    go_ret
    exact ⟨ret_b Hr.out.symm, (he1.trans he2).trans he3⟩
set_option maxHeartbeats 1000000 in
theorem PathWithin_c (p d : ByteArray) (w : World) (hp : p.size < lim) (hd : d.size < lim) (hm : ML w) : Calls Tryz.prog 63 #[.string p, .string d] w (Ret (.bool (pathOk p && within p d)) w) := by
  go_enter Tryz.func63, Tryz.ntmps63
  go_wp2_with (go_at_call 110; refine (implWithin_c p d _ hp hd hm).mono ?_; rintro e w1 ⟨rfl, he1⟩)
  go_ret
  exact ⟨rfl, he1⟩
end Go.Sf

/-! The program's move of a path; the closure that turns paths. -/
namespace Go.Sf
open Go Go.RowKit Go.Proofs
end Go.Sf

/-! The items within a path, as they are within another one. -/
namespace Go.Sf
open Go Go.RowKit Go.Proofs
section
variable {B : Nat} {l : List It} {adr : Key → Nat} {kv : Key → Value}
end
end Go.Sf
