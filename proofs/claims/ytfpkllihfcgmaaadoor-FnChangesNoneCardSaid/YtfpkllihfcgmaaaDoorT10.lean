/- The search for a name in a directory. -/
import Derived.Test.YtfpkllihfcgmaaaDoorT4
import Derived.Test.YtfpkllihfcgmaaaDoorP3
namespace Go.Sf
open Go Go.RowKit Go.Proofs
/-- -1, 0 or 1, as a comes ahead of b, is b, or comes behind it -/
def cmpB (a b : ByteArray) : Int := if blt a b = true then -1 else if blt b a = true then 1 else 0
theorem cmpB_lt {a b : ByteArray} (h : blt a b = true) : cmpB a b = -1 := by simp [cmpB, h]
theorem cmpB_gt {a b : ByteArray} (h1 : blt a b = false) (h : blt b a = true) : cmpB a b = 1 := by simp [cmpB, h1, h]
theorem cmpB_eq {a b : ByteArray} (h1 : blt a b = false) (h : blt b a = false) : cmpB a b = 0 := by simp [cmpB, h1, h]
theorem blt_total {a b : ByteArray} (h1 : blt a b = false) (h2 : blt b a = false) : a = b := by
  rw [blt_eq] at h1 h2; exact bl_inj (lt8_total _ _ h1 h2)
theorem blt_irrefl (a : ByteArray) : blt a a = false := by rw [blt_eq, lt8_irrefl]
theorem le_of_blt {a b : ByteArray} : (Op.bytesLess b.toList a.toList || b.toList == a.toList) = !blt a b := by
  have e : (b.toList == a.toList) = decide (b = a) := bytes_ne_iff
  rw [e]
  show (blt b a || _) = _
  cases h1 : blt a b with
  | true => have h2 : blt b a = false := by rw [blt_eq] at h1 ⊢; exact lt8_asymm h1
            have : b ≠ a := by rintro rfl; rw [blt_irrefl] at h1; cases h1
            simp [h2, this]
  | false => cases h2 : blt b a with
    | true => simp
    | false => simp [blt_total h2 h1]
set_option maxHeartbeats 1000000 in
theorem isNaN_string_c (s : ByteArray) (w : World) : Calls Tryd.prog 78 #[.string s] w (Ret (.bool false) w) := by
  go_enter Tryd.func78, Tryd.ntmps78
  go_wp2
  go_ret
  exact ⟨by simp, Ext.refl w⟩
set_option maxHeartbeats 1000000 in
theorem Compare_string_c (s t : ByteArray) (w : World) : Calls Tryd.prog 71 #[.string s, .string t] w (Ret (.int .i64 (cmpB s t)) w) := by
  cases h1 : blt s t with
  | true =>
    have H := Lib.hid (cmpB_lt h1)
    have g1 : Op.bytesLess s.toList t.toList = true := h1
    clear h1
    have he := Ext.refl w
    go_enter Tryd.func71, Tryd.ntmps71
    go_wp2_with (go_at_call 78; refine (isNaN_string_c _ _).mono ?_; rintro e w1 ⟨rfl, he1⟩; replace he := he.trans he1; clear he1)
    go_ret
    exact ⟨ret_i H.out.symm, he⟩
  | false =>
    cases h2 : blt t s with
    | true =>
      have H := Lib.hid (cmpB_gt h1 h2)
      have g1 : Op.bytesLess s.toList t.toList = false := h1
      have g2 : (s.toList == t.toList) = false := by rw [bytes_ne_iff, decide_eq_false_iff_not]; rintro rfl; rw [blt_irrefl] at h2; cases h2
      clear h1 h2
      have he := Ext.refl w
      go_enter Tryd.func71, Tryd.ntmps71
      go_wp2_with (go_at_call 78; refine (isNaN_string_c _ _).mono ?_; rintro e w1 ⟨rfl, he1⟩; replace he := he.trans he1; clear he1)
      go_ret
      exact ⟨ret_i H.out.symm, he⟩
    | false =>
      have H := Lib.hid (cmpB_eq h1 h2)
      have g1 : Op.bytesLess s.toList t.toList = false := h1
      have g2 : (s.toList == t.toList) = true := by rw [bytes_ne_iff, decide_eq_true_iff]; exact blt_total h1 h2
      clear h1 h2
      have he := Ext.refl w
      go_enter Tryd.func71, Tryd.ntmps71
      go_wp2_with (go_at_call 78; refine (isNaN_string_c _ _).mono ?_; rintro e w1 ⟨rfl, he1⟩; replace he := he.trans he1; clear he1)
      go_ret
      exact ⟨ret_i H.out.symm, he⟩
end Go.Sf
