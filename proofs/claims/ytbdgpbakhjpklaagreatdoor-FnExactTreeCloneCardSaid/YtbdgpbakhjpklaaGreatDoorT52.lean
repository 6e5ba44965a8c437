/- The laws of the move of a drawn tree. -/
import Derived.Test.YtbdgpbakhjpklaaGreatDoorT50
import Derived.Test.YtbdgpbakhjpklaaGreatDoorT51
import Derived.Test.YtbdgpbakhjpklaaGreatDoorGI
import Derived.Test.YtbdgpbakhjpklaaGreatDoorT71
namespace Go.Sf
open Go Go.RowKit Go.Proofs
set_option maxHeartbeats 1000000 in
theorem FnTreeMoveBack_big {A : Option Addr} {n c : Nat} (w : World) (hn : 1048576 < n) (hm : n ≤ maxLen) : Calls Tryz.prog 4 #[.slice A n c] w (Ret (.bool true) w) := by
  unfold maxLen at hm
  have h : (1048576 : Int) < (n : Int) := by omega
  go_enter Tryz.func4, Tryz.ntmps4
  go_wp2
  go_ret
  exact ⟨rfl, Ext.refl w⟩
set_option maxRecDepth 4000 in
set_option maxHeartbeats 2000000 in
theorem FnTreeMoveBack_c {v : Value} {xs : List Int} (w : World) (h : Bys w v xs) (hm : ML w) (hl : xs.length ≤ 1048576) : Calls Tryz.prog 4 #[v] w (Ret (.bool true) w) := by
  have H := Lib.hid h
  obtain ⟨A, c, rfl, -⟩ := h
  have HM := Lib.hid hm; clear hm
  have hn : ¬ (1048576 : Int) < (xs.length : Int) := by omega
  go_enter Tryz.func4, Tryz.ntmps4
  go_wp2_with fail
  refine (DrawTreeMove_c _ H.out).mono ?_
  rintro e w1 ⟨va, la, f, t, rfl, hIa, hla, hf, ht, he1⟩
  have HIa := Lib.hid hIa
  have HM1 := Lib.hid (HM.out.ext he1)
  have HF := Lib.hid hf; have HT := Lib.hid ht
  clear hIa hf ht
  go_wp2_with fail
  refine (TreeMove_c sort_c f t _ HIa.out HF.out HT.out HM1.out).mono ?_
  rintro e w2 ⟨v2, rfl, hU1, he2⟩
  obtain ⟨u2, rfl, hC1⟩ := hU1.plain
  have HE2 := Lib.hid (he1.trans he2)
  have HC1 := Lib.hid hC1
  have HIa2 := Lib.hid (HIa.out.ext he2)
  have HM2 := Lib.hid (HM1.out.ext he2)
  clear he1 he2 hC1 hU1
  go_wp2_with fail
  refine (specTreeMove_c f t _ HIa2.out HF.out HT.out).mono ?_
  rintro e w3 ⟨v3, rfl, ⟨u3, rfl, hC2⟩, he3⟩
  have Cs := same_tree (HC1.out.ext he3) hC2
  have HE3 := Lib.hid (HE2.out.trans he3)
  have HC3 := Lib.hid (HC1.out.ext he3)
  have HIa3 := Lib.hid (HIa2.out.ext he3)
  have HM3 := Lib.hid (HM2.out.ext he3)
  clear he3 hC2 HC1 HIa2 HM2 HE2
  cases hch : moveOf la f t with
  | none =>
    have e1 : (none : Option (List It)).isSome = false := rfl
    simp only [hch, e1] at *
    clear hch
    go_wp2_with (go_at_call 17; refine (Cs _ (by first | exact Ext.refl _ | assumption)).mono ?_; rintro e w4 ⟨rfl, he4⟩)
    go_ret
    exact ⟨rfl, HE3.out.trans (by (repeat' (first | exact Ext.refl _ | assumption | refine Ext.alloc ?_ _ | refine Ext.drew ?_ | refine Ext.drewN ?_ _ | refine Ext.trans ?_ (by assumption))))⟩
  | some o =>
    have e1 : (some o : Option (List It)).isSome = true := rfl
    have M := Lib.hid (moveOf_some hch)
    simp only [hch, e1, Option.getD_some] at *
    clear hch
    go_wp2_with (go_at_call 17; refine (Cs _ (by first | exact Ext.refl _ | assumption)).mono ?_; rintro e w4 ⟨rfl, he4⟩)
    have HM4 := Lib.hid (HM3.out.ext he4)
    have HIa4 := Lib.hid (HIa3.out.ext he4)
    have HE4 := Lib.hid (HE3.out.trans he4)
    have HC4 := Lib.hid (HC3.out.ext he4)
    clear he4 Cs HM3 HIa3 HE3 HC3
    have hbk := Lib.hid (move_back M.out)
    go_wp2_with fail
    refine (TreeMove_c sort_c t f _ HC4.out HT.out HF.out HM4.out).mono ?_
    rintro e w5 ⟨v5, rfl, hU5, he5⟩
    obtain ⟨u5, rfl, hC5⟩ := hU5.plain
    clear hU5
    simp only [hbk.out, Option.isSome_some, Option.getD_some] at hC5 ⊢
    have HE5 := Lib.hid (HE4.out.trans he5)
    have Ct := same_tree hC5 (HIa4.out.ext he5)
    clear he5 hC5 hbk
    go_wp2_with (go_at_call 17; refine (Ct _ (by first | exact Ext.refl _ | assumption)).mono ?_; rintro e w6 ⟨rfl, he6⟩)
    go_ret
    exact ⟨rfl, HE5.out.trans (by (repeat' (first | exact Ext.refl _ | assumption | refine Ext.alloc ?_ _ | refine Ext.drew ?_ | refine Ext.drewN ?_ _ | refine Ext.trans ?_ (by assumption))))⟩
end Go.Sf
