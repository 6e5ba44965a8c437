/- The law of the changes that lead from one drawn tree to another one. -/
import Derived.Test.YtbdgpbakhjpklaaGreatDoorT27
import Derived.Test.YtbdgpbakhjpklaaGreatDoorT65
namespace Go.Sf
open Go Go.RowKit Go.Proofs
set_option maxHeartbeats 1000000 in
theorem FnChanges_big {A : Option Addr} {n c : Nat} (w : World) (hn : 1048576 < n) (hm : n ≤ maxLen) : Calls Tryz.prog 10 #[.slice A n c] w (Ret (.bool true) w) := by
  unfold maxLen at hm
  have h : (1048576 : Int) < (n : Int) := by omega
  go_enter Tryz.func10, Tryz.ntmps10
  go_wp2
  go_ret
  exact ⟨rfl, Ext.refl w⟩
set_option maxRecDepth 4000 in
set_option maxHeartbeats 2000000 in
theorem FnChanges_c {v : Value} {xs : List Int} (w : World) (h : Bys w v xs) (hm : ML w) (hl : xs.length ≤ 1048576) : Calls Tryz.prog 10 #[v] w (Ret (.bool true) w) := by
  have H := Lib.hid h
  obtain ⟨A, c, rfl, -⟩ := h
  have HM := Lib.hid hm; clear hm
  have hn : ¬ (1048576 : Int) < (xs.length : Int) := by omega
  go_enter Tryz.func10, Tryz.ntmps10
  go_wp2_with fail
  refine (DrawChangesOf_c _ H.out).mono ?_
  rintro e w1 ⟨va, vb, la, lb, rfl, hIa, hIb, hla, hlb, he1⟩
  have HIa := Lib.hid hIa; have HIb := Lib.hid hIb
  have HM1 := Lib.hid (HM.out.ext he1)
  clear hIa hIb
  go_wp2_with fail
  refine (ChangesOf_c _ HIa.out HIb.out HM1.out).mono ?_
  rintro e w2 ⟨v2, rfl, ⟨u2, rfl, hC1⟩, he2⟩
  have HE2 := Lib.hid (he1.trans he2)
  have HC1 := Lib.hid hC1
  have HIa2 := Lib.hid (HIa.out.ext he2); have HIb2 := Lib.hid (HIb.out.ext he2)
  have HM2 := Lib.hid (HM1.out.ext he2)
  clear he1 he2 hC1
  go_wp2_with fail
  refine (specChangesOf_c _ HIa2.out HIb2.out (by unfold lim; omega)).mono ?_
  rintro e w3 ⟨v3, rfl, ⟨u3, rfl, hC2⟩, he3⟩
  have Cs := same_true (HC1.out.ext he3) hC2
  have HE3 := Lib.hid (HE2.out.trans he3)
  have HC3 := Lib.hid (HC1.out.ext he3)
  have HIa3 := Lib.hid (HIa2.out.ext he3); have HIb3 := Lib.hid (HIb2.out.ext he3)
  have HM3 := Lib.hid (HM2.out.ext he3)
  clear he3 hC2
  cases hch : chgOf la lb with
  | none =>
    have e1 : (none : Option (List Ch)).isSome = false := rfl
    simp only [hch, e1] at *
    clear hch
    go_wp2_with (go_at_call 35; refine (Cs _ (by first | exact Ext.refl _ | assumption)).mono ?_; rintro e w4 ⟨rfl, he4⟩)
    go_ret
    exact ⟨rfl, HE3.out.trans (by (repeat' (first | exact Ext.refl _ | assumption | refine Ext.alloc ?_ _ | refine Ext.drew ?_ | refine Ext.drewN ?_ _ | refine Ext.trans ?_ (by assumption))))⟩
  | some L =>
    have e1 : (some L : Option (List Ch)).isSome = true := rfl
    have hLL := chgOf_some hch
    simp only [hch, e1, Option.getD_some] at *
    obtain ⟨hta, htb, rfl⟩ := hLL
    have Hta := Lib.hid hta; have Htb := Lib.hid htb
    clear hch hta htb
    go_wp2_with (go_at_call 35; refine (Cs _ (by first | exact Ext.refl _ | assumption)).mono ?_; rintro e w4 ⟨rfl, he4⟩)
    have HM4 := Lib.hid (HM3.out.ext he4)
    have HIa4 := Lib.hid (HIa3.out.ext he4); have HIb4 := Lib.hid (HIb3.out.ext he4)
    have HE4 := Lib.hid (HE3.out.trans he4)
    have HC4 := Lib.hid (HC3.out.ext he4)
    clear he4 Cs
    have hrun := run_chg Hta.out Htb.out
    have hcl := chgs_len la lb
    go_wp2_with fail
    refine (ChangesRun_c _ HIa4.out HC4.out HM4.out (by omega)).mono ?_
    rintro e w5 ⟨v5, rfl, hU5, he5⟩
    obtain ⟨u5, rfl, hT5⟩ := hU5.plain
    simp only [hrun, Option.isSome_some, Option.getD_some] at hT5 ⊢
    have Cs5 := same_tree hT5 (HIb4.out.ext he5)
    have HE5 := Lib.hid (HE4.out.trans he5)
    clear he5 hT5 hU5 hrun hcl
    go_wp2_with (go_at_call 17; refine (Cs5 _ (Ext.refl _)).mono ?_; rintro e w6 ⟨rfl, he6⟩)
    go_ret
    exact ⟨rfl, HE5.out.trans he6⟩
end Go.Sf
