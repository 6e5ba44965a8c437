/- The law of the changes that are run in a drawn tree. -/
import Derived.Test.YtbdgpbakhjpklaaGreatDoorT68
import Derived.Test.YtbdgpbakhjpklaaGreatDoorT27
namespace Go.Sf
open Go Go.RowKit Go.Proofs
set_option maxHeartbeats 1000000 in
theorem FnChangesRun_big {A : Option Addr} {n c : Nat} (w : World) (hn : 1048576 < n) (hm : n ≤ maxLen) : Calls Tryz.prog 12 #[.slice A n c] w (Ret (.bool true) w) := by
  unfold maxLen at hm
  have h : (1048576 : Int) < (n : Int) := by omega
  go_enter Tryz.func12, Tryz.ntmps12
  go_wp2
  go_ret
  exact ⟨rfl, Ext.refl w⟩
set_option maxRecDepth 4000 in
set_option maxHeartbeats 2000000 in
theorem FnChangesRun_c {v : Value} {xs : List Int} (w : World) (h : Bys w v xs) (hm : ML w) (hl : xs.length ≤ 1048576) : Calls Tryz.prog 12 #[v] w (Ret (.bool true) w) := by
  have H := Lib.hid h
  obtain ⟨A, c, rfl, -⟩ := h
  have HM := Lib.hid hm; clear hm
  have hn : ¬ (1048576 : Int) < (xs.length : Int) := by omega
  go_enter Tryz.func12, Tryz.ntmps12
  go_wp2_with fail
  refine (DrawChangesRun_c _ H.out).mono ?_
  rintro e w1 ⟨va, vc, la, cs, rfl, hIa, hCs, hla, hcs, he1⟩
  have HIa := Lib.hid hIa; have HCs := Lib.hid hCs
  have HM1 := Lib.hid (HM.out.ext he1)
  clear hIa hCs
  go_wp2_with fail
  refine (ChangesRun_c _ HIa.out HCs.out HM1.out (by omega)).mono ?_
  rintro e w2 ⟨v2, rfl, hU1, he2⟩
  obtain ⟨u2, rfl, hC1⟩ := hU1.plain
  have HE2 := Lib.hid (he1.trans he2)
  have HC1 := Lib.hid hC1
  have HIa2 := Lib.hid (HIa.out.ext he2); have HCs2 := Lib.hid (HCs.out.ext he2)
  have HM2 := Lib.hid (HM1.out.ext he2)
  clear he1 he2 hC1 hU1
  go_wp2_with fail
  refine (specChangesRun_c _ HIa2.out HCs2.out (by omega)).mono ?_
  rintro e w3 ⟨v3, rfl, ⟨u3, rfl, hC2⟩, he3⟩
  have Cs := same_tree (HC1.out.ext he3) hC2
  have HE3 := Lib.hid (HE2.out.trans he3)
  have HC3 := Lib.hid (HC1.out.ext he3)
  have HIa3 := Lib.hid (HIa2.out.ext he3)
  have HM3 := Lib.hid (HM2.out.ext he3)
  clear he3 hC2 HC1 HIa2 HM2 HE2 HCs HCs2
  cases hch : runOf la cs with
  | none =>
    have e1 : (none : Option (List It)).isSome = false := rfl
    simp only [hch, e1] at *
    clear hch
    go_wp2_with (go_at_call 17; refine (Cs _ (by first | exact Ext.refl _ | assumption)).mono ?_; rintro e w4 ⟨rfl, he4⟩)
    go_ret
    exact ⟨rfl, HE3.out.trans (by (repeat' (first | exact Ext.refl _ | assumption | refine Ext.alloc ?_ _ | refine Ext.drew ?_ | refine Ext.drewN ?_ _ | refine Ext.trans ?_ (by assumption))))⟩
  | some o =>
    have e1 : (some o : Option (List It)).isSome = true := rfl
    obtain ⟨hb1, hb2, hb3⟩ := run_back hch
    have hto := (runOf_some hch).2
    simp only [hch, e1, Option.getD_some] at *
    clear hch
    go_wp2_with (go_at_call 17; refine (Cs _ (by first | exact Ext.refl _ | assumption)).mono ?_; rintro e w4 ⟨rfl, he4⟩)
    have HM4 := Lib.hid (HM3.out.ext he4)
    have HIa4 := Lib.hid (HIa3.out.ext he4)
    have HE4 := Lib.hid (HE3.out.trans he4)
    have HC4 := Lib.hid (HC3.out.ext he4)
    clear he4 Cs
    go_wp2_with fail
    refine (ChangesOf_c _ (HIa4.out.keep (B' := 0) (Nat.zero_le _) (fun _ _ _ => rfl)) (HC4.out.keep (B' := 0) (Nat.zero_le _) (fun _ _ _ => rfl)) HM4.out).mono ?_
    rintro e w5 ⟨v5, rfl, ⟨u5, rfl, hC5⟩, he5⟩
    simp only [hb1, Option.isSome_some, Option.getD_some] at hC5 ⊢
    have HM5 := Lib.hid (HM4.out.ext he5)
    have HIa5 := Lib.hid (HIa4.out.ext he5)
    have HE5 := Lib.hid (HE4.out.trans he5)
    have HC5 := Lib.hid (HC4.out.ext he5)
    have HD5 := Lib.hid hC5
    clear he5 hC5
    go_wp2_with fail
    refine (ChangesRun_c _ HIa5.out HD5.out HM5.out (by omega)).mono ?_
    rintro e w6 ⟨v6, rfl, hU6, he6⟩
    obtain ⟨u6, rfl, hC6⟩ := hU6.plain
    simp only [hb2, Option.isSome_some, Option.getD_some] at hC6 ⊢
    have HM6 := Lib.hid (HM5.out.ext he6)
    have HE6 := Lib.hid (HE5.out.trans he6)
    have HC6 := Lib.hid (HC5.out.ext he6)
    have HD6 := Lib.hid (HD5.out.ext he6)
    have Cq := same_tree hC6 HC6.out
    have Cv : ∀ W, Ext w6 W → Calls Tryz.prog 26 #[_] W (Ret (.bool true) W) := fun W e => by have := TreeValid_c W (HC6.out.ext e) (HM6.out.ext e); rwa [hto] at this
    obtain ⟨A9, c9, e9, -⟩ := HD6.out
    generalize (chg la o).length = q at *
    subst e9
    have hq : (q : Int) ≤ 24 := by omega
    clear he6 hC6 hU6 hb1 hb2 hto HC3 HC4 HC5 HC6 HD5 HD6
    go_wp2_with (first | (go_at_call 26; refine (Cv _ (Ext.refl _)).mono ?_; rintro e w7 ⟨rfl, he7⟩) | (go_at_call 17; refine (Cq _ he7).mono ?_; rintro e w8 ⟨rfl, he8⟩))
    go_ret
    exact ⟨rfl, (HE6.out.trans he7).trans he8⟩
end Go.Sf
