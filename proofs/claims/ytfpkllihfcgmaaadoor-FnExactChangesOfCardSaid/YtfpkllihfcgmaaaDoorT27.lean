/- The laws of the changes of two drawn trees. -/
import Derived.Test.YtfpkllihfcgmaaaDoorGG
import Derived.Test.YtfpkllihfcgmaaaDoorGA
namespace Go.Sf
open Go Go.RowKit Go.Proofs
/-- the two answers are the same list -/
theorem same_true {B B' : Nat} {u v : Value} {L : List Ch} {w : World} (h1 : Chs B w u L) (h2 : Chs B' w v L) : ∀ W, Ext w W → Calls Tryd.prog 11 #[u, v] W (Ret (.bool true) W) := fun W e => by
  have := laws_sameChanges_c W (h1.ext e) (h2.ext e)
  rwa [show eqb L L = true from eqb_true.2 rfl] at this
/-- what the count leaves -/
theorem cnt_cells {w : World} {g : Nat} {a b c : Value} (h : Blk w g 3 #[a, b, c]) : (∀ W, Ext w W → W.cell? ⟨g, 0, none⟩ = some a) ∧ (∀ W, Ext w W → W.cell? ⟨g, 1, none⟩ = some b) ∧ (∀ W, Ext w W → W.cell? ⟨g, 2, none⟩ = some c) :=
  ⟨fun W e => by simpa using (h.ext e).cell 0, fun W e => by simpa using (h.ext e).cell 1, fun W e => by simpa using (h.ext e).cell 2⟩
theorem its_empty (B : Nat) (w : World) (g : Nat) : Its B w (.slice (some ⟨g, 0, none⟩) 0 0) [] := SlOf.empty _ _ _ _ _ _ _ (Nat.zero_le _) (fun _ => rfl)
set_option maxHeartbeats 1000000 in
theorem FnChangesBack_big {A : Option Addr} {n c : Nat} (w : World) (hn : 1048576 < n) (hm : n ≤ maxLen) : Calls Tryd.prog 3 #[.slice A n c] w (Ret (.bool true) w) := by
  unfold maxLen at hm
  have h : (1048576 : Int) < (n : Int) := by omega
  go_enter Tryd.func3, Tryd.ntmps3
  go_wp2
  go_ret
  exact ⟨rfl, Ext.refl w⟩
set_option maxRecDepth 4000 in
set_option maxHeartbeats 2000000 in
theorem FnChangesBack_c {v : Value} {xs : List Int} (w : World) (h : Bys w v xs) (hm : ML w) (hl : xs.length ≤ 1048576) : Calls Tryd.prog 3 #[v] w (Ret (.bool true) w) := by
  have H := Lib.hid h
  obtain ⟨A, c, rfl, -⟩ := h
  have HM := Lib.hid hm; clear hm
  have hn : ¬ (1048576 : Int) < (xs.length : Int) := by omega
  go_enter Tryd.func3, Tryd.ntmps3
  go_wp2_with fail
  refine (DrawChangesOf_c _ H.out).mono ?_
  rintro e w1 ⟨va, vb, la, lb, rfl, hIa, hIb, hla, hlb, he1⟩
  have HIa := Lib.hid hIa; have HIb := Lib.hid hIb
  have HM1 := Lib.hid (HM.out.ext he1)
  clear hIa hIb
  go_wp2_with fail
  refine (ChangesOf_c _ HIa.out HIb.out HM1.out).mono ?_
  rintro e w2 ⟨v2, rfl, ⟨u2, rfl, hC1⟩, he2⟩
  have HE2 := Lib.hid (he1.trans he2)
  have HC1 := Lib.hid hC1
  have HIa2 := Lib.hid (HIa.out.ext he2); have HIb2 := Lib.hid (HIb.out.ext he2)
  have HM2 := Lib.hid (HM1.out.ext he2)
  clear he1 he2 hC1
  go_wp2_with fail
  refine (specChangesOf_c _ HIa2.out HIb2.out (by unfold lim; omega)).mono ?_
  rintro e w3 ⟨v3, rfl, ⟨u3, rfl, hC2⟩, he3⟩
  have Cs := same_true (HC1.out.ext he3) hC2
  have HE3 := Lib.hid (HE2.out.trans he3)
  have HC3 := Lib.hid (HC1.out.ext he3)
  have HIa3 := Lib.hid (HIa2.out.ext he3); have HIb3 := Lib.hid (HIb2.out.ext he3)
  have HM3 := Lib.hid (HM2.out.ext he3)
  clear he3 hC2
  cases hch : chgOf la lb with
  | none =>
    have e1 : (none : Option (List Ch)).isSome = false := rfl
    simp only [hch, e1] at *
    clear hch
    go_wp2_with (go_at_call 11; refine (Cs _ (by first | exact Ext.refl _ | assumption)).mono ?_; rintro e w4 ⟨rfl, he4⟩)
    go_ret
    exact ⟨rfl, HE3.out.trans (by (repeat' (first | exact Ext.refl _ | assumption | refine Ext.alloc ?_ _ | refine Ext.drew ?_ | refine Ext.drewN ?_ _ | refine Ext.trans ?_ (by assumption))))⟩
  | some L =>
    have e1 : (some L : Option (List Ch)).isSome = true := rfl
    have hLL := chgOf_some hch
    simp only [hch, e1, Option.getD_some] at *
    obtain ⟨hta, htb, rfl⟩ := hLL
    have Hta := Lib.hid hta; have Htb := Lib.hid htb
    clear hch hta htb
    go_wp2_with (go_at_call 11; refine (Cs _ (by first | exact Ext.refl _ | assumption)).mono ?_; rintro e w4 ⟨rfl, he4⟩)
    have HM4 := Lib.hid (HM3.out.ext he4)
    have HIa4 := Lib.hid (HIa3.out.ext he4); have HIb4 := Lib.hid (HIb3.out.ext he4)
    have HE4 := Lib.hid (HE3.out.trans he4)
    have HC4 := Lib.hid (HC3.out.ext he4)
    clear he4 Cs
    have hch2 : chgOf lb la = some (chg lb la) := chgOf_of Htb.out Hta.out
    go_wp2_with fail
    refine (ChangesOf_c _ HIb4.out HIa4.out HM4.out).mono ?_
    rintro e w5 ⟨v5, rfl, ⟨u5, rfl, hC5⟩, he5⟩
    simp only [hch2, Option.isSome_some, Option.getD_some] at hC5 ⊢
    have HE5 := Lib.hid (HE4.out.trans he5)
    have HC5 := Lib.hid (HC4.out.ext he5)
    have HD5 := Lib.hid hC5
    clear he5 hC5
    go_wp2_with fail
    refine (ChangesCount_c _ HC5.out (kindsOk_chg _ _)).mono ?_
    rintro e w6 ⟨v6, rfl, ⟨rfl, hb6⟩, he6⟩
    have HE6 := Lib.hid (HE5.out.trans he6)
    have HD6 := Lib.hid (HD5.out.ext he6)
    have HC6 := Lib.hid (HC5.out.ext he6)
    have HB6 := Lib.hid hb6
    clear he6 hb6
    go_wp2_with fail
    refine (ChangesCount_c _ HD6.out (kindsOk_chg _ _)).mono ?_
    rintro e w7 ⟨v7, rfl, ⟨rfl, hb7⟩, he7⟩
    have HE7 := Lib.hid (HE6.out.trans he7)
    obtain ⟨a0, a1, a2⟩ := cnt_cells (HB6.out.ext he7)
    obtain ⟨b0, b1, b2⟩ := cnt_cells hb7
    obtain ⟨Ac, cc, rfl, hcl⟩ := HC6.out
    obtain ⟨Ad, cd, rfl, -⟩ := HD6.out
    have hll := hcl.2.2.1
    unfold lim at hll
    obtain ⟨s1, s2, s3, s4⟩ := chg_swap lb la
    rw [s1] at b0; rw [s2] at b1; rw [s3] at b2; rw [s4]
    have k1 := cntK_le 1 (chg la lb); have k2 := cntK_le 2 (chg la lb); have k3 := cntK_le 3 (chg la lb)
    clear he7 hb7 s1 s2 s3 s4 hcl HB6 HC6 HD6 HC5 HD5 HC4 HC3 HC1 hch2 HIa HIb HIa2 HIb2 HIa3 HIb3 HIa4 HIb4
    generalize cntK 1 (chg la lb) = n1 at *
    generalize cntK 2 (chg la lb) = n2 at *
    generalize cntK 3 (chg la lb) = n3 at *
    generalize (chg la lb).length = nn at *
    go_wp2_with fail
    (refine wp_region_hold (fun W => Ext w7 W) 33 [(0, true), (1, true), (2, true), (3, true), (4, true), (5, true), (6, true), (7, true), (8, true), (9, true), (10, true), (11, true), (12, true), (13, true), (14, true), (15, true), (16, true), (17, true), (18, true), (19, true), (20, true), (21, true), (22, true), (23, true), (24, true), (25, true), (26, true), (27, true), (28, true), (29, true), (30, true), (31, true), (32, true)] (by kernel_rfl) (by kernel_rfl) ?_ ?_; (· (show Ext _ _); (repeat' (first | exact Ext.refl _ | assumption | refine Ext.alloc ?_ _ | refine Ext.drew ?_ | refine Ext.drewN ?_ _ | refine Ext.trans ?_ (by assumption)))); (repeat (first | (apply hw_read (by rfl) (by rfl); (· (intro W hW; (try dsimp only at hW); go_simp; (first | done | rfl | (rw [if_pos] <;> first | omega | rfl)))); (try simp only [Act.put, List.setIfInBounds_toArray, List.set_cons_zero, List.set_cons_succ])) | (refine hw_skip (by rfl) (by rfl) ?_; (try simp only [Act.put, List.setIfInBounds_toArray, List.set_cons_zero, List.set_cons_succ])))); (refine hw_nil ?_; simp only [List.drop_succ_cons, List.drop_zero]); go_wp2; all_goals (refine NoPanic.normal ?_; (try dsimp only [Exit.then])))
    all_goals go_wp2
    all_goals go_ret
    all_goals exact ⟨rfl, HE7.out.drew⟩
set_option maxHeartbeats 1000000 in
theorem FnChangesNew_big {A : Option Addr} {n c : Nat} (w : World) (hn : 1048576 < n) (hm : n ≤ maxLen) : Calls Tryd.prog 4 #[.slice A n c] w (Ret (.bool true) w) := by
  unfold maxLen at hm
  have h : (1048576 : Int) < (n : Int) := by omega
  go_enter Tryd.func4, Tryd.ntmps4
  go_wp2
  go_ret
  exact ⟨rfl, Ext.refl w⟩
set_option maxRecDepth 4000 in
set_option maxHeartbeats 2000000 in
theorem FnChangesNew_c {v : Value} {xs : List Int} (w : World) (h : Bys w v xs) (hm : ML w) (hl : xs.length ≤ 1048576) : Calls Tryd.prog 4 #[v] w (Ret (.bool true) w) := by
  have H := Lib.hid h
  obtain ⟨A, c, rfl, -⟩ := h
  have HM := Lib.hid hm; clear hm
  have hn : ¬ (1048576 : Int) < (xs.length : Int) := by omega
  go_enter Tryd.func4, Tryd.ntmps4
  go_wp2_with fail
  refine (DrawChangesOf_c _ H.out).mono ?_
  rintro e w1 ⟨va, vb, la, lb, rfl, hIa, hIb, hla, hlb, he1⟩
  have HIa := Lib.hid hIa; have HIb := Lib.hid hIb
  have HM1 := Lib.hid (HM.out.ext he1)
  clear hIa hIb
  go_wp2_with fail
  refine (ChangesOf_c _ HIa.out HIb.out HM1.out).mono ?_
  rintro e w2 ⟨v2, rfl, ⟨u2, rfl, hC1⟩, he2⟩
  have HE2 := Lib.hid (he1.trans he2)
  have HC1 := Lib.hid hC1
  have HIa2 := Lib.hid (HIa.out.ext he2); have HIb2 := Lib.hid (HIb.out.ext he2)
  have HM2 := Lib.hid (HM1.out.ext he2)
  clear he1 he2 hC1
  go_wp2_with fail
  refine (specChangesOf_c _ HIa2.out HIb2.out (by unfold lim; omega)).mono ?_
  rintro e w3 ⟨v3, rfl, ⟨u3, rfl, hC2⟩, he3⟩
  have Cs := same_true (HC1.out.ext he3) hC2
  have HE3 := Lib.hid (HE2.out.trans he3)
  have HC3 := Lib.hid (HC1.out.ext he3)
  have HIa3 := Lib.hid (HIa2.out.ext he3); have HIb3 := Lib.hid (HIb2.out.ext he3)
  have HM3 := Lib.hid (HM2.out.ext he3)
  clear he3 hC2
  cases hch : chgOf la lb with
  | none =>
    have e1 : (none : Option (List Ch)).isSome = false := rfl
    simp only [hch, e1] at *
    clear hch
    go_wp2_with (go_at_call 11; refine (Cs _ (by first | exact Ext.refl _ | assumption)).mono ?_; rintro e w4 ⟨rfl, he4⟩)
    go_ret
    exact ⟨rfl, HE3.out.trans (by (repeat' (first | exact Ext.refl _ | assumption | refine Ext.alloc ?_ _ | refine Ext.drew ?_ | refine Ext.drewN ?_ _ | refine Ext.trans ?_ (by assumption))))⟩
  | some L =>
    have e1 : (some L : Option (List Ch)).isSome = true := rfl
    have hLL := chgOf_some hch
    simp only [hch, e1, Option.getD_some] at *
    obtain ⟨hta, htb, rfl⟩ := hLL
    have Hta := Lib.hid hta; have Htb := Lib.hid htb
    clear hch hta htb
    go_wp2_with (go_at_call 11; refine (Cs _ (by first | exact Ext.refl _ | assumption)).mono ?_; rintro e w4 ⟨rfl, he4⟩)
    have HM4 := Lib.hid (HM3.out.ext he4)
    have HIa4 := Lib.hid (HIa3.out.ext he4); have HIb4 := Lib.hid (HIb3.out.ext he4)
    have HE4 := Lib.hid (HE3.out.trans he4)
    have HC4 := Lib.hid (HC3.out.ext he4)
    clear he4 Cs
    have hch1 := chgOf_new Htb.out
    have hch2 := chgOf_gone Htb.out
    go_wp2_with fail
    refine (ChangesOf_c (l1 := []) _ (its_empty w.heap.size _ _) (HIb4.out.ext ((Ext.refl _).alloc _)) (HM4.out.ext ((Ext.refl _).alloc _))).mono ?_
    rintro e w5 ⟨v5, rfl, ⟨u5, rfl, hC5⟩, he5⟩
    simp only [hch1, Option.isSome_some, Option.getD_some] at hC5 ⊢
    have he5' := ((Ext.refl w4).alloc _).trans he5
    have HE5 := Lib.hid (HE4.out.trans he5')
    have HD5 := Lib.hid hC5
    have HI5 := Lib.hid (HIb4.out.ext he5')
    have HM5 := Lib.hid (HM4.out.ext he5')
    clear he5 hC5 he5' hch1
    go_wp2_with fail
    refine (ChangesOf_c (l2 := []) _ (HI5.out.ext ((Ext.refl _).alloc _)) (its_empty w.heap.size _ _) (HM5.out.ext ((Ext.refl _).alloc _))).mono ?_
    rintro e w6 ⟨v6, rfl, ⟨u6, rfl, hC6⟩, he6⟩
    simp only [hch2, Option.isSome_some, Option.getD_some] at hC6 ⊢
    have he6' := ((Ext.refl w5).alloc _).trans he6
    have HE6 := Lib.hid (HE5.out.trans he6')
    have HI6 := Lib.hid (HI5.out.ext he6')
    have HD6 := Lib.hid (HD5.out.ext he6')
    have HG6 := Lib.hid hC6
    clear he6 hC6 he6' hch2
    have hk1 : kindsOk (lb.map fun x => (⟨1, x⟩ : Ch)) := by rw [← chg_new]; exact kindsOk_chg _ _
    have hk2 : kindsOk (lb.map fun x => (⟨2, x⟩ : Ch)) := by rw [← chg_gone]; exact kindsOk_chg _ _
    go_wp2_with fail
    refine (ChangesCount_c _ HD6.out hk1).mono ?_
    rintro e w7 ⟨v7, rfl, ⟨rfl, hb7⟩, he7⟩
    have HE7 := Lib.hid (HE6.out.trans he7)
    have HI7 := Lib.hid (HI6.out.ext he7)
    have HD7 := Lib.hid (HD6.out.ext he7)
    have HG7 := Lib.hid (HG6.out.ext he7)
    have HB7 := Lib.hid hb7
    clear he7 hb7
    go_wp2_with fail
    refine (ChangesCount_c _ HG7.out hk2).mono ?_
    rintro e w8 ⟨v8, rfl, ⟨rfl, hb8⟩, he8⟩
    have HE8 := Lib.hid (HE7.out.trans he8)
    obtain ⟨a0, -, -⟩ := cnt_cells (HB7.out.ext he8)
    obtain ⟨-, b1, -⟩ := cnt_cells hb8
    obtain ⟨Ac, cc, rfl, -⟩ := HD7.out
    obtain ⟨Ad, cd, rfl, -⟩ := HG7.out
    obtain ⟨Ae, ce, rfl, -⟩ := HI7.out
    rw [cntK_map] at a0 b1
    have c0 := a0 w8 (Ext.refl w8); have c1 := b1 w8 (Ext.refl w8)
    simp only [List.length_map]
    clear he8 hb8 HB7 HD7 HG7 HI7 HD6 HG6 HI6 HD5 HI5 HC4 HC3 HC1 HIa HIb HIa2 HIb2 HIa3 HIb3 HIa4 HIb4 hk1 hk2 a0 b1
    generalize lb.length = nn at *
    go_wp2
    all_goals go_ret
    all_goals exact ⟨rfl, HE8.out⟩
set_option maxHeartbeats 1000000 in
theorem FnChangesNone_big {A : Option Addr} {n c : Nat} (w : World) (hn : 1048576 < n) (hm : n ≤ maxLen) : Calls Tryd.prog 5 #[.slice A n c] w (Ret (.bool true) w) := by
  unfold maxLen at hm
  have h : (1048576 : Int) < (n : Int) := by omega
  go_enter Tryd.func5, Tryd.ntmps5
  go_wp2
  go_ret
  exact ⟨rfl, Ext.refl w⟩
set_option maxRecDepth 4000 in
set_option maxHeartbeats 2000000 in
theorem FnChangesNone_c {v : Value} {xs : List Int} (w : World) (h : Bys w v xs) (hm : ML w) (hl : xs.length ≤ 1048576) : Calls Tryd.prog 5 #[v] w (Ret (.bool true) w) := by
  have H := Lib.hid h
  obtain ⟨A, c, rfl, -⟩ := h
  have HM := Lib.hid hm; clear hm
  have hn : ¬ (1048576 : Int) < (xs.length : Int) := by omega
  go_enter Tryd.func5, Tryd.ntmps5
  go_wp2_with fail
  refine (DrawChangesOf_c _ H.out).mono ?_
  rintro e w1 ⟨va, vb, la, lb, rfl, hIa, hIb, hla, hlb, he1⟩
  have HIa := Lib.hid hIa; have HIb := Lib.hid hIb
  have HM1 := Lib.hid (HM.out.ext he1)
  clear hIa hIb
  go_wp2_with fail
  refine (ChangesOf_c _ HIa.out HIb.out HM1.out).mono ?_
  rintro e w2 ⟨v2, rfl, ⟨u2, rfl, hC1⟩, he2⟩
  have HE2 := Lib.hid (he1.trans he2)
  have HC1 := Lib.hid hC1
  have HIa2 := Lib.hid (HIa.out.ext he2); have HIb2 := Lib.hid (HIb.out.ext he2)
  have HM2 := Lib.hid (HM1.out.ext he2)
  clear he1 he2 hC1
  go_wp2_with fail
  refine (specChangesOf_c _ HIa2.out HIb2.out (by unfold lim; omega)).mono ?_
  rintro e w3 ⟨v3, rfl, ⟨u3, rfl, hC2⟩, he3⟩
  have Cs := same_true (HC1.out.ext he3) hC2
  have HE3 := Lib.hid (HE2.out.trans he3)
  have HC3 := Lib.hid (HC1.out.ext he3)
  have HIa3 := Lib.hid (HIa2.out.ext he3); have HIb3 := Lib.hid (HIb2.out.ext he3)
  have HM3 := Lib.hid (HM2.out.ext he3)
  clear he3 hC2
  cases hch : chgOf la lb with
  | none =>
    have e1 : (none : Option (List Ch)).isSome = false := rfl
    simp only [hch, e1] at *
    clear hch
    go_wp2_with (go_at_call 11; refine (Cs _ (by first | exact Ext.refl _ | assumption)).mono ?_; rintro e w4 ⟨rfl, he4⟩)
    go_ret
    exact ⟨rfl, HE3.out.trans (by (repeat' (first | exact Ext.refl _ | assumption | refine Ext.alloc ?_ _ | refine Ext.drew ?_ | refine Ext.drewN ?_ _ | refine Ext.trans ?_ (by assumption))))⟩
  | some L =>
    have e1 : (some L : Option (List Ch)).isSome = true := rfl
    have hLL := chgOf_some hch
    simp only [hch, e1, Option.getD_some] at *
    obtain ⟨hta, htb, rfl⟩ := hLL
    have Hta := Lib.hid hta; have Htb := Lib.hid htb
    clear hch hta htb
    go_wp2_with (go_at_call 11; refine (Cs _ (by first | exact Ext.refl _ | assumption)).mono ?_; rintro e w4 ⟨rfl, he4⟩)
    have HM4 := Lib.hid (HM3.out.ext he4)
    have HIa4 := Lib.hid (HIa3.out.ext he4); have HIb4 := Lib.hid (HIb3.out.ext he4)
    have HE4 := Lib.hid (HE3.out.trans he4)
    have HC4 := Lib.hid (HC3.out.ext he4)
    clear he4 Cs
    have hch1 : chgOf la la = some [] := by rw [chgOf_of Hta.out Hta.out, chg_self]
    go_wp2_with fail
    refine (ChangesOf_c _ HIa4.out HIa4.out HM4.out).mono ?_
    rintro e w5 ⟨v5, rfl, ⟨u5, rfl, hC5⟩, he5⟩
    simp only [hch1, Option.isSome_some, Option.getD_some] at hC5 ⊢
    have HE5 := Lib.hid (HE4.out.trans he5)
    have HC5 := Lib.hid (HC4.out.ext he5)
    have Cq : ∀ W, Ext w5 W → Calls Tryd.prog 13 #[va, vb] W (Ret (.bool (eqb la lb)) W) := fun W e => laws_sameTree_c W (HIa4.out.ext (he5.trans e)) (HIb4.out.ext (he5.trans e))
    obtain ⟨Ac, cc, rfl, -⟩ := hC5
    obtain ⟨Ad, cd, rfl, hcl⟩ := HC5.out
    have hll := hcl.2.2.1
    unfold lim at hll
    have hq : Hid (((((chg la lb).length : Int) == 0) == eqb la lb) = true) := Lib.hid (by
      by_cases h : la = lb
      · rw [h, chg_self, eqb_true.2 rfl]; rfl
      · have h0 : chg la lb ≠ [] := fun k => h (chg_eq_nil _ _ k)
        have h1 : 0 < (chg la lb).length := List.length_pos_iff.2 h0
        have e2 : (((chg la lb).length : Int) == 0) = false := by rw [beq_eq_false_iff_ne]; omega
        rw [e2, eqb_false.2 h]; rfl)
    clear hcl HC5 HC4 HC3 HC1 HIa HIb HIa2 HIb2 HIa3 HIb3 HIa4 HIb4 hch1 he5
    generalize (chg la lb).length = nn at *
    generalize eqb la lb = bb at *
    go_wp2_with (go_at_call 13; refine (Cq _ (by first | exact Ext.refl _ | assumption)).mono ?_; rintro e w6 ⟨rfl, he6⟩)
    · go_ret
      exact ⟨rfl, HE5.out.trans he6⟩
    · rename_i h
      exact absurd (eq_of_beq hq.out) h
end Go.Sf
