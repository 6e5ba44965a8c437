/- The exact law of ChangesRun. -/
import Derived.Test.YtbdgpbakhjpklaaGreatDoorT33
import Derived.Test.YtbdgpbakhjpklaaGreatDoorT65
import Derived.Test.YtbdgpbakhjpklaaGreatDoorGL
import Derived.Test.YtbdgpbakhjpklaaGreatDoorGL
namespace Go.Sf
open Go Go.RowKit Go.Proofs
theorem bkc_len (l : List Ch) : l.length ≤ bkChs l := by unfold bkChs; omega
set_option maxRecDepth 8000 in
set_option maxHeartbeats 4000000 in
theorem FnExactChangesRun_c {va vb : Value} {la : List It} {lb : List Ch} (w : World) (ha : AIts w va la) (hb : AChs w vb lb) (hm : ML w) : Calls Tryz.prog 13 #[va, vb] w (Ret (.bool true) w) := by
  have HA := Lib.hid ha; have HB := Lib.hid hb; have HM := Lib.hid hm
  clear ha hb hm
  by_cases h1 : (1048576 : Int) < (bkIts la : Nat)
  · have Hd : Hid (dec 1048576 (bkIts la) = -1) := Lib.hid (dec_neg h1)
    clear h1
    go_enter Tryz.func13, Tryz.ntmps13
    go_wp2_with fail
    refine (szItemS_c w HA.out (by omega) (by omega)).mono ?_
    rintro e w1 ⟨rfl, he1⟩
    rw [Hd.out]
    go_wp2
    go_ret
    exact ⟨rfl, he1⟩
  by_cases h2 : (1048576 : Int) - (bkIts la : Nat) < (bkChs lb : Nat)
  · have Hd1 : Hid (dec 1048576 (bkIts la) = 1048576 - (bkIts la : Nat)) := Lib.hid (dec_pos h1)
    have Hd2 : Hid (dec (1048576 - (bkIts la : Nat)) (bkChs lb) = -1) := Lib.hid (dec_neg h2)
    clear h2
    go_enter Tryz.func13, Tryz.ntmps13
    go_wp2_with fail
    refine (szItemS_c w HA.out (by omega) (by omega)).mono ?_
    rintro e w1 ⟨rfl, he1⟩
    rw [Hd1.out]
    go_wp2_with fail
    refine (szChangeS_c w1 (HB.out.ext he1) (by omega) (by omega)).mono ?_
    rintro e w2 ⟨rfl, he2⟩
    rw [Hd2.out]
    go_wp2
    go_ret
    exact ⟨rfl, he1.trans he2⟩
  have Hd1 : Hid (dec 1048576 (bkIts la) = 1048576 - (bkIts la : Nat)) := Lib.hid (dec_pos h1)
  have Hd2 : Hid (dec (1048576 - (bkIts la : Nat)) (bkChs lb) = 1048576 - (bkIts la : Nat) - (bkChs lb : Nat)) := Lib.hid (dec_pos h2)
  have Ha : Hid (bkIts la ≤ 1048576) := Lib.hid (by omega)
  have Hb : Hid (bkChs lb ≤ 1048576) := Lib.hid (by omega)
  have Hlen : Hid (lb.length ≤ 4000000) := Lib.hid (by have := bkc_len lb; omega)
  go_enter Tryz.func13, Tryz.ntmps13
  go_wp2_with fail
  refine (szItemS_c w HA.out (by omega) (by omega)).mono ?_
  rintro e w1 ⟨rfl, he1⟩
  rw [Hd1.out]
  go_wp2_with fail
  refine (szChangeS_c w1 (HB.out.ext he1) (by omega) (by omega)).mono ?_
  rintro e w2 ⟨rfl, he2⟩
  rw [Hd2.out]
  have E2 := Lib.hid (he1.trans he2)
  clear he1 he2
  generalize (1048576 : Int) - (bkIts la : Nat) = D1 at *
  -- the reference's answer
  go_wp2_with fail
  refine (toItemS_c w2 (HA.out.ext E2.out) Ha.out).mono ?_
  rintro e w3 ⟨u3, rfl, ⟨lu3, hm3, hI3, -⟩, he3⟩
  have E3 := Lib.hid (E2.out.trans he3)
  have HI3 : Hid (Its 0 w3 u3 la) := Lib.hid (by have := hI3.its; rw [hm3] at this; exact this.keep (Nat.zero_le _) (fun _ _ _ => rfl))
  clear hm3 hI3 he3
  go_wp2_with fail
  refine (toChangeS_c w3 (HB.out.ext E3.out) Hb.out).mono ?_
  rintro e w4 ⟨u4, rfl, ⟨lu4, hm4, hI4, -⟩, he4⟩
  have E4 := Lib.hid (E3.out.trans he4)
  have HI4 : Hid (Chs 0 w4 u4 lb) := Lib.hid (by have := hI4.plain; rw [hm4] at this; exact this.keep (Nat.zero_le _) (fun _ _ _ => rfl))
  have HI3b := Lib.hid (HI3.out.ext he4)
  clear hm4 hI4 he4 HI3
  go_wp2_with fail
  refine (specChangesRun_c w4 HI3b.out HI4.out Hlen.out).mono ?_
  rintro e w5 ⟨v5, rfl, ⟨u5, rfl, hC5⟩, he5⟩
  have E5 := Lib.hid (E4.out.trans he5)
  have HC5 := Lib.hid hC5
  clear hC5 he5 HI3b HI4 E2 E3 E4
  -- the program's arguments and its answer
  go_wp2_with fail
  refine (toItemS_c w5 (HA.out.ext E5.out) Ha.out).mono ?_
  rintro e w6 ⟨x0, rfl, ⟨lx, hmx, hX, hSx⟩, he6⟩
  have HX := Lib.hid hX; have Hmx := Lib.hid hmx; have HSx := Lib.hid hSx; have E6 := Lib.hid he6
  clear hX hmx hSx he6
  go_wp2_with fail
  refine (toChangeS_c w6 (HB.out.ext (E5.out.trans E6.out)) Hb.out).mono ?_
  rintro e w7 ⟨x1, rfl, ⟨ly, hmy, hY, hSy⟩, he7⟩
  have HY := Lib.hid hY; have Hmy := Lib.hid hmy; have HSy := Lib.hid hSy; have E7 := Lib.hid he7
  clear hY hmy hSy he7
  go_wp2_with fail
  refine (ChangesRun_c w7 (B := 0) (B' := 0) (l := la) (cs := lb) (by have := (HX.out.ext E7.out).its; rw [Hmx.out] at this; exact this.keep (Nat.zero_le _) (fun _ _ _ => rfl)) (by have := HY.out.plain; rw [Hmy.out] at this; exact this.keep (Nat.zero_le _) (fun _ _ _ => rfl)) (HM.out.ext ((E5.out.trans E6.out).trans E7.out)) Hlen.out).mono ?_
  rintro e w8 ⟨v8, rfl, ⟨g0, L, rfl, hmL, hG, hSG⟩, he8⟩
  have HG := Lib.hid hG; have HmL := Lib.hid hmL; have HSG := Lib.hid hSG; have E8 := Lib.hid he8
  clear hG hmL hSG he8
  generalize hbb : (runOf la lb).isSome = bb at *
  have Hbb := Lib.hid hbb; clear hbb
  -- all that is told of the answers in later worlds
  have CW : Hid (∀ W, Ext w5 W → ItsU w7.heap.size W g0 L → Calls Tryz.prog 29 #[g0, u5] W (Ret (.bool true) W)) := Lib.hid fun W e hg => by
    have := laws_eqItemS_c W hg.its (HC5.out.ext e)
    rwa [HmL.out, show eqb ((runOf la lb).getD []) ((runOf la lb).getD []) = true from eqb_true.2 rfl] at this
  go_wp2_with fail
  refine (CW.out _ ((E6.out.trans E7.out).trans E8.out) HG.out).mono ?_
  rintro e w9 ⟨rfl, he9⟩
  have E9 := Lib.hid he9; clear he9
  have W9 := Lib.hid ((((E5.out.trans E6.out).trans E7.out).trans E8.out).trans E9.out)
  go_wp2_with fail
  -- the arguments are as they were
  refine (toItemS_c w9 (HA.out.ext W9.out) Ha.out).mono ?_
  rintro e w10 ⟨ua, rfl, ⟨la', hma, hUa, -⟩, he10⟩
  have HUa : Hid (Its w9.heap.size w10 ua la) := Lib.hid (by have := hUa.its; rwa [hma] at this)
  have E10 := Lib.hid he10; clear he10 hUa hma
  go_wp2_with fail
  refine (laws_eqItemS_c (xs := la) (ys := la) w10 (by have := (HX.out.ext (((E7.out.trans E8.out).trans E9.out).trans E10.out)).its; rwa [Hmx.out] at this) HUa.out).mono ?_
  rw [show eqb la la = true from eqb_true.2 rfl]
  rintro e w11 ⟨rfl, he11⟩
  have E11 := Lib.hid (E10.out.trans he11); clear he11 HUa E10
  go_wp2_with fail
  refine (toChangeS_c w11 (HB.out.ext (W9.out.trans E11.out)) Hb.out).mono ?_
  rintro e w12 ⟨ub, rfl, ⟨lb', hmb, hUb, -⟩, he12⟩
  have HUb : Hid (Chs w11.heap.size w12 ub lb) := Lib.hid (by have := hUb.plain; rwa [hmb] at this)
  have E12 := Lib.hid he12; clear he12 hUb hmb
  go_wp2_with fail
  refine (laws_eqChangeS_c (xs := lb) (ys := lb) w12 (by have := (HY.out.ext (((E8.out.trans E9.out).trans E11.out).trans E12.out)).plain; rwa [Hmy.out] at this) HUb.out).mono ?_
  rw [show eqb lb lb = true from eqb_true.2 rfl]
  rintro e w13 ⟨rfl, he13⟩
  have E13 := Lib.hid ((E11.out.trans E12.out).trans he13); clear he13 HUb E12 E11
  -- the arguments are marked
  have cx := HX.out.cost; have cy := HY.out.cost; have cg := HG.out.cost
  have Hsz : Hid (w5.heap.size ≤ w6.heap.size ∧ w6.heap.size ≤ w7.heap.size) := Lib.hid ⟨E6.out.size, E7.out.size⟩
  go_wp2_with fail
  refine (markItemS_c (k := 1) w13 (HX.out.ext (((E7.out.trans E8.out).trans E9.out).trans E13.out)) HSx.out (by omega) (by omega)).mono ?_
  rintro e w14 ⟨rfl, -, hM14⟩
  have M14 : Hid (Mod (fun b => w5.heap.size ≤ b ∧ b < w6.heap.size) w13 w14) := Lib.hid (hM14.mono fun b hb => HX.out.foot hb)
  clear hM14
  have HY14 : Hid (ChsU w6.heap.size w14 x1 ly) := Lib.hid ((HY.out.ext ((E8.out.trans E9.out).trans E13.out)).keep (Nat.le_refl _) (M14.out.keeps fun b hb => hb.2))
  go_wp2_with fail
  refine (markChS_c (k := 1 + (cIts (lx.map Prod.fst) : Nat)) w14 HY14.out HSy.out (by omega) (by omega)).mono ?_
  rintro e w15 ⟨rfl, -, hM15⟩
  have M15 : Hid (Mod (fun b => w5.heap.size ≤ b ∧ b < w7.heap.size) w13 w15) := Lib.hid ((M14.out.mono fun b hb => ⟨hb.1, Nat.lt_of_lt_of_le hb.2 Hsz.out.2⟩).trans (hM15.mono fun b hb => by
    have := HY.out.foot hb
    exact ⟨Nat.le_trans Hsz.out.1 this.1, this.2⟩))
  clear hM15 HY14 M14
  have hE58 := ((E6.out.trans E7.out).trans E8.out).trans (E9.out.trans E13.out)
  have E15 : Hid (Ext w5 w15) := Lib.hid (M15.out.ext hE58 fun b hb => hb.1)
  have HG15 : Hid (ItsU w7.heap.size w15 g0 L) := Lib.hid ((HG.out.ext (E9.out.trans E13.out)).keep (Nat.le_refl _) (M15.out.keeps fun b hb => hb.2))
  have Hm7 : Hid (w5.heap.size ≤ w7.heap.size) := Lib.hid (Nat.le_trans Hsz.out.1 Hsz.out.2)
  clear hE58 M15
  have Cq := CW.out _ E15.out HG15.out
  generalize hcx : (cIts (lx.map Prod.fst) : Nat) = nx at *
  generalize hcy : (cChs (ly.map Prod.fst) : Nat) = ny at *
  clear hcx hcy
  go_wp2_with (go_at_call 29; refine Cq.mono ?_; rintro e w16 ⟨rfl, he16⟩)
  have E16 := Lib.hid (E15.out.trans he16); have HG16 := Lib.hid (HG15.out.ext he16)
  clear he16 E15 HG15 Cq
  -- the answer is marked
  go_wp2_with fail
  refine (markItemS_c (k := 1) w16 HG16.out HSG.out (by omega) (by omega)).mono ?_
  rintro e w17 ⟨rfl, hG17, hM17⟩
  have M17 : Hid (Mod (fun b => w7.heap.size ≤ b) w16 w17) := Lib.hid (hM17.mono fun b hb => (HG16.out.foot hb).1)
  have E17 : Hid (Ext w5 w17) := Lib.hid (M17.out.ext E16.out fun b hb => Nat.le_trans Hm7.out hb)
  have HG17 : Hid (Its w7.heap.size w17 g0 (mkIts 1 (L.map Prod.fst))) := Lib.hid (by have := hG17.its; rwa [mkItsU_fst] at this)
  clear hM17 hG17 M17 HG16 E16
  generalize hcg : (cIts (L.map Prod.fst) : Nat) = ng at *
  have Hcg := Lib.hid hcg; clear hcg
  go_wp2_with fail
  refine (heldItS_c (k := 1) (l := L.map Prod.fst) w17 HG17.out (by omega) (by rw [Hcg.out]; omega)).mono ?_
  rw [Hcg.out]
  rintro e w18 ⟨rfl, he18⟩
  have E18 := Lib.hid (E17.out.trans he18); have HG18 := Lib.hid (HG17.out.ext he18)
  clear he18 E17 HG17
  -- once more
  have W18 := Lib.hid (E5.out.trans E18.out)
  go_wp2_with fail
  refine (toItemS_c w18 (HA.out.ext W18.out) Ha.out).mono ?_
  rintro e w19 ⟨y0, rfl, ⟨l19, hm19, hI19, -⟩, he19⟩
  have E19 := Lib.hid he19
  have HI19 : Hid (Its 0 w19 y0 la) := Lib.hid (by have := hI19.its; rw [hm19] at this; exact this.keep (Nat.zero_le _) (fun _ _ _ => rfl))
  clear hm19 hI19 he19
  go_wp2_with fail
  refine (toChangeS_c w19 (HB.out.ext (W18.out.trans E19.out)) Hb.out).mono ?_
  rintro e w20 ⟨y1, rfl, ⟨l20, hm20, hI20, -⟩, he20⟩
  have HI20 : Hid (Chs 0 w20 y1 lb) := Lib.hid (by have := hI20.plain; rw [hm20] at this; exact this.keep (Nat.zero_le _) (fun _ _ _ => rfl))
  have HI19b := Lib.hid (HI19.out.ext he20)
  have E20 := Lib.hid (E19.out.trans he20)
  clear hm20 hI20 he20 HI19 E19
  go_wp2_with fail
  refine (ChangesRun_c w20 HI19b.out HI20.out (HM.out.ext (W18.out.trans E20.out)) Hlen.out).mono ?_
  rintro e w21 ⟨v21, rfl, hH21, he21⟩
  obtain ⟨h0, rfl, hH⟩ := hH21.plain
  rw [Hbb.out]
  have E21 := Lib.hid (E20.out.trans he21)
  have Ch : Calls Tryz.prog 29 #[h0, u5] w21 (Ret (.bool true) w21) := by
    have := laws_eqItemS_c w21 hH (HC5.out.ext (E18.out.trans E21.out))
    rwa [show eqb ((runOf la lb).getD []) ((runOf la lb).getD []) = true from eqb_true.2 rfl] at this
  clear he21 hH hH21 HI19b HI20 E20
  go_wp2_with fail
  refine Ch.mono ?_
  rintro e w22 ⟨rfl, he22⟩
  have E22 := Lib.hid (E21.out.trans he22)
  clear he22 Ch E21
  go_wp2_with fail
  refine (heldItS_c (k := 1) (l := L.map Prod.fst) w22 (HG18.out.ext E22.out) (by omega) (by rw [Hcg.out]; omega)).mono ?_
  rw [Hcg.out]
  rintro e w23 ⟨rfl, he23⟩
  have E23 := Lib.hid ((W18.out.trans E22.out).trans he23)
  clear he23 E22
  go_wp2
  go_ret
  exact ⟨rfl, E23.out⟩
end Go.Sf
