/- The exact law of TreeClone. -/
import Derived.Test.YtbdgpbakhjpklaaGreatDoorGJ
import Derived.Test.YtbdgpbakhjpklaaGreatDoorT51
import Derived.Test.YtbdgpbakhjpklaaGreatDoorT54
import Derived.Test.YtbdgpbakhjpklaaGreatDoorT33
import Derived.Test.YtbdgpbakhjpklaaGreatDoorGL
namespace Go.Sf
open Go Go.RowKit Go.Proofs
set_option maxRecDepth 8000 in
set_option maxHeartbeats 4000000 in
theorem FnExactTreeClone_c {va : Value} {la : List It} {f t : ByteArray} (w : World) (ha : AIts w va la) (hf : f.size ≤ maxLen) (ht : t.size ≤ maxLen) (hm : ML w) : Calls Tryz.prog 9 #[va, .string f, .string t] w (Ret (.bool true) w) := by
  unfold maxLen at hf ht
  have HA := Lib.hid ha; have HM := Lib.hid hm
  clear ha hm
  by_cases hF : (1048576 : Int) < (f.size : Int)
  · go_enter Tryz.func9, Tryz.ntmps9
    go_wp2
    go_ret
    exact ⟨rfl, Ext.refl w⟩
  by_cases hT : (1048576 : Int) < (t.size : Int)
  · go_enter Tryz.func9, Tryz.ntmps9
    go_wp2
    go_ret
    exact ⟨rfl, Ext.refl w⟩
  by_cases h1 : (1048576 : Int) < (bkIts la : Nat)
  · have Hd : Hid (dec 1048576 (bkIts la) = -1) := Lib.hid (dec_neg h1)
    clear h1
    go_enter Tryz.func9, Tryz.ntmps9
    go_wp2_with fail
    refine (szItemS_c w HA.out (by omega) (by omega)).mono ?_
    rintro e w1 ⟨rfl, he1⟩
    rw [Hd.out]
    go_wp2
    go_ret
    exact ⟨rfl, he1⟩
  have Hd1 : Hid (dec 1048576 (bkIts la) = 1048576 - (bkIts la : Nat)) := Lib.hid (dec_pos h1)
  have Ha : Hid (bkIts la ≤ 1048576) := Lib.hid (by omega)
  have HFl : Hid (f.size < lim) := Lib.hid (by unfold lim; omega)
  have HTl : Hid (t.size < lim) := Lib.hid (by unfold lim; omega)
  go_enter Tryz.func9, Tryz.ntmps9
  go_wp2_with fail
  refine (szItemS_c w HA.out (by omega) (by omega)).mono ?_
  rintro e w1 ⟨rfl, he1⟩
  rw [Hd1.out]
  have E2 := Lib.hid he1
  clear he1
  have hD : ¬ ((1048576 : Int) - (bkIts la : Nat) < 0) := by omega
  generalize (1048576 : Int) - (bkIts la : Nat) = D1 at *
  -- the reference's answer
  go_wp2_with fail
  refine (toItemS_c w1 (HA.out.ext E2.out) Ha.out).mono ?_
  rintro e w3 ⟨u3, rfl, ⟨lu3, hm3, hI3, -⟩, he3⟩
  have E3 := Lib.hid (E2.out.trans he3)
  have HI3 : Hid (Its 0 w3 u3 la) := Lib.hid (by have := hI3.its; rw [hm3] at this; exact this.keep (Nat.zero_le _) (fun _ _ _ => rfl))
  clear hm3 hI3 he3 hF hT
  go_wp2_with fail
  refine (specTreeClone_c f t w3 HI3.out HFl.out HTl.out).mono ?_
  rintro e w5 ⟨v5, rfl, ⟨u5, rfl, hC5⟩, he5⟩
  have E5 := Lib.hid (E3.out.trans he5)
  have HC5 := Lib.hid hC5
  clear hC5 he5 HI3 E2 E3
  -- the program's arguments and its answer
  go_wp2_with fail
  refine (toItemS_c w5 (HA.out.ext E5.out) Ha.out).mono ?_
  rintro e w6 ⟨x0, rfl, ⟨lx, hmx, hX, hSx⟩, he6⟩
  have HX := Lib.hid hX; have Hmx := Lib.hid hmx; have HSx := Lib.hid hSx; have E6 := Lib.hid he6
  clear hX hmx hSx he6
  go_wp2_with fail
  refine (TreeClone_c sort_c (B := 0) (l := la) f t w6 (by have := HX.out.its; rw [Hmx.out] at this; exact this.keep (Nat.zero_le _) (fun _ _ _ => rfl)) HFl.out HTl.out (HM.out.ext (E5.out.trans E6.out))).mono ?_
  rintro e w8 ⟨v8, rfl, ⟨g0, L, rfl, hmL, hG, hSG⟩, he8⟩
  have HG := Lib.hid hG; have HmL := Lib.hid hmL; have HSG := Lib.hid hSG; have E8 := Lib.hid he8
  clear hG hmL hSG he8
  generalize hbb : (cloneOf la f t).isSome = bb at *
  have Hbb := Lib.hid hbb; clear hbb
  -- all that is told of the answers in later worlds
  have CW : Hid (∀ W, Ext w5 W → ItsU w6.heap.size W g0 L → Calls Tryz.prog 29 #[g0, u5] W (Ret (.bool true) W)) := Lib.hid fun W e hg => by
    have := laws_eqItemS_c W hg.its (HC5.out.ext e)
    rwa [HmL.out, show eqb ((cloneOf la f t).getD []) ((cloneOf la f t).getD []) = true from eqb_true.2 rfl] at this
  go_wp2_with fail
  refine (CW.out _ (E6.out.trans E8.out) HG.out).mono ?_
  rintro e w9 ⟨rfl, he9⟩
  have E9 := Lib.hid he9; clear he9
  have W9 := Lib.hid (((E5.out.trans E6.out).trans E8.out).trans E9.out)
  go_wp2_with fail
  -- the arguments are as they were
  refine (toItemS_c w9 (HA.out.ext W9.out) Ha.out).mono ?_
  rintro e w10 ⟨ua, rfl, ⟨la', hma, hUa, -⟩, he10⟩
  have HUa : Hid (Its w9.heap.size w10 ua la) := Lib.hid (by have := hUa.its; rwa [hma] at this)
  have E10 := Lib.hid he10; clear he10 hUa hma
  go_wp2_with fail
  refine (laws_eqItemS_c (xs := la) (ys := la) w10 (by have := (HX.out.ext ((E8.out.trans E9.out).trans E10.out)).its; rwa [Hmx.out] at this) HUa.out).mono ?_
  rw [show eqb la la = true from eqb_true.2 rfl]
  rintro e w13 ⟨rfl, he13⟩
  have E13 := Lib.hid (E10.out.trans he13); clear he13 HUa E10
  -- the argument is marked
  have cx := HX.out.cost; have cg := HG.out.cost
  have Hsz : Hid (w5.heap.size ≤ w6.heap.size) := Lib.hid E6.out.size
  go_wp2_with fail
  refine (markItemS_c (k := 1) w13 (HX.out.ext ((E8.out.trans E9.out).trans E13.out)) HSx.out (by omega) (by omega)).mono ?_
  rintro e w15 ⟨rfl, -, hM15⟩
  have M15 : Hid (Mod (fun b => w5.heap.size ≤ b ∧ b < w6.heap.size) w13 w15) := Lib.hid (hM15.mono fun b hb => HX.out.foot hb)
  clear hM15
  have hE58 := (E6.out.trans E8.out).trans (E9.out.trans E13.out)
  have E15 : Hid (Ext w5 w15) := Lib.hid (M15.out.ext hE58 fun b hb => hb.1)
  have HG15 : Hid (ItsU w6.heap.size w15 g0 L) := Lib.hid ((HG.out.ext (E9.out.trans E13.out)).keep (Nat.le_refl _) (M15.out.keeps fun b hb => hb.2))
  clear hE58 M15
  have Cq := CW.out _ E15.out HG15.out
  generalize hcx : (cIts (lx.map Prod.fst) : Nat) = nx at *
  clear hcx
  go_wp2_with (go_at_call 29; refine Cq.mono ?_; rintro e w16 ⟨rfl, he16⟩)
  have E16 := Lib.hid (E15.out.trans he16); have HG16 := Lib.hid (HG15.out.ext he16)
  clear he16 E15 HG15 Cq
  -- the answer is marked
  go_wp2_with fail
  refine (markItemS_c (k := 1) w16 HG16.out HSG.out (by omega) (by omega)).mono ?_
  rintro e w17 ⟨rfl, hG17, hM17⟩
  have M17 : Hid (Mod (fun b => w6.heap.size ≤ b) w16 w17) := Lib.hid (hM17.mono fun b hb => (HG16.out.foot hb).1)
  have E17 : Hid (Ext w5 w17) := Lib.hid (M17.out.ext E16.out fun b hb => Nat.le_trans Hsz.out hb)
  have HG17 : Hid (Its w6.heap.size w17 g0 (mkIts 1 (L.map Prod.fst))) := Lib.hid (by have := hG17.its; rwa [mkItsU_fst] at this)
  clear hM17 hG17 M17 HG16 E16
  generalize hcg : (cIts (L.map Prod.fst) : Nat) = ng at *
  have Hcg := Lib.hid hcg; clear hcg
  go_wp2_with fail
  refine (heldItS_c (k := 1) (l := L.map Prod.fst) w17 HG17.out (by omega) (by rw [Hcg.out]; omega)).mono ?_
  rw [Hcg.out]
  rintro e w18 ⟨rfl, he18⟩
  have E18 := Lib.hid (E17.out.trans he18); have HG18 := Lib.hid (HG17.out.ext he18)
  clear he18 E17 HG17
  -- once more
  have W18 := Lib.hid (E5.out.trans E18.out)
  go_wp2_with fail
  refine (toItemS_c w18 (HA.out.ext W18.out) Ha.out).mono ?_
  rintro e w20 ⟨y0, rfl, ⟨l19, hm19, hI19, -⟩, he19⟩
  have E20 := Lib.hid he19
  have HI19 : Hid (Its 0 w20 y0 la) := Lib.hid (by have := hI19.its; rw [hm19] at this; exact this.keep (Nat.zero_le _) (fun _ _ _ => rfl))
  clear hm19 hI19 he19
  go_wp2_with fail
  refine (TreeClone_c sort_c f t w20 HI19.out HFl.out HTl.out (HM.out.ext (W18.out.trans E20.out))).mono ?_
  rintro e w21 ⟨v21, rfl, hH21, he21⟩
  obtain ⟨h0, rfl, hH⟩ := hH21.plain
  rw [Hbb.out]
  have E21 := Lib.hid (E20.out.trans he21)
  have Ch : Calls Tryz.prog 29 #[h0, u5] w21 (Ret (.bool true) w21) := by
    have := laws_eqItemS_c w21 hH (HC5.out.ext (E18.out.trans E21.out))
    rwa [show eqb ((cloneOf la f t).getD []) ((cloneOf la f t).getD []) = true from eqb_true.2 rfl] at this
  clear he21 hH hH21 HI19 E20
  go_wp2_with fail
  refine Ch.mono ?_
  rintro e w22 ⟨rfl, he22⟩
  have E22 := Lib.hid (E21.out.trans he22)
  clear he22 Ch E21
  go_wp2_with fail
  refine (heldItS_c (k := 1) (l := L.map Prod.fst) w22 (HG18.out.ext E22.out) (by omega) (by rw [Hcg.out]; omega)).mono ?_
  rw [Hcg.out]
  rintro e w23 ⟨rfl, he23⟩
  have E23 := Lib.hid ((W18.out.trans E22.out).trans he23)
  clear he23 E22
  go_wp2
  go_ret
  exact ⟨rfl, E23.out⟩
end Go.Sf
