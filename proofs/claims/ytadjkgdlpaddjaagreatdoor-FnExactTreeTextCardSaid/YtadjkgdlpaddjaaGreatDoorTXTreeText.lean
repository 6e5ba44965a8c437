/- The exact law of TreeText. -/
import Derived.Test.YtadjkgdlpaddjaaGreatDoorX10
import Derived.Test.YtadjkgdlpaddjaaGreatDoorT100
namespace Go.Sf
open Go Go.RowKit Go.Proofs
set_option maxRecDepth 8000 in
set_option maxHeartbeats 4000000 in
theorem FnExactTreeText_c {vs vt : Value} {s : List Hd} {t : List It} (w : World) (hs : AHds w vs s) (ht : AIts w vt t) (hm : ML w) : Calls Tryz.prog 5 #[vs, vt] w (Ret (.bool true) w) := by
  have HS := Lib.hid hs; have HT := Lib.hid ht; have HM := Lib.hid hm
  have Cz := szHeldS_c (left := 1048576) w HS.out (by omega) (by omega)
  obtain ⟨A, c, rfl, -⟩ := hs
  obtain ⟨A2, c2, rfl, -⟩ := ht
  clear hm
  by_cases hbig : (1048576 : Int) < ((bkHds s : Nat) : Int)
  · rw [dec_neg hbig] at Cz
    clear hbig
    go_enter Tryz.func5, Tryz.ntmps5
    go_wp2_with (go_at_call 24; refine Cz.mono ?_; rintro e w1 ⟨rfl, he1⟩)
    go_ret
    exact ⟨rfl, he1⟩
  rw [dec_pos hbig] at Cz
  have hd0 : ¬ (1048576 : Int) - ((bkHds s : Nat) : Int) < 0 := by omega
  have Hbs : Hid (bkHds s ≤ 1048576) := Lib.hid (by omega)
  have Cy := fun W (e : Ext w W) => szItemS_c (left := (1048576 : Int) - ((bkHds s : Nat) : Int)) W (HT.out.ext e) (by omega) (by omega)
  by_cases hbig2 : (1048576 : Int) - ((bkHds s : Nat) : Int) < ((bkIts t : Nat) : Int)
  · rw [dec_neg hbig2] at Cy
    generalize (1048576 : Int) - ((bkHds s : Nat) : Int) = D at *
    clear hbig hbig2
    go_enter Tryz.func5, Tryz.ntmps5
    go_wp2_with (first | (go_at_call 24; refine Cz.mono ?_; rintro e w1 ⟨rfl, he1⟩) | (go_at_call 25; refine (Cy _ he1).mono ?_; rintro e w2 ⟨rfl, he2⟩))
    go_ret
    exact ⟨rfl, he1.trans he2⟩
  rw [dec_pos hbig2] at Cy
  have hd1 : ¬ (1048576 : Int) - ((bkHds s : Nat) : Int) - ((bkIts t : Nat) : Int) < 0 := by omega
  have Hbt : Hid (bkIts t ≤ 1048576) := Lib.hid (by omega)
  generalize (1048576 : Int) - ((bkHds s : Nat) : Int) - ((bkIts t : Nat) : Int) = D2 at *
  generalize (1048576 : Int) - ((bkHds s : Nat) : Int) = D at *
  clear hbig hbig2
  go_enter Tryz.func5, Tryz.ntmps5
  go_wp2_with (first | (go_at_call 24; refine Cz.mono ?_; rintro e w1 ⟨rfl, he1⟩) | (go_at_call 25; refine (Cy _ he1).mono ?_; rintro e w2 ⟨rfl, he2⟩))
  have E2 := Lib.hid (he1.trans he2)
  clear Cz Cy he1 he2
  -- the reference's answer
  refine (toHeldS_c w2 (HS.out.ext E2.out) Hbs.out).mono ?_
  rintro e w3 ⟨u3, rfl, ⟨l3, hm3, hH3, -⟩, he3⟩
  have E3 := Lib.hid (E2.out.trans he3)
  have HH3 : Hid (Hds w2.heap.size w3 u3 s) := Lib.hid (by have := hH3.plain; rwa [hm3] at this)
  clear hH3 hm3 l3 he3
  go_wp2_with fail
  refine (toItemS_c w3 (HT.out.ext E3.out) Hbt.out).mono ?_
  rintro e w4 ⟨u4, rfl, ⟨l4, hm4, hI4, -⟩, he4⟩
  have E4 := Lib.hid (E3.out.trans he4)
  have HI4 : Hid (Its w3.heap.size w4 u4 t) := Lib.hid (by have := hI4.its; rwa [hm4] at this)
  have Cs := specTreeText_c w4 (HH3.out.ext he4) HI4.out
  clear hI4 hm4 l4 he4
  go_wp2_with fail
  refine Cs.mono ?_
  rintro e w5 ⟨rfl, he5⟩
  have E5 := Lib.hid (E4.out.trans he5)
  clear Cs he5 HH3 HI4 E2 E3 E4
  -- the program's answer
  go_wp2_with fail
  refine (toHeldS_c w5 (HS.out.ext E5.out) Hbs.out).mono ?_
  rintro e w6 ⟨u6, rfl, ⟨l6, hm6, hH6, -⟩, he6⟩
  have E6 := Lib.hid (E5.out.trans he6)
  have HH6 : Hid (Hds w5.heap.size w6 u6 s) := Lib.hid (by have := hH6.plain; rwa [hm6] at this)
  clear hH6 hm6 l6
  go_wp2_with fail
  refine (toItemS_c w6 (HT.out.ext E6.out) Hbt.out).mono ?_
  rintro e w7 ⟨u7, rfl, ⟨l7, hm7, hI7, -⟩, he7⟩
  have E7 := Lib.hid (E6.out.trans he7)
  have HI7 : Hid (Its w6.heap.size w7 u7 t) := Lib.hid (by have := hI7.its; rwa [hm7] at this)
  have Ct := TreeText_c w7 (HH6.out.ext he7) HI7.out (HM.out.ext E7.out)
  clear hI7 hm7 l7
  generalize treeTextOf s t = bb at *
  go_wp2_with fail
  refine Ct.mono ?_
  rintro e w8 ⟨rfl, he8⟩
  have E8 := Lib.hid (E7.out.trans he8)
  clear Ct
  -- the arguments are as they were
  go_wp2_with fail
  refine (toHeldS_c w8 (HS.out.ext E8.out) Hbs.out).mono ?_
  rintro e w9 ⟨u9, rfl, ⟨l9, hm9, hH9, -⟩, he9⟩
  have E9 := Lib.hid (E8.out.trans he9)
  have HH9 : Hid (Hds w8.heap.size w9 u9 s) := Lib.hid (by have := hH9.plain; rwa [hm9] at this)
  have Cq := laws_eqHeldS_c w9 (HH6.out.ext ((he7.trans he8).trans he9)) HH9.out
  rw [show eqb s s = true from eqb_true.2 rfl] at Cq
  clear hH9 hm9 l9
  go_wp2_with fail
  refine Cq.mono ?_
  rintro e w10 ⟨rfl, he10⟩
  have E10 := Lib.hid (E9.out.trans he10)
  clear Cq
  go_wp2_with fail
  refine (toItemS_c w10 (HT.out.ext E10.out) Hbt.out).mono ?_
  rintro e w11 ⟨u11, rfl, ⟨l11, hm11, hI11, -⟩, he11⟩
  have E11 := Lib.hid (E10.out.trans he11)
  have HI11 : Hid (Its w10.heap.size w11 u11 t) := Lib.hid (by have := hI11.its; rwa [hm11] at this)
  have Cr := laws_eqItemS_c w11 (HI7.out.ext (((he8.trans he9).trans he10).trans he11)) HI11.out
  rw [show eqb t t = true from eqb_true.2 rfl] at Cr
  clear hI11 hm11 l11
  go_wp2_with fail
  refine Cr.mono ?_
  rintro e w12 ⟨rfl, he12⟩
  go_wp2
  go_ret
  exact ⟨rfl, E11.out.trans he12⟩
end Go.Sf
