/- The law FnExactMendFrom, walked in the ghost's program. -/
import Derived.Test.YtphgnbjikgglmaaTA
import Derived.Test.YtphgnbjikgglmaaTB
import Derived.Test.YtphgnbjikgglmaaTD
import Derived.Test.YtphgnbjikgglmaaGL
set_option linter.all false
namespace Go.Sf
open Go Go.RowKit Go.Proofs Go.Maps
theorem sum_leM {α : Type} (f : α → Nat) (b : Nat) (l : List α) (h : ∀ x, x ∈ l → f x ≤ b) : (l.map f).sum ≤ l.length * b := by
  induction l with
  | nil => simp
  | cons a l ih =>
    have h1 := h a (by simp)
    have h2 := ih fun x hx => h x (by simp [hx])
    rw [List.map_cons, List.sum_cons, List.length_cons, Nat.add_mul, Nat.one_mul]
    omega
theorem HdsU.costM {B : Nat} {w : World} {v : Value} {l : List (Hd × Value)} (h : HdsU B w v l) : cHds (l.map Prod.fst) ≤ 100000000000000 := by
  obtain ⟨A, c, -, -, -, hl, he⟩ := h
  unfold cHds
  have := sum_leM wHd 5000000 (l.map Prod.fst) fun x hx => by
    obtain ⟨q, hq, rfl⟩ := List.mem_map.1 hx
    obtain ⟨k, hk⟩ := List.mem_iff_getElem?.1 hq
    obtain ⟨_, _, _, -, -, -, -, -, -, -, -, hi⟩ := he k q hk
    have := hi.len
    unfold lim at this; unfold wHd; omega
  rw [List.length_map] at this
  unfold lim at hl
  have h2 : l.length * 5000000 ≤ 4194304 * 5000000 := Nat.mul_le_mul_right _ hl
  omega
theorem MendP.all {w0 : World} {o : Option (List Hd × Nat)} {r : Value} {w' : World} (h : MendP w0 o r w') : ∃ v lu, r = .tuple #[v, .int .i64 (((o.map (·.2)).getD 0 : Nat) : Int), .bool o.isSome] ∧ lu.map Prod.fst = (o.map (·.1)).getD [] ∧ HdsU w0.heap.size w' v lu ∧ Sep lu := by
  cases o with
  | none =>
    have e : r = .tuple #[.slice none 0 0, .int .i64 0, .bool false] := h
    exact ⟨.slice none 0 0, [], e, rfl, SlOf.nil .., List.Pairwise.nil⟩
  | some p =>
    obtain ⟨out, n⟩ := p
    obtain ⟨v, lu, e, e1, hU, hS, -⟩ := h
    exact ⟨v, lu, e, e1, hU, hS⟩
theorem RetG.out {R : Value → World → Prop} {w : World} {e : Ending} {w' : World} (h : RetG R w e w') : (∃ v, e = .returned v ∧ R v w' ∧ Ext w w') ∨ Probed e w' := h
set_option maxRecDepth 8000 in
set_option maxHeartbeats 8000000 in
theorem FnExactMendFrom_c {v0 v1 v2 : Value} {l : List Hd} {cs : List Ck} {ol : List Hd} (w : World) (h0 : AHds w v0 l) (h1 : ACks w v1 cs) (h2 : AHds w v2 ol) :
    Calls TryG.prog 7 #[v0, v1, v2] w (RetG (fun u _ => u = .bool true) w) := by
  have H0 := Lib.hid h0; have H1 := Lib.hid h1; have H2 := Lib.hid h2
  obtain ⟨A0, c0, rfl, -⟩ := h0
  obtain ⟨A1, c1, rfl, hc1, ⟨hm1, -⟩, -⟩ := h1
  obtain ⟨A2, c2, rfl, -⟩ := h2
  have hn1 := Lib.hid (Nat.le_trans hc1 hm1)
  clear hc1 hm1
  have Cz := szHeldS_c w H0.out (left := 1048576) (by omega) (by omega)
  go_enter TryG.func7, TryG.ntmps7
  go_wp2_with fail
  by_cases hb0 : (1048576 : Int) < ((bkHds l : Nat) : Int)
  · rw [dec_neg hb0] at Cz
    clear hb0
    refine Cz.mono ?_
    rintro e w1 ⟨rfl, he1⟩
    go_wp2
    go_ret
    exact .inl ⟨_, rfl, rfl, he1⟩
  rw [dec_pos hb0] at Cz
  have B0 : Hid (bkHds l ≤ 1048576) := Lib.hid (by omega)
  obtain ⟨d, hd, d0, d1⟩ : ∃ d, (1048576 : Int) - ((bkHds l : Nat) : Int) = d ∧ 0 ≤ d ∧ d ≤ 1048576 := ⟨_, rfl, by omega, by omega⟩
  rw [hd] at Cz
  clear hb0 hd
  refine Cz.mono ?_
  rintro e wA ⟨rfl, hA⟩
  have n0 : ¬ d < 0 := by omega
  have Cy := szCheckS_c (A := A1) (c := c1) wA d0 d1 hn1.out
  clear Cz
  go_wp2_with fail
  by_cases hb1 : d < ((cs.length : Nat) : Int)
  · rw [dec_neg hb1] at Cy
    clear hb1
    refine Cy.mono ?_
    rintro e w1 ⟨rfl, he1⟩
    go_wp2
    go_ret
    exact .inl ⟨_, rfl, rfl, hA.trans he1⟩
  rw [dec_pos hb1] at Cy
  have B1 : Hid (cs.length ≤ 1048576) := Lib.hid (by omega)
  obtain ⟨d', hd, d2, d3⟩ : ∃ d', d - ((cs.length : Nat) : Int) = d' ∧ 0 ≤ d' ∧ d' ≤ 1048576 := ⟨_, rfl, by omega, by omega⟩
  rw [hd] at Cy
  clear hb1 hd
  refine Cy.mono ?_
  rintro e wB ⟨rfl, hB⟩
  have n1 : ¬ d' < 0 := by omega
  have Cx := szHeldS_c wB (H2.out.ext (hA.trans hB)) d2 d3
  clear Cy
  go_wp2_with fail
  by_cases hb2 : d' < ((bkHds ol : Nat) : Int)
  · rw [dec_neg hb2] at Cx
    clear hb2
    refine Cx.mono ?_
    rintro e w1 ⟨rfl, he1⟩
    go_wp2
    go_ret
    exact .inl ⟨_, rfl, rfl, (hA.trans hB).trans he1⟩
  rw [dec_pos hb2] at Cx
  have B2 : Hid (bkHds ol ≤ 1048576) := Lib.hid (by omega)
  obtain ⟨d4, hd, d5⟩ : ∃ x, d' - ((bkHds ol : Nat) : Int) = x ∧ 0 ≤ x := ⟨d' - ((bkHds ol : Nat) : Int), rfl, by omega⟩
  rw [hd] at Cx
  clear hb2 hd
  refine Cx.mono ?_
  rintro e wC ⟨rfl, hC⟩
  have n2 : ¬ d4 < 0 := by omega
  have E0 : Hid (Ext w wC) := Lib.hid ((hA.trans hB).trans hC)
  clear Cx hA hB hC d0 d1 d2 d3 d5
  -- the reference's answer
  go_wp2_with fail
  refine (toHeldS_c wC (H0.out.ext E0.out) B0.out).mono ?_
  rintro e w1 ⟨u1, rfl, ⟨lu1, hl1, hU1, -⟩, e1⟩
  have T1 := Lib.hid hU1.plain
  rw [hl1] at T1
  clear n0 n1 n2 hl1 hU1
  go_wp2_with fail
  refine (toCheckS_c w1 (H1.out.ext (E0.out.trans e1)) B1.out).mono ?_
  rintro e w2 ⟨u2, rfl, ⟨-, hK2⟩, e2⟩
  have T2 := Lib.hid hK2
  clear hK2
  go_wp2_with fail
  refine (toHeldS_c w2 (H2.out.ext (E0.out.trans (e1.trans e2))) B2.out).mono ?_
  rintro e w3 ⟨u3, rfl, ⟨lu3, hl3, hU3, -⟩, e3⟩
  have T3 := Lib.hid hU3.plain
  rw [hl3] at T3
  clear hl3 hU3
  have Cs := specMendFrom_c w3 (T1.out.ext (e2.trans e3)) (T2.out.ext e3) T3.out
  go_wp2_with fail
  refine Cs.mono ?_
  rintro e w4 ⟨r4, rfl, hS, e4⟩
  obtain ⟨v8, rfl, hH8⟩ := hS
  generalize hOO : mendOf l cs ol = O at *
  have HOO := Lib.hid hOO; clear hOO
  obtain ⟨OS, hOS⟩ : ∃ OS, (O.map (·.1)).getD [] = OS := ⟨_, rfl⟩
  obtain ⟨nn, hnn⟩ : ∃ nn, (O.map (·.2)).getD 0 = nn := ⟨_, rfl⟩
  obtain ⟨bb, hbb⟩ : ∃ bb, O.isSome = bb := ⟨_, rfl⟩
  rw [hOS] at hH8
  rw [hnn, hbb]
  have HOS := Lib.hid hOS; have HNN := Lib.hid hnn; have HBB := Lib.hid hbb
  have E4 := Lib.hid (E0.out.trans (e1.trans (e2.trans (e3.trans e4))))
  have H8 : Hid (∀ W, Ext w4 W → Hds w3.heap.size W v8 OS) := Lib.hid fun W e => hH8.ext e
  clear hH8 Cs e1 e2 e3 e4 T1 T2 T3 hOS hnn hbb E0
  -- the arguments of the call
  go_wp2_with fail
  refine (toHeldS_c w4 (H0.out.ext E4.out) B0.out).mono ?_
  rintro e w5 ⟨x0, rfl, ⟨lu0, hl0, hU0, hS0⟩, e5⟩
  have L0 := Lib.hid hl0; have U0 := Lib.hid hU0; have S0 := Lib.hid hS0
  clear hl0 hU0 hS0
  go_wp2_with fail
  refine (toCheckS_c w5 (H1.out.ext (E4.out.trans e5)) B1.out).mono ?_
  rintro e w6 ⟨x1, rfl, ⟨hx1, hK1⟩, e6⟩
  have X1 := Lib.hid hx1; have K1 := Lib.hid hK1
  clear hx1 hK1
  go_wp2_with fail
  refine (toHeldS_c w6 (H2.out.ext (E4.out.trans (e5.trans e6))) B2.out).mono ?_
  rintro e w7 ⟨x2, rfl, ⟨lu2, hl2, hU2, hS2⟩, e7⟩
  have L2 := Lib.hid hl2; have U2 := Lib.hid hU2; have S2 := Lib.hid hS2
  clear hl2 hU2 hS2
  have hp0 := U0.out.plain; rw [L0.out] at hp0
  have hp2 := U2.out.plain; rw [L2.out] at hp2
  have P0 : Hid (∀ W, Ext w5 W → Hds w4.heap.size W x0 l) := Lib.hid fun W e => hp0.ext e
  have P2 : Hid (∀ W, Ext w7 W → Hds w6.heap.size W x2 ol) := Lib.hid fun W e => hp2.ext e
  clear hp0 hp2
  have e57 := e6.trans e7
  have e47 := e5.trans e57
  have Cm := MendFrom_c w7 (P0.out _ e57) (K1.out.ext e7) (P2.out _ (Ext.refl _))
  go_wp2_with fail
  refine Cm.mono ?_
  rintro e w8 (⟨r8, rfl, hM, e8⟩ | hp)
  rotate_left
  · obtain ⟨⟨ch, rfl⟩, hp1, hp2⟩ := hp
    exact ⟨rfl, .inr ⟨⟨ch, rfl⟩, hp1, hp2⟩⟩
  rw [HOO.out] at hM
  obtain ⟨v14, lg, rfl, hlg, hUg, hSg⟩ := hM.all
  rw [HOS.out] at hlg
  rw [HNN.out, HBB.out]
  have LG := Lib.hid hlg; have UG := Lib.hid hUg; have SG := Lib.hid hSg
  have hpg := hUg.plain; rw [hlg] at hpg
  have PG : Hid (∀ W, Ext w8 W → Hds w7.heap.size W v14 OS) := Lib.hid fun W e => hpg.ext e
  have CS : Hid (∀ W, Ext w4 W → ∀ B a, Hds B W a OS → Calls TryG.prog 20 #[a, v8] W (Ret (.bool true) W)) := Lib.hid fun W e B a h => by
    have := laws_eqHeldS_c W h (H8.out _ e)
    rw [show eqb OS OS = true from eqb_true.2 rfl] at this
    exact this
  have E48 := Lib.hid (e47.trans e8)
  have E58 := Lib.hid (e57.trans e8)
  have E68 := Lib.hid (e7.trans e8)
  have E78 := Lib.hid e8
  have Z : Hid (w4.heap.size ≤ w5.heap.size ∧ w5.heap.size ≤ w6.heap.size ∧ w6.heap.size ≤ w7.heap.size ∧ w7.heap.size ≤ w8.heap.size) := Lib.hid ⟨e5.size, e6.size, e7.size, e8.size⟩
  clear Cm hM hlg hUg hSg hpg e5 e6 e7 e57 e47 e8 H8
  go_wp2_with fail
  refine (CS.out _ E48.out _ _ (PG.out _ (Ext.refl _))).mono ?_
  rintro e w9 ⟨rfl, e9⟩
  -- the arguments are as they were
  go_wp2_with fail
  refine (toHeldS_c w9 (H0.out.ext (E4.out.trans (E48.out.trans e9))) B0.out).mono ?_
  rintro e w10 ⟨y0, rfl, ⟨lv0, hv0, hV0, -⟩, e10⟩
  have hy0 := hV0.plain; rw [hv0] at hy0
  have Cq := laws_eqHeldS_c w10 (P0.out _ (E58.out.trans (e9.trans e10))) hy0
  rw [show eqb l l = true from eqb_true.2 rfl] at Cq
  clear hv0 hV0 hy0
  go_wp2_with fail
  refine Cq.mono ?_
  rintro e w11 ⟨rfl, e11⟩
  have E8b := Lib.hid (e9.trans (e10.trans e11))
  clear Cq e9 e10 e11
  go_wp2_with fail
  refine (toCheckS_c w11 (H1.out.ext (E4.out.trans (E48.out.trans E8b.out))) B1.out).mono ?_
  rintro e w12 ⟨y1, rfl, ⟨-, hy1⟩, e12⟩
  have Cq := laws_eqCheckS_c w12 (K1.out.ext (E68.out.trans (E8b.out.trans e12))) hy1
  rw [show eqb cs cs = true from eqb_true.2 rfl] at Cq
  clear hy1
  go_wp2_with fail
  refine Cq.mono ?_
  rintro e w13 ⟨rfl, e13⟩
  clear Cq
  go_wp2_with fail
  refine (toHeldS_c w13 (H2.out.ext (E4.out.trans (E48.out.trans (E8b.out.trans (e12.trans e13))))) B2.out).mono ?_
  rintro e w14 ⟨y2, rfl, ⟨lv2, hv2, hV2, -⟩, e14⟩
  have hy2 := hV2.plain; rw [hv2] at hy2
  have Cq := laws_eqHeldS_c w14 (P2.out _ (E78.out.trans (E8b.out.trans (e12.trans (e13.trans e14))))) hy2
  rw [show eqb ol ol = true from eqb_true.2 rfl] at Cq
  clear hv2 hV2 hy2
  go_wp2_with fail
  refine Cq.mono ?_
  rintro e w15 ⟨rfl, e15⟩
  have E8c := Lib.hid (E8b.out.trans (e12.trans (e13.trans (e14.trans e15))))
  clear Cq e12 e13 e14 e15 E8b
  -- the arguments are marked
  have c0 := U0.out.costM; have c2 := U2.out.costM; have cg := UG.out.costM; have b1 := B1.out
  rw [L0.out] at c0
  rw [L2.out] at c2
  rw [LG.out] at cg
  have Cm := markHdS_c (k := 1) w15 (U0.out.ext (E58.out.trans E8c.out)) S0.out (by omega) (by rw [L0.out]; omega)
  rw [L0.out] at Cm
  go_wp2_with fail
  refine Cm.mono ?_
  rintro e w16 ⟨rfl, -, hM16⟩
  have M16 : Hid (Mod (fun b => w4.heap.size ≤ b ∧ b < w5.heap.size) w15 w16) := Lib.hid (hM16.mono fun b hb => U0.out.foot hb)
  clear Cm hM16
  have Cm := markCheckS_c (k := 1 + ((cHds l : Nat) : Int)) w16 ((K1.out.ext (E68.out.trans E8c.out)).keep (Nat.le_refl _) (M16.out.keeps fun b hb => hb.2)) (by omega) (by omega)
  go_wp2_with fail
  refine Cm.mono ?_
  rintro e w17 ⟨rfl, -, hM17⟩
  have M17 : Hid (Mod (fun b => w4.heap.size ≤ b ∧ b < w6.heap.size) w15 w17) := Lib.hid ((M16.out.mono fun b hb => ⟨hb.1, by have := Z.out; omega⟩).trans (hM17.mono fun b hb => (by
    obtain ⟨q1, q2⟩ := hb
    rw [X1.out] at q1
    have q3 : w5.heap.size = b := by simpa [Value.ownBlock] using q1
    have := Z.out
    obtain ⟨z, hz⟩ := List.exists_mem_of_ne_nil _ q2
    obtain ⟨j, hj⟩ := List.mem_iff_getElem?.1 hz
    have q4 := K1.out
    rw [X1.out] at q4
    obtain ⟨A', c', eA, hA'⟩ := q4
    obtain ⟨b', o', e1, -, q5, -⟩ := Cks.at_ hA' hj
    injection eA with eA
    rw [e1] at eA
    have q6 : w5.heap.size = b' := by injection eA with eA; injection eA
    omega)))
  clear Cm hM17 M16
  have Cm := markHdS_c (k := 1 + ((cHds l : Nat) : Int) + 2 * ((cs.length : Nat) : Int)) w17 (((U2.out.ext (E78.out.trans E8c.out)).keep (Nat.le_refl _) (M17.out.keeps fun b hb => hb.2))) S2.out (by omega) (by rw [L2.out]; omega)
  rw [L2.out] at Cm
  generalize hkk : (1 : Int) + ((cHds l : Nat) : Int) + 2 * ((cs.length : Nat) : Int) + ((cHds ol : Nat) : Int) = kk at *
  have hk0 : ¬ kk < 0 := by omega
  clear hkk
  go_wp2_with fail
  refine Cm.mono ?_
  rintro e w18 ⟨rfl, -, hM18⟩
  have M18 : Hid (Mod (fun b => w4.heap.size ≤ b ∧ b < w7.heap.size) w15 w18) := Lib.hid ((M17.out.mono fun b hb => ⟨hb.1, by have := Z.out; omega⟩).trans (hM18.mono fun b hb => by have := U2.out.foot hb; have := Z.out; omega))
  have E18 : Hid (Ext w4 w18) := Lib.hid (M18.out.ext (E48.out.trans E8c.out) fun b hb => hb.1)
  have UG18 : Hid (HdsU w7.heap.size w18 v14 lg) := Lib.hid ((UG.out.ext E8c.out).keep (Nat.le_refl _) (M18.out.keeps fun b hb => hb.2))
  have hpg := UG18.out.plain; rw [LG.out] at hpg
  have PG18 := Lib.hid hpg
  clear Cm hM18 M17 M18 hpg
  go_wp2_with fail
  refine (CS.out _ E18.out _ _ PG18.out).mono ?_
  rintro e w19 ⟨rfl, e19⟩
  -- the answer is marked
  have E19 := Lib.hid (E18.out.trans e19)
  have Cm := markHdS_c (k := 1) w19 (UG18.out.ext e19) SG.out (by omega) (by rw [LG.out]; omega)
  rw [LG.out] at Cm
  generalize hnx : (1 : Int) + ((cHds OS : Nat) : Int) = nx at *
  have hnx0 : ¬ nx < 0 := by omega
  have Hnx := Lib.hid hnx
  have Cg := Lib.hid cg
  clear hnx cg
  go_wp2_with fail
  refine Cm.mono ?_
  rintro e w20 ⟨rfl, hU20, hM20⟩
  have E20 : Hid (Ext w4 w20) := Lib.hid (hM20.ext E19.out fun b hb => by have := UG18.out.foot hb; have := Z.out; omega)
  have hpg := hU20.plain
  rw [mkHdsU_fst, LG.out] at hpg
  have PM : Hid (∀ W, Ext w20 W → Calls TryG.prog 24 #[v14, .int .i64 1] W (Ret (.int .i64 nx) W)) := Lib.hid fun W e => by
    have := heldHdS_c (k := 1) W (hpg.ext e) (by omega) (by have := Cg.out; omega)
    rw [Hnx.out] at this
    exact this
  clear Cm hM20 hU20 hpg e19 E19
  go_wp2_with fail
  refine (PM.out _ (Ext.refl _)).mono ?_
  rintro e w21 ⟨rfl, e21⟩
  -- once more
  have E21 := Lib.hid (E4.out.trans (E20.out.trans e21))
  go_wp2_with fail
  refine (toHeldS_c w21 (H0.out.ext E21.out) B0.out).mono ?_
  rintro e w22 ⟨u1, rfl, ⟨lu1, hl1, hU1, -⟩, f1⟩
  have T1 := Lib.hid hU1.plain
  rw [hl1] at T1
  clear hl1 hU1
  go_wp2_with fail
  refine (toCheckS_c w22 (H1.out.ext (E21.out.trans f1)) B1.out).mono ?_
  rintro e w23 ⟨u2, rfl, ⟨-, hK2⟩, f2⟩
  have T2 := Lib.hid hK2
  clear hK2
  go_wp2_with fail
  refine (toHeldS_c w23 (H2.out.ext (E21.out.trans (f1.trans f2))) B2.out).mono ?_
  rintro e w24 ⟨u3, rfl, ⟨lu3, hl3, hU3, -⟩, f3⟩
  have T3 := Lib.hid hU3.plain
  rw [hl3] at T3
  clear hl3 hU3
  have Cm := MendFrom_c w24 (T1.out.ext (f2.trans f3)) (T2.out.ext f3) T3.out
  go_wp2_with fail
  refine Cm.mono ?_
  rintro e w25 (⟨r8, rfl, hM, f4⟩ | hp)
  rotate_left
  · obtain ⟨⟨ch, rfl⟩, hp1, hp2⟩ := hp
    exact ⟨rfl, .inr ⟨⟨ch, rfl⟩, hp1, hp2⟩⟩
  rw [HOO.out] at hM
  obtain ⟨v20, lh, rfl, hlh, hUh, -⟩ := hM.all
  rw [HOS.out] at hlh
  rw [HNN.out, HBB.out]
  have hph := hUh.plain; rw [hlh] at hph
  have PH := Lib.hid hph
  have F := Lib.hid (e21.trans (f1.trans (f2.trans (f3.trans f4))))
  clear Cm hM hlh hUh hph f1 f2 f3 f4 T1 T2 T3 e21
  go_wp2_with fail
  refine (CS.out _ (E20.out.trans F.out) _ _ PH.out).mono ?_
  rintro e w26 ⟨rfl, e26⟩
  go_wp2_with fail
  refine (PM.out _ (F.out.trans e26)).mono ?_
  rintro e w27 ⟨rfl, e27⟩
  go_wp2
  go_ret
  exact .inl ⟨_, rfl, rfl, E4.out.trans (E20.out.trans (F.out.trans (e26.trans e27)))⟩
end Go.Sf
