/- Arguments that are volumes; the exact law of VolumeValid. -/
import Derived.Test.YtfbmcfkghihfnaaDoorT87
import Derived.Test.YtfbmcfkghihfnaaDoorX8
namespace Go.Sf
open Go Go.RowKit Go.Proofs
theorem bkl_len (l : List It) : l.length ≤ bkIts l := by unfold bkIts; omega
theorem HdsU.keepT {B : Nat} {t : TypeId} {w w' : World} {v : Value} {lu : List (Hd × Value)} (h : HdsU B w v lu) (hk : KeepsT t w w') (h1 : 60 ≠ t) (h2 : 3 ≠ t) : HdsU B w' v lu := SlOf.keepT h hk h1 fun _ _ _ h => h.keepT hk h2
theorem ItsU.keepT {B : Nat} {t : TypeId} {w w' : World} {v : Value} {lu : List (It × Value)} (h : ItsU B w v lu) (hk : KeepsT t w w') (h1 : 75 ≠ t) (h2 : 3 ≠ t) : ItsU B w' v lu := SlOf.keepT h hk h1 fun _ _ _ h => h.keepT hk h2
set_option maxRecDepth 4000 in
set_option maxHeartbeats 1000000 in
theorem szVolume_c {vs vt : Value} {s : List Hd} {t : List It} {left : Int} (w : World) (hs : AHds w vs s) (ht : AIts w vt t) (h0 : 0 ≤ left) (h1 : left ≤ 1048576) :
    Calls Tryd.prog 6 #[.agg #[vs, vt], .int .i64 left] w (Ret (.int .i64 (dec left (bkHds s + bkIts t))) w) := by
  have HS := Lib.hid hs; have HT := Lib.hid ht
  obtain ⟨A, c, rfl, -⟩ := hs
  obtain ⟨A2, c2, rfl, -⟩ := ht
  have e0 : Ext w (w.alloc (.cells #[.slice A s.length c, .slice A2 t.length c2] 25)) := (Ext.refl w).alloc _
  have hbk := Blk.new w 25 #[.slice A s.length c, .slice A2 t.length c2]
  have d1 := fun W (e : Ext _ W) => hbk.at_ (i := 1) (u := .slice A2 t.length c2) rfl W e
  have Ch := szHeldS_c _ (HS.out.ext e0) h0 h1
  clear hbk
  by_cases hl : left < bkHds s
  · rw [dec_neg hl] at Ch
    have hr := Lib.hid (dec_more (b := bkIts t) hl)
    clear hl
    go_enter Tryd.func6, Tryd.ntmps6
    go_wp2_with (go_at_call 22; refine Ch.mono ?_; rintro e w1 ⟨rfl, he1⟩)
    go_ret
    exact ⟨ret_v (by rw [hr.out]; rfl), e0.trans he1⟩
  · have hr := Lib.hid (dec_dec (b := bkIts t) hl)
    rw [dec_pos hl] at Ch hr
    have hd0 : 0 ≤ left - (bkHds s : Int) := by omega
    have hd1 : ¬ left - (bkHds s : Int) < 0 := by omega
    have Ci := fun W (e : Ext w W) => szItemS_c W (HT.out.ext e) hd0 (by omega)
    have hdo := Lib.hid (dec_or' (left := left - (bkHds s : Int)) (n := bkIts t))
    generalize dec (left - (bkHds s : Int)) (bkIts t) = D at *
    clear hl
    by_cases h5 : D < 0
    · go_enter Tryd.func6, Tryd.ntmps6
      go_wp2_with (first | (go_at_call 22; refine Ch.mono ?_; rintro e w1 ⟨rfl, he1⟩; have q1 := d1 w1 he1) | (go_at_call 23; refine (Ci _ (e0.trans he1)).mono ?_; rintro e w2 ⟨rfl, he2⟩))
      go_ret
      have hv : Value.int .i64 (-1) = .int .i64 (dec left (bkHds s + bkIts t)) := by
        rw [← hr.out]
        rcases hdo.out with h | h
        · omega
        · rw [h]
      exact ⟨ret_v hv, (e0.trans he1).trans he2⟩
    · go_enter Tryd.func6, Tryd.ntmps6
      go_wp2_with (first | (go_at_call 22; refine Ch.mono ?_; rintro e w1 ⟨rfl, he1⟩; have q1 := d1 w1 he1) | (go_at_call 23; refine (Ci _ (e0.trans he1)).mono ?_; rintro e w2 ⟨rfl, he2⟩))
      go_ret
      exact ⟨ret_v (by rw [← hr.out]; rfl), (e0.trans he1).trans he2⟩
set_option maxRecDepth 4000 in
set_option maxHeartbeats 1000000 in
theorem eqVolume_same {B1 B2 B3 B4 : Nat} {a1 a2 b1 b2 : Value} {s : List Hd} {t : List It} (w : World) (h1 : Hds B1 w a1 s) (h2 : Its B2 w a2 t) (h3 : Hds B3 w b1 s) (h4 : Its B4 w b2 t) :
    Calls Tryd.prog 10 #[.agg #[a1, a2], .agg #[b1, b2]] w (Ret (.bool true) w) := by
  have H1 := Lib.hid h1; have H2 := Lib.hid h2; have H3 := Lib.hid h3; have H4 := Lib.hid h4
  obtain ⟨A1, c1, rfl, -⟩ := h1
  obtain ⟨A2, c2, rfl, -⟩ := h2
  obtain ⟨A3, c3, rfl, -⟩ := h3
  obtain ⟨A4, c4, rfl, -⟩ := h4
  have e0 : Ext w ((w.alloc (.cells #[.slice A1 s.length c1, .slice A2 t.length c2] 31)).alloc (.cells #[.slice A3 s.length c3, .slice A4 t.length c4] 31)) := ((Ext.refl w).alloc _).alloc _
  have hbk := (Blk.new w 31 #[.slice A1 s.length c1, .slice A2 t.length c2]).alloc (.cells #[.slice A3 s.length c3, .slice A4 t.length c4] 31)
  have hbl := Blk.new (w.alloc (.cells #[.slice A1 s.length c1, .slice A2 t.length c2] 31)) 31 #[.slice A3 s.length c3, .slice A4 t.length c4]
  simp only [World.size_alloc] at hbl
  have d1 := fun W (e : Ext _ W) => hbk.at_ (i := 1) (u := .slice A2 t.length c2) rfl W e
  have k1 := fun W (e : Ext _ W) => hbl.at_ (i := 1) (u := .slice A4 t.length c4) rfl W e
  have Ch := laws_eqHeldS_c _ (H1.out.ext e0) (H3.out.ext e0)
  rw [show eqb s s = true from eqb_true.2 rfl] at Ch
  have Ci : ∀ W, Ext w W → Calls Tryd.prog 32 #[.slice A2 t.length c2, .slice A4 t.length c4] W (Ret (.bool true) W) := fun W e => by
    have := laws_eqItemS_c W (H2.out.ext e) (H4.out.ext e)
    rwa [show eqb t t = true from eqb_true.2 rfl] at this
  clear hbk hbl
  go_enter Tryd.func10, Tryd.ntmps10
  go_wp2_with (first | (go_at_call 31; refine Ch.mono ?_; rintro e w1 ⟨rfl, he1⟩; have q1 := d1 w1 he1; have q2 := k1 w1 he1) | (go_at_call 32; refine (Ci _ (e0.trans he1)).mono ?_; rintro e w2 ⟨rfl, he2⟩))
  go_ret
  exact ⟨rfl, (e0.trans he1).trans he2⟩
/-- a copy of a volume: its blocks lie ahead of m, its items behind -/
def VolU (B : Nat) (w : World) (r : Value) (s : List Hd) (t : List It) : Prop :=
  ∃ u1 u2 lh li m, r = .agg #[u1, u2] ∧ lh.map Prod.fst = s ∧ HdsU B w u1 lh ∧ Sep lh ∧ (∀ b, FootHd u1 lh b → b < m) ∧ li.map Prod.fst = t ∧ ItsU m w u2 li ∧ Sep li ∧ B ≤ m
theorem VolU.ext {B : Nat} {w w' : World} {r : Value} {s : List Hd} {t : List It} (h : VolU B w r s t) (e : Ext w w') : VolU B w' r s t :=
  let ⟨u1, u2, lh, li, m, a1, a2, a3, a4, a5, a6, a7, a8, a9⟩ := h; ⟨u1, u2, lh, li, m, a1, a2, a3.ext e, a4, a5, a6, a7.ext e, a8, a9⟩
theorem VolU.plain {B : Nat} {w : World} {r : Value} {s : List Hd} {t : List It} (h : VolU B w r s t) : ∃ u1 u2, r = .agg #[u1, u2] ∧ Hds 0 w u1 s ∧ Its 0 w u2 t := by
  obtain ⟨u1, u2, lh, li, m, a1, a2, a3, -, -, a6, a7, -, -⟩ := h
  refine ⟨u1, u2, a1, ?_, ?_⟩
  · have := a3.plain; rw [a2] at this; exact this.keep (Nat.zero_le _) (fun _ _ _ => rfl)
  · have := a7.its; rw [a6] at this; exact this.keep (Nat.zero_le _) (fun _ _ _ => rfl)
set_option maxRecDepth 8000 in
set_option maxHeartbeats 2000000 in
theorem toVolume_c {vs vt : Value} {s : List Hd} {t : List It} (w : World) (hs : AHds w vs s) (ht : AIts w vt t) (hbs : bkHds s ≤ 1048576) (hbt : bkIts t ≤ 1048576) :
    Calls Tryd.prog 8 #[.agg #[vs, vt]] w (RetP (fun r w' => VolU w.heap.size w' r s t) w) := by
  have HS := Lib.hid hs; have HT := Lib.hid ht
  obtain ⟨A, c, rfl, -⟩ := hs
  obtain ⟨A2, c2, rfl, -⟩ := ht
  go_enter Tryd.func8, Tryd.ntmps8
  go_wp2_with fail
  refine (toHeldS_c _ (HS.out.ext (by (repeat' (first | exact Ext.refl _ | assumption | refine Ext.alloc ?_ _ | refine Ext.drew ?_ | refine Ext.drewN ?_ _)))) hbs).mono ?_
  rintro e w4 ⟨u1, rfl, ⟨lh, hlh, hU, hSp⟩, he⟩
  have hb2 := ((Blk.new (w.alloc (.cells #[.slice A s.length c, .slice A2 t.length c2] 25)) 31 #[.slice none 0 0, .slice none 0 0]).alloc (.cells #[.slice none 0 0, .slice none 0 0] 31)).ext he
  have hb3 := (Blk.new ((w.alloc (.cells #[.slice A s.length c, .slice A2 t.length c2] 25)).alloc (.cells #[.slice none 0 0, .slice none 0 0] 31)) 31 #[.slice none 0 0, .slice none 0 0]).ext he
  have hb4 := (((Blk.new w 25 #[.slice A s.length c, .slice A2 t.length c2]).alloc (.cells #[.slice none 0 0, .slice none 0 0] 31)).alloc (.cells #[.slice none 0 0, .slice none 0 0] 31)).ext he
  simp only [World.size_alloc] at hb2 hb3 hU
  have he4 : Ext w w4 := Ext.trans (by (repeat' (first | exact Ext.refl _ | assumption | refine Ext.alloc ?_ _ | refine Ext.drew ?_ | refine Ext.drewN ?_ _))) he
  have hfoot : Hid (∀ b, FootHd u1 lh b → b < w4.heap.size) := Lib.hid fun b hb => (hU.foot hb).2
  have HU := Lib.hid (hU.keep (B' := w.heap.size) (by omega) (fun _ _ _ => rfl))
  have HL := Lib.hid hlh; have HSp := Lib.hid hSp
  obtain ⟨A3, c3, rfl, -⟩ := hU
  generalize lh.length = n3 at *
  have c0 := hb3.cell 0; have c1 := hb3.cell 1; have f0 := hb3.frozen 0
  have k1 := hb4.cell 1
  simp at c0 c1 k1
  have K1 : KeepsT 31 w4 _ := KeepsT.set (i := 0) hb3 (.slice A3 n3 c3) rfl
  have E4 := he4.setCell (p := ⟨w.heap.size + 1 + 1, 0, none⟩) (by simp; omega) (.slice A3 n3 c3)
  have B3 := hb3.set_ 0 (.slice A3 n3 c3)
  have B2 := hb2.far (p := ⟨w.heap.size + 1 + 1, 0, none⟩) (by simp) (.slice A3 n3 c3)
  have HU5 := Lib.hid (HU.out.keepT K1 (by decide) (by decide))
  have Ci := toItemS_c _ (HT.out.ext E4) hbt
  have HE4 := Lib.hid E4; have HB3 := Lib.hid B3; have HB2 := Lib.hid B2
  clear hb2 hb3 hb4 he he4 hlh hSp K1 E4 B3 B2 HU
  go_wp2_with fail
  refine Ci.mono ?_
  rintro e w5 ⟨u2, rfl, ⟨li, hli, hI, hSpi⟩, he5⟩
  have b3 := HB3.out.ext he5; have b2 := HB2.out.ext he5
  have hUw := HU5.out.ext he5
  have E5 := HE4.out.trans he5
  simp only [World.size_setCell] at hI
  have HI := Lib.hid hI; have HLi := Lib.hid hli; have HSi := Lib.hid hSpi
  have hle : w.heap.size ≤ w4.heap.size := by have := HE4.out.size; simpa using this
  obtain ⟨A4, c4, rfl, -⟩ := hI
  generalize li.length = n4 at *
  clear c0 c1 f0 k1 Ci hli hSpi he5
  have c0 := b3.cell 0; have c1 := b3.cell 1; have f1 := b3.frozen 1
  have d0 := b2.cell 0; have d1 := b2.cell 1; have g0 := b2.frozen 0; have g1 := b2.frozen 1
  simp at c0 c1 d0 d1
  have B31 := b3.set_ 1 (.slice A4 n4 c4)
  have B21 := b2.far (p := ⟨w.heap.size + 1 + 1, 1, none⟩) (by simp) (.slice A4 n4 c4)
  have B22 := B21.set_ 0 (.slice A3 n3 c3)
  have B23 := B22.set_ 1 (.slice A4 n4 c4)
  have K : KeepsT 31 w5 _ := (KeepsT.set (i := 1) b3 (.slice A4 n4 c4) rfl).trans ((KeepsT.set (i := 0) B21 (.slice A3 n3 c3) rfl).trans (KeepsT.set (i := 1) B22 (.slice A4 n4 c4) rfl))
  have E3 := ((E5.setCell (p := ⟨w.heap.size + 1 + 1, 1, none⟩) (by simp; omega) (.slice A4 n4 c4)).setCell (p := ⟨w.heap.size + 1, 0, none⟩) (by simp) (.slice A3 n3 c3)).setCell (p := ⟨w.heap.size + 1, 1, none⟩) (by simp) (.slice A4 n4 c4)
  have HB := Lib.hid B23; have HK := Lib.hid K; have HE := Lib.hid E3; have HUw := Lib.hid hUw
  clear b3 b2 B31 B21 B22 B23 K E3 E5 hUw
  go_wp2
  have HB := HB.out; have HK := HK.out; have HE := HE.out
  have z0 := HB.cell 0; have z1 := HB.cell 1
  simp at z0 z1
  exact bodyPost_ret (v := .agg #[.slice A3 n3 c3, .slice A4 n4 c4]) (by simp [results, Tryd.results8, go_sem, z0, z1]) rfl
    ⟨_, rfl, ⟨_, _, lh, li, w4.heap.size, rfl, HL.out, HUw.out.keepT HK (by decide) (by decide), HSp.out, hfoot.out, HLi.out, HI.out.keepT HK (by decide) (by decide), HSi.out, hle⟩, HE⟩
set_option maxRecDepth 8000 in
set_option maxHeartbeats 2000000 in
theorem FnExactVolumeValid_c {vs vt : Value} {s : List Hd} {t : List It} (w : World) (hs : AHds w vs s) (ht : AIts w vt t) (hm : ML w) : Calls Tryd.prog 3 #[.agg #[vs, vt]] w (Ret (.bool true) w) := by
  have HS := Lib.hid hs; have HT := Lib.hid ht; have HM := Lib.hid hm
  obtain ⟨A, c, rfl, -⟩ := hs
  obtain ⟨A2, c2, rfl, -⟩ := ht
  have e0 : Ext w (w.alloc (.cells #[.slice A s.length c, .slice A2 t.length c2] 25)) := (Ext.refl w).alloc _
  have hbk := Blk.new w 25 #[.slice A s.length c, .slice A2 t.length c2]
  have d0 := fun W (e : Ext _ W) => hbk.at_ (i := 0) (u := .slice A s.length c) rfl W e
  have d1 := fun W (e : Ext _ W) => hbk.at_ (i := 1) (u := .slice A2 t.length c2) rfl W e
  have Cz := szVolume_c (left := 1048576) _ (HS.out.ext e0) (HT.out.ext e0) (by omega) (by omega)
  clear hm hbk
  by_cases hbig : (1048576 : Int) < ((bkHds s + bkIts t : Nat) : Int)
  · rw [dec_neg hbig] at Cz
    clear hbig
    go_enter Tryd.func3, Tryd.ntmps3
    go_wp2_with (go_at_call 6; refine Cz.mono ?_; rintro e w1 ⟨rfl, he1⟩)
    go_ret
    exact ⟨rfl, e0.trans he1⟩
  rw [dec_pos hbig] at Cz
  have hd0 : ¬ (1048576 : Int) - ((bkHds s + bkIts t : Nat) : Int) < 0 := by omega
  have Hbs : Hid (bkHds s ≤ 1048576) := Lib.hid (by omega)
  have Hbt : Hid (bkIts t ≤ 1048576) := Lib.hid (by omega)
  generalize (1048576 : Int) - ((bkHds s + bkIts t : Nat) : Int) = D at *
  clear hbig
  go_enter Tryd.func3, Tryd.ntmps3
  go_wp2_with (go_at_call 6; refine Cz.mono ?_; rintro e w1 ⟨rfl, he1⟩; have q0 := d0 w1 he1; have q1 := d1 w1 he1)
  have E1 := Lib.hid (e0.trans he1)
  clear Cz
  have F0 := fun W (e : Ext w1 W) => d0 W (he1.trans e)
  have F1 := fun W (e : Ext w1 W) => d1 W (he1.trans e)
  clear d0 d1 he1 e0
  refine (toVolume_c w1 (HS.out.ext E1.out) (HT.out.ext E1.out) Hbs.out Hbt.out).mono ?_
  rintro e w2 ⟨r2, rfl, hV2, he2⟩
  obtain ⟨p1, p2, rfl, hH2, hI2⟩ := hV2.plain
  have Cs := specVolumeValid_c w2 hH2 hI2
  clear hV2 hH2 hI2 q0 q1
  go_wp2_with fail
  refine Cs.mono ?_
  rintro e w3 ⟨rfl, he3⟩
  have e13 := he2.trans he3
  have E3 := Lib.hid (E1.out.trans e13)
  have q0 := F0 w3 e13; have q1 := F1 w3 e13
  have G0 := fun W (e : Ext w3 W) => F0 W (e13.trans e)
  have G1 := fun W (e : Ext w3 W) => F1 W (e13.trans e)
  clear Cs F0 F1 he2 he3 e13
  go_wp2_with fail
  refine (toVolume_c w3 (HS.out.ext E3.out) (HT.out.ext E3.out) Hbs.out Hbt.out).mono ?_
  rintro e w4 ⟨r4, rfl, hV4, he4⟩
  obtain ⟨x1, x2, rfl, hH4, hI4⟩ := hV4.plain
  have HH4 := Lib.hid hH4; have HI4 := Lib.hid hI4
  obtain ⟨Ax, cx, rfl, -⟩ := hH4
  obtain ⟨Ay, cy, rfl, -⟩ := hI4
  have e5 : Ext w3 (w4.alloc (.cells #[.slice Ax s.length cx, .slice Ay t.length cy] 31)) := he4.alloc _
  have e45 : Ext w4 (w4.alloc (.cells #[.slice Ax s.length cx, .slice Ay t.length cy] 31)) := (Ext.refl w4).alloc _
  have hbx := Blk.new w4 31 #[.slice Ax s.length cx, .slice Ay t.length cy]
  have X0 := fun W (e : Ext _ W) => hbx.at_ (i := 0) (u := .slice Ax s.length cx) rfl W e
  have X1 := fun W (e : Ext _ W) => hbx.at_ (i := 1) (u := .slice Ay t.length cy) rfl W e
  have Cv := VolumeValid_c _ (HH4.out.ext e45) (HI4.out.ext e45) (HM.out.ext (E3.out.trans e5))
  clear hV4 hbx q0 q1
  generalize volOk s t = bb at *
  go_wp2_with fail
  refine Cv.mono ?_
  rintro e w5 ⟨rfl, he5⟩
  have e35 := e5.trans he5
  have E5 := Lib.hid (E3.out.trans e35)
  have HH5 := Lib.hid (HH4.out.ext (e45.trans he5)); have HI5 := Lib.hid (HI4.out.ext (e45.trans he5))
  have x0 := fun W (e : Ext w5 W) => X0 W (he5.trans e)
  have x1 := fun W (e : Ext w5 W) => X1 W (he5.trans e)
  have a0 := fun W (e : Ext w5 W) => G0 W (e35.trans e)
  have a1 := fun W (e : Ext w5 W) => G1 W (e35.trans e)
  clear Cv X0 X1 G0 G1 he4 he5 e5 e45 e35 HH4 HI4
  go_wp2
  refine wp_region_hold (fun W => W.cell? ⟨w4.heap.size, 0, none⟩ = some (.slice Ax s.length cx) ∧ W.cell? ⟨w4.heap.size, 1, none⟩ = some (.slice Ay t.length cy) ∧ W.cell? ⟨w.heap.size, 0, none⟩ = some (.slice A s.length c) ∧ W.cell? ⟨w.heap.size, 1, none⟩ = some (.slice A2 t.length c2)) 3 [(0, true), (1, true), (2, false)] (by kernel_rfl) (by kernel_rfl) ?_ ?_
  · exact ⟨x0 _ (Ext.refl _).drew, x1 _ (Ext.refl _).drew, a0 _ (Ext.refl _).drew, a1 _ (Ext.refl _).drew⟩
  (repeat (first | (apply hw_read (by rfl) (by rfl); (· (intro W hW; (try dsimp only at hW); go_simp; (first | done | rfl | (rw [if_pos] <;> first | omega | rfl)))); (try simp only [Act.put, List.setIfInBounds_toArray, List.set_cons_zero, List.set_cons_succ])) | (refine hw_skip (by rfl) (by rfl) ?_; (try simp only [Act.put, List.setIfInBounds_toArray, List.set_cons_zero, List.set_cons_succ]))))
  refine hw_step (by rfl) ?_
  go_wp2_with (go_at_call 8; refine (toVolume_c _ (HS.out.ext E5.out.drew) (HT.out.ext E5.out.drew) Hbs.out Hbt.out).mono ?_; rintro e w6 ⟨r6, rfl, hV6, he6⟩; obtain ⟨y1, y2, rfl, hH6, hI6⟩ := hV6.plain)
  have e56 : Ext w5 w6 := (Ext.refl w5).drew.trans he6
  have Ce := eqVolume_same w6 (HH5.out.ext e56) (HI5.out.ext e56) hH6 hI6
  refine ⟨⟨x0 _ e56, x1 _ e56, a0 _ e56, a1 _ e56⟩, ?_⟩
  clear hV6 hH6 hI6 x0 x1 a0 a1
  (try (repeat (first | (apply hw_read (by rfl) (by rfl); (· (intro W hW; (try dsimp only at hW); go_simp; (first | done | rfl | (rw [if_pos] <;> first | omega | rfl)))); (try simp only [Act.put, List.setIfInBounds_toArray, List.set_cons_zero, List.set_cons_succ])) | (refine hw_skip (by rfl) (by rfl) ?_; (try simp only [Act.put, List.setIfInBounds_toArray, List.set_cons_zero, List.set_cons_succ])))))
  (refine hw_nil ?_; simp only [List.drop_succ_cons, List.drop_zero])
  go_wp2_with (go_at_call 10; refine Ce.mono ?_; rintro e w7 ⟨rfl, he7⟩)
  refine NoPanic.normal ?_
  (try dsimp only [Exit.then])
  go_wp2
  go_ret
  exact ⟨rfl, E5.out.trans (e56.trans he7)⟩
end Go.Sf
