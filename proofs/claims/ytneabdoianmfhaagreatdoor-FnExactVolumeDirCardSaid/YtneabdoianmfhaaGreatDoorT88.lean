/- Arguments that are volumes; the exact law of VolumeValid. -/
import Derived.Test.YtneabdoianmfhaaGreatDoorGQ
import Derived.Test.YtneabdoianmfhaaGreatDoorX8
namespace Go.Sf
open Go Go.RowKit Go.Proofs
theorem bkl_len (l : List It) : l.length ≤ bkIts l := by unfold bkIts; omega
theorem HdsU.keepT {B : Nat} {t : TypeId} {w w' : World} {v : Value} {lu : List (Hd × Value)} (h : HdsU B w v lu) (hk : KeepsT t w w') (h1 : 84 ≠ t) (h2 : 3 ≠ t) : HdsU B w' v lu := SlOf.keepT h hk h1 fun _ _ _ h => h.keepT hk h2
theorem ItsU.keepT {B : Nat} {t : TypeId} {w w' : World} {v : Value} {lu : List (It × Value)} (h : ItsU B w v lu) (hk : KeepsT t w w') (h1 : 100 ≠ t) (h2 : 3 ≠ t) : ItsU B w' v lu := SlOf.keepT h hk h1 fun _ _ _ h => h.keepT hk h2
set_option maxRecDepth 4000 in
set_option maxHeartbeats 1000000 in
theorem szVolume_c {vs vt : Value} {s : List Hd} {t : List It} {left : Int} (w : World) (hs : AHds w vs s) (ht : AIts w vt t) (h0 : 0 ≤ left) (h1 : left ≤ 1048576) :
    Calls Tryz.prog 38 #[.agg #[vs, vt], .int .i64 left] w (Ret (.int .i64 (dec left (bkHds s + bkIts t))) w) := by
  have HS := Lib.hid hs; have HT := Lib.hid ht
  obtain ⟨A, c, rfl, -⟩ := hs
  obtain ⟨A2, c2, rfl, -⟩ := ht
  have e0 : Ext w (w.alloc (.cells #[.slice A s.length c, .slice A2 t.length c2] 63)) := (Ext.refl w).alloc _
  have hbk := Blk.new w 63 #[.slice A s.length c, .slice A2 t.length c2]
  have d1 := fun W (e : Ext _ W) => hbk.at_ (i := 1) (u := .slice A2 t.length c2) rfl W e
  have Ch := szHeldS_c _ (HS.out.ext e0) h0 h1
  clear hbk
  by_cases hl : left < bkHds s
  · rw [dec_neg hl] at Ch
    have hr := Lib.hid (dec_more (b := bkIts t) hl)
    clear hl
    go_enter Tryz.func38, Tryz.ntmps38
    go_wp2_with (go_at_call 49; refine Ch.mono ?_; rintro e w1 ⟨rfl, he1⟩)
    go_ret
    exact ⟨ret_v (by rw [hr.out]; rfl), e0.trans he1⟩
  · have hr := Lib.hid (dec_dec (b := bkIts t) hl)
    rw [dec_pos hl] at Ch hr
    have hd0 : 0 ≤ left - (bkHds s : Int) := by omega
    have hd1 : ¬ left - (bkHds s : Int) < 0 := by omega
    have Ci := fun W (e : Ext w W) => szItemS_c W (HT.out.ext e) hd0 (by omega)
    have hdo := Lib.hid (dec_or' (left := left - (bkHds s : Int)) (n := bkIts t))
    generalize dec (left - (bkHds s : Int)) (bkIts t) = D at *
    clear hl
    by_cases h5 : D < 0
    · go_enter Tryz.func38, Tryz.ntmps38
      go_wp2_with (first | (go_at_call 49; refine Ch.mono ?_; rintro e w1 ⟨rfl, he1⟩; have q1 := d1 w1 he1) | (go_at_call 50; refine (Ci _ (e0.trans he1)).mono ?_; rintro e w2 ⟨rfl, he2⟩))
      go_ret
      have hv : Value.int .i64 (-1) = .int .i64 (dec left (bkHds s + bkIts t)) := by
        rw [← hr.out]
        rcases hdo.out with h | h
        · omega
        · rw [h]
      exact ⟨ret_v hv, (e0.trans he1).trans he2⟩
    · go_enter Tryz.func38, Tryz.ntmps38
      go_wp2_with (first | (go_at_call 49; refine Ch.mono ?_; rintro e w1 ⟨rfl, he1⟩; have q1 := d1 w1 he1) | (go_at_call 50; refine (Ci _ (e0.trans he1)).mono ?_; rintro e w2 ⟨rfl, he2⟩))
      go_ret
      exact ⟨ret_v (by rw [← hr.out]; rfl), (e0.trans he1).trans he2⟩
set_option maxRecDepth 4000 in
set_option maxHeartbeats 1000000 in
theorem eqVolume_same {B1 B2 B3 B4 : Nat} {a1 a2 b1 b2 : Value} {s : List Hd} {t : List It} (w : World) (h1 : Hds B1 w a1 s) (h2 : Its B2 w a2 t) (h3 : Hds B3 w b1 s) (h4 : Its B4 w b2 t) :
    Calls Tryz.prog 42 #[.agg #[a1, a2], .agg #[b1, b2]] w (Ret (.bool true) w) := by
  have H1 := Lib.hid h1; have H2 := Lib.hid h2; have H3 := Lib.hid h3; have H4 := Lib.hid h4
  obtain ⟨A1, c1, rfl, -⟩ := h1
  obtain ⟨A2, c2, rfl, -⟩ := h2
  obtain ⟨A3, c3, rfl, -⟩ := h3
  obtain ⟨A4, c4, rfl, -⟩ := h4
  have e0 : Ext w ((w.alloc (.cells #[.slice A1 s.length c1, .slice A2 t.length c2] 66)).alloc (.cells #[.slice A3 s.length c3, .slice A4 t.length c4] 66)) := ((Ext.refl w).alloc _).alloc _
  have hbk := (Blk.new w 66 #[.slice A1 s.length c1, .slice A2 t.length c2]).alloc (.cells #[.slice A3 s.length c3, .slice A4 t.length c4] 66)
  have hbl := Blk.new (w.alloc (.cells #[.slice A1 s.length c1, .slice A2 t.length c2] 66)) 66 #[.slice A3 s.length c3, .slice A4 t.length c4]
  simp only [World.size_alloc] at hbl
  have d1 := fun W (e : Ext _ W) => hbk.at_ (i := 1) (u := .slice A2 t.length c2) rfl W e
  have k1 := fun W (e : Ext _ W) => hbl.at_ (i := 1) (u := .slice A4 t.length c4) rfl W e
  have Ch := laws_eqHeldS_c _ (H1.out.ext e0) (H3.out.ext e0)
  rw [show eqb s s = true from eqb_true.2 rfl] at Ch
  have Ci : ∀ W, Ext w W → Calls Tryz.prog 64 #[.slice A2 t.length c2, .slice A4 t.length c4] W (Ret (.bool true) W) := fun W e => by
    have := laws_eqItemS_c W (H2.out.ext e) (H4.out.ext e)
    rwa [show eqb t t = true from eqb_true.2 rfl] at this
  clear hbk hbl
  go_enter Tryz.func42, Tryz.ntmps42
  go_wp2_with (first | (go_at_call 63; refine Ch.mono ?_; rintro e w1 ⟨rfl, he1⟩; have q1 := d1 w1 he1; have q2 := k1 w1 he1) | (go_at_call 64; refine (Ci _ (e0.trans he1)).mono ?_; rintro e w2 ⟨rfl, he2⟩))
  go_ret
  exact ⟨rfl, (e0.trans he1).trans he2⟩
/-- a copy of a volume: its blocks lie ahead of m, its items behind -/
def VolU (B : Nat) (w : World) (r : Value) (s : List Hd) (t : List It) : Prop :=
  ∃ u1 u2 lh li m, r = .agg #[u1, u2] ∧ lh.map Prod.fst = s ∧ HdsU B w u1 lh ∧ Sep lh ∧ (∀ b, FootHd u1 lh b → b < m) ∧ li.map Prod.fst = t ∧ ItsU m w u2 li ∧ Sep li ∧ B ≤ m
theorem VolU.ext {B : Nat} {w w' : World} {r : Value} {s : List Hd} {t : List It} (h : VolU B w r s t) (e : Ext w w') : VolU B w' r s t :=
  let ⟨u1, u2, lh, li, m, a1, a2, a3, a4, a5, a6, a7, a8, a9⟩ := h; ⟨u1, u2, lh, li, m, a1, a2, a3.ext e, a4, a5, a6, a7.ext e, a8, a9⟩
theorem VolU.plain {B : Nat} {w : World} {r : Value} {s : List Hd} {t : List It} (h : VolU B w r s t) : ∃ u1 u2, r = .agg #[u1, u2] ∧ Hds 0 w u1 s ∧ Its 0 w u2 t := by
  obtain ⟨u1, u2, lh, li, m, a1, a2, a3, -, -, a6, a7, -, -⟩ := h
  refine ⟨u1, u2, a1, ?_, ?_⟩
  · have := a3.plain; rw [a2] at this; exact this.keep (Nat.zero_le _) (fun _ _ _ => rfl)
  · have := a7.its; rw [a6] at this; exact this.keep (Nat.zero_le _) (fun _ _ _ => rfl)
set_option maxRecDepth 8000 in
set_option maxHeartbeats 2000000 in
theorem toVolume_c {vs vt : Value} {s : List Hd} {t : List It} (w : World) (hs : AHds w vs s) (ht : AIts w vt t) (hbs : bkHds s ≤ 1048576) (hbt : bkIts t ≤ 1048576) :
    Calls Tryz.prog 40 #[.agg #[vs, vt]] w (RetP (fun r w' => VolU w.heap.size w' r s t) w) := by
  have HS := Lib.hid hs; have HT := Lib.hid ht
  obtain ⟨A, c, rfl, -⟩ := hs
  obtain ⟨A2, c2, rfl, -⟩ := ht
  go_enter Tryz.func40, Tryz.ntmps40
  go_wp2_with fail
  refine (toHeldS_c _ (HS.out.ext (by (repeat' (first | exact Ext.refl _ | assumption | refine Ext.alloc ?_ _ | refine Ext.drew ?_ | refine Ext.drewN ?_ _)))) hbs).mono ?_
  rintro e w4 ⟨u1, rfl, ⟨lh, hlh, hU, hSp⟩, he⟩
  have hb2 := ((Blk.new (w.alloc (.cells #[.slice A s.length c, .slice A2 t.length c2] 63)) 66 #[.slice none 0 0, .slice none 0 0]).alloc (.cells #[.slice none 0 0, .slice none 0 0] 66)).ext he
  have hb3 := (Blk.new ((w.alloc (.cells #[.slice A s.length c, .slice A2 t.length c2] 63)).alloc (.cells #[.slice none 0 0, .slice none 0 0] 66)) 66 #[.slice none 0 0, .slice none 0 0]).ext he
  have hb4 := (((Blk.new w 63 #[.slice A s.length c, .slice A2 t.length c2]).alloc (.cells #[.slice none 0 0, .slice none 0 0] 66)).alloc (.cells #[.slice none 0 0, .slice none 0 0] 66)).ext he
  simp only [World.size_alloc] at hb2 hb3 hU
  have he4 : Ext w w4 := Ext.trans (by (repeat' (first | exact Ext.refl _ | assumption | refine Ext.alloc ?_ _ | refine Ext.drew ?_ | refine Ext.drewN ?_ _))) he
  have hfoot : Hid (∀ b, FootHd u1 lh b → b < w4.heap.size) := Lib.hid fun b hb => (hU.foot hb).2
  have HU := Lib.hid (hU.keep (B' := w.heap.size) (by omega) (fun _ _ _ => rfl))
  have HL := Lib.hid hlh; have HSp := Lib.hid hSp
  obtain ⟨A3, c3, rfl, -⟩ := hU
  generalize lh.length = n3 at *
  have c0 := hb3.cell 0; have c1 := hb3.cell 1; have f0 := hb3.frozen 0
  have k1 := hb4.cell 1
  simp at c0 c1 k1
  have K1 : KeepsT 66 w4 _ := KeepsT.set (i := 0) hb3 (.slice A3 n3 c3) rfl
  have E4 := he4.setCell (p := ⟨w.heap.size + 1 + 1, 0, none⟩) (by simp; omega) (.slice A3 n3 c3)
  have B3 := hb3.set_ 0 (.slice A3 n3 c3)
  have B2 := hb2.far (p := ⟨w.heap.size + 1 + 1, 0, none⟩) (by simp) (.slice A3 n3 c3)
  have HU5 := Lib.hid (HU.out.keepT K1 (by decide) (by decide))
  have Ci := toItemS_c _ (HT.out.ext E4) hbt
  have HE4 := Lib.hid E4; have HB3 := Lib.hid B3; have HB2 := Lib.hid B2
  clear hb2 hb3 hb4 he he4 hlh hSp K1 E4 B3 B2 HU
  go_wp2_with fail
  refine Ci.mono ?_
  rintro e w5 ⟨u2, rfl, ⟨li, hli, hI, hSpi⟩, he5⟩
  have b3 := HB3.out.ext he5; have b2 := HB2.out.ext he5
  have hUw := HU5.out.ext he5
  have E5 := HE4.out.trans he5
  simp only [World.size_setCell] at hI
  have HI := Lib.hid hI; have HLi := Lib.hid hli; have HSi := Lib.hid hSpi
  have hle : w.heap.size ≤ w4.heap.size := by have := HE4.out.size; simpa using this
  obtain ⟨A4, c4, rfl, -⟩ := hI
  generalize li.length = n4 at *
  clear c0 c1 f0 k1 Ci hli hSpi he5
  have c0 := b3.cell 0; have c1 := b3.cell 1; have f1 := b3.frozen 1
  have d0 := b2.cell 0; have d1 := b2.cell 1; have g0 := b2.frozen 0; have g1 := b2.frozen 1
  simp at c0 c1 d0 d1
  have B31 := b3.set_ 1 (.slice A4 n4 c4)
  have B21 := b2.far (p := ⟨w.heap.size + 1 + 1, 1, none⟩) (by simp) (.slice A4 n4 c4)
  have B22 := B21.set_ 0 (.slice A3 n3 c3)
  have B23 := B22.set_ 1 (.slice A4 n4 c4)
  have K : KeepsT 66 w5 _ := (KeepsT.set (i := 1) b3 (.slice A4 n4 c4) rfl).trans ((KeepsT.set (i := 0) B21 (.slice A3 n3 c3) rfl).trans (KeepsT.set (i := 1) B22 (.slice A4 n4 c4) rfl))
  have E3 := ((E5.setCell (p := ⟨w.heap.size + 1 + 1, 1, none⟩) (by simp; omega) (.slice A4 n4 c4)).setCell (p := ⟨w.heap.size + 1, 0, none⟩) (by simp) (.slice A3 n3 c3)).setCell (p := ⟨w.heap.size + 1, 1, none⟩) (by simp) (.slice A4 n4 c4)
  have HB := Lib.hid B23; have HK := Lib.hid K; have HE := Lib.hid E3; have HUw := Lib.hid hUw
  clear b3 b2 B31 B21 B22 B23 K E3 E5 hUw
  go_wp2
  have HB := HB.out; have HK := HK.out; have HE := HE.out
  have z0 := HB.cell 0; have z1 := HB.cell 1
  simp at z0 z1
  exact bodyPost_ret (v := .agg #[.slice A3 n3 c3, .slice A4 n4 c4]) (by simp [results, Tryz.results40, go_sem, z0, z1]) rfl
    ⟨_, rfl, ⟨_, _, lh, li, w4.heap.size, rfl, HL.out, HUw.out.keepT HK (by decide) (by decide), HSp.out, hfoot.out, HLi.out, HI.out.keepT HK (by decide) (by decide), HSi.out, hle⟩, HE⟩
end Go.Sf
