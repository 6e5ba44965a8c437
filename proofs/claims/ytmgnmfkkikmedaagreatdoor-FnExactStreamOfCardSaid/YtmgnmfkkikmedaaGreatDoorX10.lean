/- Arguments that are disks: how large they are; copies of them; disks that are alike. -/
import Derived.Test.YtmgnmfkkikmedaaGreatDoorX9
import Derived.Test.YtmgnmfkkikmedaaGreatDoorT94
namespace Go.Sf
open Go Go.RowKit Go.Proofs
set_option maxRecDepth 4000 in
set_option maxHeartbeats 1000000 in
theorem szDisk_c {vs vt vn : Value} {s : List Hd} {t : List It} {l : List Sn} {left : Int} (w : World) (hs : AHds w vs s) (ht : AIts w vt t) (hn : ASns w vn l) (h0 : 0 ≤ left) (h1 : left ≤ 1048576) :
    Calls Tryz.prog 13 #[.agg #[vs, vt, vn], .int .i64 left] w (Ret (.int .i64 (dec left (bkHds s + bkIts t + bkSns l))) w) := by
  have HS := Lib.hid hs; have HT := Lib.hid ht; have HN := Lib.hid hn
  obtain ⟨A, c, rfl, -⟩ := hs
  obtain ⟨A2, c2, rfl, -⟩ := ht
  obtain ⟨A3, c3, rfl, -⟩ := hn
  have e0 : Ext w (w.alloc (.cells #[.slice A s.length c, .slice A2 t.length c2, .slice A3 l.length c3] 26)) := (Ext.refl w).alloc _
  have hbk := Blk.new w 26 #[.slice A s.length c, .slice A2 t.length c2, .slice A3 l.length c3]
  have d1 := fun W (e : Ext _ W) => hbk.at_ (i := 1) (u := .slice A2 t.length c2) rfl W e
  have d2 := fun W (e : Ext _ W) => hbk.at_ (i := 2) (u := .slice A3 l.length c3) rfl W e
  have Ch := szHeldS_c _ (HS.out.ext e0) h0 h1
  clear hbk
  by_cases hl : left < bkHds s
  · rw [dec_neg hl] at Ch
    have hr : Hid (dec left (bkHds s + bkIts t + bkSns l) = -1) := Lib.hid (by rw [Nat.add_assoc]; exact dec_more hl)
    clear hl
    go_enter Tryz.func13, Tryz.ntmps13
    go_wp2_with (go_at_call 49; refine Ch.mono ?_; rintro e w1 ⟨rfl, he1⟩)
    go_ret
    exact ⟨ret_v (by rw [hr.out]; rfl), e0.trans he1⟩
  rw [dec_pos hl] at Ch
  have hd0 : 0 ≤ left - (bkHds s : Int) := by omega
  have hd1 : ¬ left - (bkHds s : Int) < 0 := by omega
  have Ci := fun W (e : Ext w W) => szItemS_c W (HT.out.ext e) hd0 (by omega)
  by_cases hl2 : left - (bkHds s : Int) < bkIts t
  · rw [dec_neg hl2] at Ci
    have hr : Hid (dec left (bkHds s + bkIts t + bkSns l) = -1) := Lib.hid (dec_neg (by omega))
    clear hl hl2
    generalize left - (bkHds s : Int) = D at *
    go_enter Tryz.func13, Tryz.ntmps13
    go_wp2_with (first | (go_at_call 49; refine Ch.mono ?_; rintro e w1 ⟨rfl, he1⟩; have q1 := d1 w1 he1) | (go_at_call 50; refine (Ci _ (e0.trans he1)).mono ?_; rintro e w2 ⟨rfl, he2⟩))
    go_ret
    exact ⟨ret_v (by rw [hr.out]; rfl), (e0.trans he1).trans he2⟩
  rw [dec_pos hl2] at Ci
  have hd2 : 0 ≤ left - (bkHds s : Int) - (bkIts t : Int) := by omega
  have hd3 : ¬ left - (bkHds s : Int) - (bkIts t : Int) < 0 := by omega
  have hdl : left - (bkHds s : Int) - (bkIts t : Int) ≤ 1048576 := by omega
  have Cn := fun W (e : Ext w W) => szSnapS_c W (HN.out.ext e) hd2 hdl
  have hdo := Lib.hid (dec_or' (left := left - (bkHds s : Int) - (bkIts t : Int)) (n := bkSns l))
  have hr : Hid (dec (left - (bkHds s : Int) - (bkIts t : Int)) (bkSns l) = dec left (bkHds s + bkIts t + bkSns l)) := Lib.hid (by
    unfold dec
    by_cases h : left - (bkHds s : Int) - (bkIts t : Int) < (bkSns l : Nat)
    · rw [if_pos h, if_pos (by omega)]
    · rw [if_neg h, if_neg (by omega)]; omega)
  generalize dec (left - (bkHds s : Int) - (bkIts t : Int)) (bkSns l) = D at *
  clear hl hl2
  generalize left - (bkHds s : Int) - (bkIts t : Int) = D2 at *
  generalize left - (bkHds s : Int) = D1 at *
  by_cases h5 : D < 0
  · go_enter Tryz.func13, Tryz.ntmps13
    go_wp2_with (first | (go_at_call 49; refine Ch.mono ?_; rintro e w1 ⟨rfl, he1⟩; have q1 := d1 w1 he1) | (go_at_call 50; refine (Ci _ (e0.trans he1)).mono ?_; rintro e w2 ⟨rfl, he2⟩; have q2 := d2 w2 (he1.trans he2)) | (go_at_call 51; refine (Cn _ ((e0.trans he1).trans he2)).mono ?_; rintro e w3 ⟨rfl, he3⟩))
    go_ret
    have hv : Value.int .i64 (-1) = .int .i64 (dec left (bkHds s + bkIts t + bkSns l)) := by
      rw [← hr.out]
      rcases hdo.out with h | h
      · omega
      · rw [h]
    exact ⟨ret_v hv, ((e0.trans he1).trans he2).trans he3⟩
  · go_enter Tryz.func13, Tryz.ntmps13
    go_wp2_with (first | (go_at_call 49; refine Ch.mono ?_; rintro e w1 ⟨rfl, he1⟩; have q1 := d1 w1 he1) | (go_at_call 50; refine (Ci _ (e0.trans he1)).mono ?_; rintro e w2 ⟨rfl, he2⟩; have q2 := d2 w2 (he1.trans he2)) | (go_at_call 51; refine (Cn _ ((e0.trans he1).trans he2)).mono ?_; rintro e w3 ⟨rfl, he3⟩))
    go_ret
    exact ⟨ret_v (by rw [← hr.out]; rfl), ((e0.trans he1).trans he2).trans he3⟩
set_option maxRecDepth 4000 in
set_option maxHeartbeats 1000000 in
theorem eqDisk_same {B1 B2 B3 B4 B5 B6 : Nat} {a1 a2 a3 b1 b2 b3 : Value} {s : List Hd} {t : List It} {l : List Sn} (w : World) (h1 : Hds B1 w a1 s) (h2 : Its B2 w a2 t) (h3 : Sns B3 w a3 l) (h4 : Hds B4 w b1 s) (h5 : Its B5 w b2 t) (h6 : Sns B6 w b3 l) :
    Calls Tryz.prog 18 #[.agg #[a1, a2, a3], .agg #[b1, b2, b3]] w (Ret (.bool true) w) := by
  have H1 := Lib.hid h1; have H2 := Lib.hid h2; have H3 := Lib.hid h3; have H4 := Lib.hid h4; have H5 := Lib.hid h5; have H6 := Lib.hid h6
  obtain ⟨A1, c1, rfl, -⟩ := h1
  obtain ⟨A2, c2, rfl, -⟩ := h2
  obtain ⟨A3, c3, rfl, -⟩ := h3
  obtain ⟨A4, c4, rfl, -⟩ := h4
  obtain ⟨A5, c5, rfl, -⟩ := h5
  obtain ⟨A6, c6, rfl, -⟩ := h6
  have e0 : Ext w ((w.alloc (.cells #[.slice A1 s.length c1, .slice A2 t.length c2, .slice A3 l.length c3] 35)).alloc (.cells #[.slice A4 s.length c4, .slice A5 t.length c5, .slice A6 l.length c6] 35)) := ((Ext.refl w).alloc _).alloc _
  have hbk := (Blk.new w 35 #[.slice A1 s.length c1, .slice A2 t.length c2, .slice A3 l.length c3]).alloc (.cells #[.slice A4 s.length c4, .slice A5 t.length c5, .slice A6 l.length c6] 35)
  have hbl := Blk.new (w.alloc (.cells #[.slice A1 s.length c1, .slice A2 t.length c2, .slice A3 l.length c3] 35)) 35 #[.slice A4 s.length c4, .slice A5 t.length c5, .slice A6 l.length c6]
  simp only [World.size_alloc] at hbl
  have d1 := fun W (e : Ext _ W) => hbk.at_ (i := 1) (u := .slice A2 t.length c2) rfl W e
  have d2 := fun W (e : Ext _ W) => hbk.at_ (i := 2) (u := .slice A3 l.length c3) rfl W e
  have k1 := fun W (e : Ext _ W) => hbl.at_ (i := 1) (u := .slice A5 t.length c5) rfl W e
  have k2 := fun W (e : Ext _ W) => hbl.at_ (i := 2) (u := .slice A6 l.length c6) rfl W e
  have Ch := laws_eqHeldS_c _ (H1.out.ext e0) (H4.out.ext e0)
  rw [show eqb s s = true from eqb_true.2 rfl] at Ch
  have Ci : ∀ W, Ext w W → Calls Tryz.prog 64 #[.slice A2 t.length c2, .slice A5 t.length c5] W (Ret (.bool true) W) := fun W e => by
    have := laws_eqItemS_c W (H2.out.ext e) (H5.out.ext e)
    rwa [show eqb t t = true from eqb_true.2 rfl] at this
  have Cn : ∀ W, Ext w W → Calls Tryz.prog 65 #[.slice A3 l.length c3, .slice A6 l.length c6] W (Ret (.bool true) W) := fun W e => by
    have := laws_eqSnapS_c W (H3.out.ext e) (H6.out.ext e)
    rwa [show eqb l l = true from eqb_true.2 rfl] at this
  clear hbk hbl
  go_enter Tryz.func18, Tryz.ntmps18
  go_wp2_with (first | (go_at_call 63; refine Ch.mono ?_; rintro e w1 ⟨rfl, he1⟩; have q1 := d1 w1 he1; have q2 := k1 w1 he1) | (go_at_call 64; refine (Ci _ (e0.trans he1)).mono ?_; rintro e w2 ⟨rfl, he2⟩; have q3 := d2 w2 (he1.trans he2); have q4 := k2 w2 (he1.trans he2)) | (go_at_call 65; refine (Cn _ ((e0.trans he1).trans he2)).mono ?_; rintro e w3 ⟨rfl, he3⟩))
  go_ret
  exact ⟨rfl, ((e0.trans he1).trans he2).trans he3⟩
/-- a copy of a disk: its blocks lie ahead of m, its items ahead of m2, its snapshots behind -/
def DiskU (B : Nat) (w : World) (r : Value) (s : List Hd) (t : List It) (l : List Sn) : Prop :=
  ∃ u1 u2 u3 lh li lq m m2, r = .agg #[u1, u2, u3] ∧ lh.map Prod.fst = s ∧ HdsU B w u1 lh ∧ Sep lh ∧ (∀ b, FootHd u1 lh b → b < m) ∧ li.map Prod.fst = t ∧ ItsU m w u2 li ∧ Sep li ∧ (∀ b, FootIt u2 li b → b < m2) ∧
    lq.map Prod.fst = l ∧ SnsU m2 w u3 lq ∧ B ≤ m ∧ m ≤ m2
theorem DiskU.plain {B : Nat} {w : World} {r : Value} {s : List Hd} {t : List It} {l : List Sn} (h : DiskU B w r s t l) : ∃ u1 u2 u3, r = .agg #[u1, u2, u3] ∧ Hds 0 w u1 s ∧ Its 0 w u2 t ∧ Sns 0 w u3 l := by
  obtain ⟨u1, u2, u3, lh, li, lq, m, m2, a1, a2, a3, -, -, a6, a7, -, -, a10, a11, -, -⟩ := h
  refine ⟨u1, u2, u3, a1, ?_, ?_, ?_⟩
  · have := a3.plain; rw [a2] at this; exact this.keep (Nat.zero_le _) (fun _ _ _ => rfl)
  · have := a7.its; rw [a6] at this; exact this.keep (Nat.zero_le _) (fun _ _ _ => rfl)
  · have := a11.plain; rw [a10] at this; exact this
set_option maxRecDepth 8000 in
set_option maxHeartbeats 4000000 in
theorem toDisk_c {vs vt vn : Value} {s : List Hd} {t : List It} {l : List Sn} (w : World) (hs : AHds w vs s) (ht : AIts w vt t) (hn : ASns w vn l) (hbs : bkHds s ≤ 1048576) (hbt : bkIts t ≤ 1048576) (hbn : bkSns l ≤ 1048576) :
    Calls Tryz.prog 15 #[.agg #[vs, vt, vn]] w (RetP (fun r w' => DiskU w.heap.size w' r s t l) w) := by
  have HS := Lib.hid hs; have HT := Lib.hid ht; have HN := Lib.hid hn
  obtain ⟨A, c, rfl, -⟩ := hs
  obtain ⟨A2, c2, rfl, -⟩ := ht
  obtain ⟨A3, c3, rfl, -⟩ := hn
  go_enter Tryz.func15, Tryz.ntmps15
  go_wp2_with fail
  refine (toHeldS_c _ (HS.out.ext (by (repeat' (first | exact Ext.refl _ | assumption | refine Ext.alloc ?_ _ | refine Ext.drew ?_ | refine Ext.drewN ?_ _)))) hbs).mono ?_
  rintro e w4 ⟨u1, rfl, ⟨lh, hlh, hU, hSp⟩, he⟩
  have hb2 := ((Blk.new (w.alloc (.cells #[.slice A s.length c, .slice A2 t.length c2, .slice A3 l.length c3] 26)) 35 #[.slice none 0 0, .slice none 0 0, .slice none 0 0]).alloc (.cells #[.slice none 0 0, .slice none 0 0, .slice none 0 0] 35)).ext he
  have hb3 := (Blk.new ((w.alloc (.cells #[.slice A s.length c, .slice A2 t.length c2, .slice A3 l.length c3] 26)).alloc (.cells #[.slice none 0 0, .slice none 0 0, .slice none 0 0] 35)) 35 #[.slice none 0 0, .slice none 0 0, .slice none 0 0]).ext he
  have hb4 := (((Blk.new w 26 #[.slice A s.length c, .slice A2 t.length c2, .slice A3 l.length c3]).alloc (.cells #[.slice none 0 0, .slice none 0 0, .slice none 0 0] 35)).alloc (.cells #[.slice none 0 0, .slice none 0 0, .slice none 0 0] 35)).ext he
  simp only [World.size_alloc] at hb2 hb3 hU
  have he4 : Ext w w4 := Ext.trans (by (repeat' (first | exact Ext.refl _ | assumption | refine Ext.alloc ?_ _ | refine Ext.drew ?_ | refine Ext.drewN ?_ _))) he
  have hfoot : Hid (∀ b, FootHd u1 lh b → b < w4.heap.size) := Lib.hid fun b hb => (hU.foot hb).2
  have HU := Lib.hid (hU.keep (B' := w.heap.size) (by omega) (fun _ _ _ => rfl))
  have HL := Lib.hid hlh; have HSp := Lib.hid hSp
  obtain ⟨A4, c4, rfl, -⟩ := hU
  generalize lh.length = n4 at *
  have c0 := hb3.cell 0; have c1 := hb3.cell 1; have c2' := hb3.cell 2; have f0 := hb3.frozen 0
  have k1 := hb4.cell 1
  simp at c0 c1 c2' k1
  have K1 : KeepsT 35 w4 _ := KeepsT.set (i := 0) hb3 (.slice A4 n4 c4) rfl
  have E4 := he4.setCell (p := ⟨w.heap.size + 1 + 1, 0, none⟩) (by simp; omega) (.slice A4 n4 c4)
  have B3 := hb3.set_ 0 (.slice A4 n4 c4)
  have B2 := hb2.far (p := ⟨w.heap.size + 1 + 1, 0, none⟩) (by simp) (.slice A4 n4 c4)
  have B4 := hb4.far (p := ⟨w.heap.size + 1 + 1, 0, none⟩) (by simp; omega) (.slice A4 n4 c4)
  have HU5 := Lib.hid (HU.out.keepT K1 (by decide) (by decide))
  have Ci := toItemS_c _ (HT.out.ext E4) hbt
  have HE4 := Lib.hid E4; have HB3 := Lib.hid B3; have HB2 := Lib.hid B2; have HB4 := Lib.hid B4
  clear hb2 hb3 hb4 he he4 hlh hSp K1 E4 B3 B2 B4 HU
  go_wp2_with fail
  refine Ci.mono ?_
  rintro e w6 ⟨u2, rfl, ⟨li, hli, hI, hSpi⟩, he6⟩
  simp only [World.size_setCell] at hI
  have hfooti : Hid (∀ b, FootIt u2 li b → b < w6.heap.size) := Lib.hid fun b hb => (hI.foot hb).2
  have hle46 : Hid (w4.heap.size ≤ w6.heap.size) := Lib.hid (by have := he6.size; simpa using this)
  have b3 := HB3.out.ext he6; have b2 := HB2.out.ext he6; have b4 := HB4.out.ext he6
  have hU6 := HU5.out.ext he6
  have E6 := HE4.out.trans he6
  have HI := Lib.hid hI; have HLi := Lib.hid hli; have HSpi := Lib.hid hSpi
  have hle : w.heap.size ≤ w4.heap.size := by have := HE4.out.size; simpa using this
  obtain ⟨A5, c5, rfl, -⟩ := hI
  generalize li.length = n5 at *
  clear c0 c1 c2' f0 k1 Ci hli hSpi he6
  have c0 := b3.cell 0; have c1 := b3.cell 1; have c2' := b3.cell 2; have f1 := b3.frozen 1
  have k2 := b4.cell 2
  simp at c0 c1 c2' k2
  have K1 : KeepsT 35 w6 _ := KeepsT.set (i := 1) b3 (.slice A5 n5 c5) rfl
  have E7 := E6.setCell (p := ⟨w.heap.size + 1 + 1, 1, none⟩) (by simp; omega) (.slice A5 n5 c5)
  have B3 := b3.set_ 1 (.slice A5 n5 c5)
  have B2 := b2.far (p := ⟨w.heap.size + 1 + 1, 1, none⟩) (by simp) (.slice A5 n5 c5)
  have HU7 := Lib.hid (hU6.keepT K1 (by decide) (by decide))
  have HI7 := Lib.hid (HI.out.keepT K1 (by decide) (by decide))
  have Cn := toSnapS_c _ (HN.out.ext E7) hbn
  have HE7 := Lib.hid E7; have HB3 := Lib.hid B3; have HB2 := Lib.hid B2
  clear b3 b2 b4 hU6 E6 K1 E7 B3 B2 HU5 HI HE4 HB4
  go_wp2_with fail
  refine Cn.mono ?_
  rintro e w8 ⟨u3, rfl, ⟨lq, hlq, hQ⟩, he8⟩
  simp only [World.size_setCell] at hQ
  have b3 := HB3.out.ext he8; have b2 := HB2.out.ext he8
  have hUw := HU7.out.ext he8; have hIw := HI7.out.ext he8
  have E8 := HE7.out.trans he8
  have HQ := Lib.hid hQ; have HLq := Lib.hid hlq
  obtain ⟨g6, c6, cs6, rfl, -⟩ := hQ
  generalize lq.length = n6 at *
  clear c0 c1 c2' f1 k2 Cn hlq he8
  have c0 := b3.cell 0; have c1 := b3.cell 1; have c2' := b3.cell 2; have f2 := b3.frozen 2
  have d0 := b2.cell 0; have d1 := b2.cell 1; have d2 := b2.cell 2; have g0 := b2.frozen 0; have g1 := b2.frozen 1; have g2 := b2.frozen 2
  simp at c0 c1 c2' d0 d1 d2
  have B31 := b3.set_ 2 (.slice (some ⟨g6, 0, none⟩) n6 c6)
  have B21 := b2.far (p := ⟨w.heap.size + 1 + 1, 2, none⟩) (by simp) (.slice (some ⟨g6, 0, none⟩) n6 c6)
  have B22 := B21.set_ 0 (.slice A4 n4 c4)
  have B23 := B22.set_ 1 (.slice A5 n5 c5)
  have B24 := B23.set_ 2 (.slice (some ⟨g6, 0, none⟩) n6 c6)
  have K : KeepsT 35 w8 _ := (KeepsT.set (i := 2) b3 (.slice (some ⟨g6, 0, none⟩) n6 c6) rfl).trans ((KeepsT.set (i := 0) B21 (.slice A4 n4 c4) rfl).trans ((KeepsT.set (i := 1) B22 (.slice A5 n5 c5) rfl).trans (KeepsT.set (i := 2) B23 (.slice (some ⟨g6, 0, none⟩) n6 c6) rfl)))
  have E3 := (((E8.setCell (p := ⟨w.heap.size + 1 + 1, 2, none⟩) (by simp; omega) (.slice (some ⟨g6, 0, none⟩) n6 c6)).setCell (p := ⟨w.heap.size + 1, 0, none⟩) (by simp) (.slice A4 n4 c4)).setCell (p := ⟨w.heap.size + 1, 1, none⟩) (by simp) (.slice A5 n5 c5)).setCell (p := ⟨w.heap.size + 1, 2, none⟩) (by simp) (.slice (some ⟨g6, 0, none⟩) n6 c6)
  have HB := Lib.hid B24; have HK := Lib.hid K; have HE := Lib.hid E3; have HUw := Lib.hid hUw; have HIw := Lib.hid hIw
  clear b3 b2 B31 B21 B22 B23 B24 K E3 E8 hUw hIw HE7 HB3 HB2 HU7 HI7
  go_wp2
  have HB := HB.out; have HK := HK.out; have HE := HE.out
  have z0 := HB.cell 0; have z1 := HB.cell 1; have z2 := HB.cell 2
  simp at z0 z1 z2
  exact bodyPost_ret (v := .agg #[.slice A4 n4 c4, .slice A5 n5 c5, .slice (some ⟨g6, 0, none⟩) n6 c6]) (by simp [results, Tryz.results15, go_sem, z0, z1, z2]) rfl
    ⟨_, rfl, ⟨_, _, _, lh, li, lq, w4.heap.size, w6.heap.size, rfl, HL.out, HUw.out.keepT HK (by decide) (by decide), HSp.out, hfoot.out, HLi.out, HIw.out.keepT HK (by decide) (by decide), HSpi.out, hfooti.out, HLq.out, HQ.out.keepT HK (by decide) (by decide) (by decide), hle, hle46.out⟩, HE⟩
end Go.Sf
