/- A drawn volume with one use more, or with one block less, is none. -/
import Derived.Test.YtpldhlpegpgmcaaDoorTVUses
namespace Go.Sf
open Go Go.RowKit Go.Proofs
/-- what the two operations of a new volume leave -/
def FV (B : Nat) (i : Nat) (us : Nat → Value) (W : World) : Prop :=
  (i = 0 → ∃ g, us 33 = .slice (some ⟨g, 0, none⟩) 0 0 ∧ B ≤ g ∧ Blk W g 31 #[]) ∧
  (i = 7 → ∃ g, us 6 = .pointer (some ⟨g, 0, none⟩) ∧ B ≤ g ∧ Blk W g 26 #[.slice none 0 0, .slice none 0 0])
theorem FV.keep {B i : Nat} {us us' : Nat → Value} {W W' : World} (h : FV B i us W) (e : Ext W W') (h33 : i = 0 → us' 33 = us 33) (h6 : i = 7 → us' 6 = us 6) : FV B i us' W' :=
  ⟨fun hi => by rw [h33 hi]; exact let ⟨g, h1, h2, h3⟩ := h.1 hi; ⟨g, h1, h2, h3.ext e⟩, fun hi => by rw [h6 hi]; exact let ⟨g, h1, h2, h3⟩ := h.2 hi; ⟨g, h1, h2, h3.ext e⟩⟩
theorem part_put {w3 W : World} {gb B : Nat} {v u a b : Value} {s : List Hd} (hb : Blk W gb 26 #[a, b]) (hO : OwnS w3.heap.size 31 3 (EHd B) W v s) (hE : Ext w3 W) (hg : w3.heap.size ≤ gb) :
    w3.heap.size ≤ gb ∧ Blk ((W.setCell ⟨gb, 0, none⟩ v).setCell ⟨gb, 1, none⟩ u) gb 26 #[v, u] ∧ OwnS w3.heap.size 31 3 (EHd B) ((W.setCell ⟨gb, 0, none⟩ v).setCell ⟨gb, 1, none⟩ u) v s ∧ Ext w3 ((W.setCell ⟨gb, 0, none⟩ v).setCell ⟨gb, 1, none⟩ u) := by
  obtain ⟨p1, p2, p3, -⟩ := put_two (a := v) (b := u) hb
  exact ⟨hg, p1, hO.keepT p2 (by decide) (fun _ _ _ gg => gg.keepT p2 (by decide)), p3 w3 hE hg⟩
/-- fewer of a slice -/
theorem SlIn.fewer {α : Type} {B : Nat} {t : TypeId} {sz : Nat} {E : World → Array Value → Nat → α → Prop} {w : World} {A : Option Addr} {c : Nat} {l : List α} (h : SlIn B t sz E w A c l) (k : Nat) : SlIn B t sz E w A c (l.take k) :=
  ⟨by rw [List.length_take]; have := h.1; omega, h.2.1, by rw [List.length_take]; have := h.2.2.1; omega, fun j x hx => h.2.2.2 j x (by
    rw [List.getElem?_take] at hx
    split at hx
    · exact hx
    · cases hx)⟩
set_option maxHeartbeats 1000000 in
theorem FnVolumePart_big {A : Option Addr} {n c : Nat} (w : World) (hn : 1048576 < n) (hm : n ≤ maxLen) : Calls Tryd.prog 3 #[.slice A n c] w (Ret (.bool true) w) := by
  unfold maxLen at hm
  have h : (1048576 : Int) < (n : Int) := by omega
  go_enter Tryd.func3, Tryd.ntmps3
  go_wp2
  go_ret
  exact ⟨rfl, Ext.refl w⟩
set_option maxRecDepth 8000 in
set_option maxHeartbeats 4000000 in
theorem FnVolumePart_c {v : Value} {xs : List Int} (w : World) (h : Bys w v xs) (hm : ML w) (hl : xs.length ≤ 1048576) : Calls Tryd.prog 3 #[v] w (Ret (.bool true) w) := by
  have H := Lib.hid h
  obtain ⟨A0, c0, rfl, -⟩ := h
  have HM := Lib.hid hm; clear hm
  have hn : ¬ (1048576 : Int) < (xs.length : Int) := by omega
  go_enter Tryd.func3, Tryd.ntmps3
  go_wp2_with fail
  refine (DrawVolumeValid_c _ H.out).mono ?_
  rintro e w1 ⟨us, ut, s, t, rfl, hS, hT, hs16, ht12, he1⟩
  obtain ⟨A1, c1, rfl, hSs⟩ := id hS
  obtain ⟨A2, c2, rfl, hTs⟩ := id hT
  have HM1 := Lib.hid (HM.out.ext he1)
  have HS0 := Lib.hid hS
  obtain ⟨m, hm⟩ : ∃ n, s.length = n := ⟨_, rfl⟩
  obtain ⟨n, hn⟩ : ∃ n, t.length = n := ⟨_, rfl⟩
  have Hm := Lib.hid hm; have Hn := Lib.hid hn
  have hS2 : Hds w.heap.size w1 (.slice A1 m c1) s := by rw [← hm]; exact hS
  have hT2 : Its w.heap.size w1 (.slice A2 n c2) t := by rw [← hn]; exact hT
  rw [hm] at hs16; rw [hn] at ht12
  have HS := Lib.hid hS2; have HT := Lib.hid hT2; have HTs := Lib.hid hTs; have HSs := Lib.hid hSs
  clear hS hT hT2 hS2 hTs hSs HS0
  rw [hm, hn]
  clear hm hn
  go_wp2_with fail
  have hbx := Blk.new w1 26 #[.slice A1 m c1, .slice A2 n c2]
  have e1b : Ext w1 (w1.alloc (.cells #[.slice A1 m c1, .slice A2 n c2] 26)) := (Ext.refl _).alloc _
  obtain ⟨g1, hg1⟩ : ∃ g, w1.heap.size = g := ⟨_, rfl⟩
  rw [hg1] at hbx
  generalize hb1 : w1.alloc (.cells #[.slice A1 m c1, .slice A2 n c2] 26) = b1 at *
  have X1_0 := Lib.hid fun W (e : Ext b1 W) => hbx.at_ (i := 0) (u := .slice A1 m c1) rfl W e
  have X1_1 := Lib.hid fun W (e : Ext b1 W) => hbx.at_ (i := 1) (u := .slice A2 n c2) rfl W e
  clear hbx hb1
  have E1 := he1.trans e1b
  have CV : Hid (∀ W, Ext w1 W → Calls Tryd.prog 6 #[.agg #[.slice A1 m c1, .slice A2 n c2]] W (Ret (.bool (volOk s t)) W)) := Lib.hid fun W e => VolumeValid_c W (HS.out.ext e) (HT.out.ext e) (HM1.out.ext e)
  have CS : Hid (∀ W, Ext w1 W → Calls Tryd.prog 7 #[.agg #[.slice A1 m c1, .slice A2 n c2]] W (Ret (.bool (volOk s t)) W)) := Lib.hid fun W e => specVolumeValid_c W (HS.out.ext e) (HT.out.ext e)
  refine (CV.out b1 e1b).mono ?_
  rintro e w2 ⟨rfl, he2⟩
  have E2 := E1.trans he2
  have q0 := X1_0.out w2 he2; have q1 := X1_1.out w2 he2
  go_wp2_with fail
  refine (CS.out w2 (e1b.trans he2)).mono ?_
  rintro e w3 ⟨rfl, he3⟩
  have E3 := E2.trans he3
  have e13 := (e1b.trans he2).trans he3
  have X0 := Lib.hid fun W (e : Ext w3 W) => X1_0.out W ((he2.trans he3).trans e); have X1 := Lib.hid fun W (e : Ext w3 W) => X1_1.out W ((he2.trans he3).trans e)
  clear q0 q1 X1_0 X1_1 CV CS
  obtain ⟨b9, hb9⟩ : ∃ b, volOk s t = b := ⟨_, rfl⟩
  rw [hb9]
  have HB := Lib.hid hb9
  clear hb9
  cases b9 with
  | false =>
    (try (have x0 := X0.out w3 (Ext.refl _)))
    go_wp2
    go_ret
    exact ⟨rfl, E3⟩
  | true =>
    by_cases h0 : m = 0
    · subst h0
      have x0 := X0.out w3 (Ext.refl _)
      go_wp2
      go_ret
      exact ⟨rfl, E3⟩
    · obtain ⟨m', hm'⟩ : ∃ m', m = m' + 1 := ⟨m - 1, by omega⟩
      have hm0 : 0 < m := by omega
      have hd0 : ((m : Int) == 0) = false := by rw [beq_eq_false_iff_ne]; omega
      obtain ⟨x, hx⟩ := get_of_lt (l := s) (k := 0) (by rw [Hm.out]; exact hm0)
      have Hx := Lib.hid hx
      have Hm' := Lib.hid hm'
      have Hxu := Lib.hid (vol_store HB.out x (List.mem_of_getElem? hx))
      clear hx hm'
      obtain ⟨bA, oA, uA, rfl, -⟩ := Hds.at_ HSs.out Hx.out
      have hmc : m ≤ c1 := by have := HSs.out.1; rw [Hm.out] at this; exact this
      have hmc' : (m' : Int) ≤ (c1 : Int) := by have := Hm'.out; omega
      have hsub : IntKind.i64.wrap ((m : Int) - 1) = (m' : Int) := by
        have := Hm'.out
        rw [IntWalk.i64_in _ (by omega)]; omega
      have x0' : ∀ W, Ext w3 W → W.cell? ⟨g1, 0, none⟩ = some (.slice (some ⟨bA, oA, none⟩) m c1) := X0.out
      have x1' : ∀ W, Ext w3 W → W.cell? ⟨g1, 1, none⟩ = some (.slice A2 n c2) := X1.out
      have x0 := X0.out w3 (Ext.refl _)
      go_wp2
      clear x0
      have hA0 : ∀ W : World, (W.alloc (.cells #[.slice none 0 0, .slice none 0 0] 26)).drew.cell? ⟨W.heap.size, 0, none⟩ = some (.slice none 0 0) := fun W => by simp
      have hA1 : ∀ W : World, (W.alloc (.cells #[.slice none 0 0, .slice none 0 0] 26)).drew.cell? ⟨W.heap.size, 1, none⟩ = some (.slice none 0 0) := fun W => by simp
      have hF0 : ∀ W : World, (W.alloc (.cells #[.slice none 0 0, .slice none 0 0] 26)).drew.frozen? ⟨W.heap.size, 0, none⟩ = false := fun W => ((Blk.new W 26 #[.slice none 0 0, .slice none 0 0]).ext ((Ext.refl _).drew)).frozen 0
      have hF1 : ∀ W : World, (W.alloc (.cells #[.slice none 0 0, .slice none 0 0] 26)).drew.frozen? ⟨W.heap.size, 1, none⟩ = false := fun W => ((Blk.new W 26 #[.slice none 0 0, .slice none 0 0]).ext ((Ext.refl _).drew)).frozen 1
      go_region_held3 (fun W => Ext w3 W) (first | assumption | (repeat' (first | exact Ext.refl _ | assumption | refine Ext.alloc ?_ _ | refine Ext.drew ?_ | refine Ext.drewN ?_ _ | refine Ext.setCell ?_ (by first | exact Nat.le_refl _ | exact Nat.le_succ _ | exact Ext.size (by assumption)) _))) (first
        | (refine op_of_list ?_; (refine wp_apS (w0 := w3) (by rfl) _ _ (by rfl) el_Hd (EHd_ok _) ?_ _ (.slice (some ⟨bA, oA, none⟩) m c1) [] s (by rfl) ?_ (by rfl) (HS.out.ext (e13.trans ?_)) ?_ (fun v7 w7 hO7 hE7 hk7 => ?_); (· (repeat' (first | exact Ext.refl _ | assumption | refine Ext.alloc ?_ _ | refine Ext.drew ?_ | refine Ext.drewN ?_ _))); (· first | exact (OwnS.lit0 _ _ _ w3 (Nat.le_refl _)).ext (EHd_ok _) (by (repeat' (first | exact Ext.refl _ | assumption | refine Ext.alloc ?_ _ | refine Ext.drew ?_ | refine Ext.drewN ?_ _))) | (have hq9 := (OwnS.lit0 31 3 (EHd w.heap.size) (w3.alloc (.cells #[.slice none 0 0, .slice none 0 0] 26)) (B := w3.heap.size) (by simp)).ext (EHd_ok _) (Ext.refl _); refine OwnS.ext (v := .slice (some ⟨w3.heap.size + 1, 0, none⟩) 0 0) ?_ (EHd_ok _) (w := (w3.alloc (.cells #[.slice none 0 0, .slice none 0 0] 26)).alloc (.cells #[] 31)) (by (repeat' (first | exact Ext.refl _ | assumption | refine Ext.alloc ?_ _ | refine Ext.drew ?_ | refine Ext.drewN ?_ _))); simpa using hq9)); (· (repeat' (first | exact Ext.refl _ | assumption | refine Ext.alloc ?_ _ | refine Ext.drew ?_ | refine Ext.drewN ?_ _))); (· rw [List.length_nil, Hm.out]; unfold lim; omega)); (try rw [List.nil_append] at hO7); obtain ⟨g7, c7, rfl, hg7', -, -⟩ := hO7.formP (by rw [Hm.out]; exact hm0); rw [Hm.out] at hO7 ⊢; have HO7 := Lib.hid hO7; clear hO7; (first | (have hkx : KeepsT 31 ((w3.alloc (.cells #[] 31)).alloc (.cells #[.slice none 0 0, .slice none 0 0] 26)).drew w7 := hk7; have kb : Blk w7 (w3.heap.size + 1) 26 #[.slice none 0 0, .slice none 0 0] := hkx _ _ _ (by decide) (by simpa using (Blk.new (w3.alloc (.cells #[] 31)) 26 #[.slice none 0 0, .slice none 0 0]).ext ((Ext.refl _).drew)); have kb0 := kb.cell 0; have kb1 := kb.cell 1; have kf0 := kb.frozen 0; have kf1 := kb.frozen 1; simp at kb0 kb1) | (have hkx : KeepsT 31 ((w3.alloc (.cells #[.slice none 0 0, .slice none 0 0] 26)).alloc (.cells #[] 31)).drew w7 := hk7; have kb : Blk w7 w3.heap.size 26 #[.slice none 0 0, .slice none 0 0] := hkx _ _ _ (by decide) ((Blk.new w3 26 #[.slice none 0 0, .slice none 0 0]).ext (((Ext.refl _).alloc _).drew)); have kb0 := kb.cell 0; have kb1 := kb.cell 1; have kf0 := kb.frozen 0; have kf1 := kb.frozen 1; simp at kb0 kb1) | skip); unfold Tight; refine wpList_nil ?_; dsimp only [Exit.then]))
      all_goals first
        | (have hP := part_put (u := .slice A2 n c2) kb HO7.out hE7 (by first | exact Nat.le_refl _ | exact Nat.le_succ _); clear kb kb0 kb1 kf0 kf1 hkx)
        | (have hP : w3.heap.size ≤ w7.heap.size ∧ Blk (w7.alloc (.cells #[(.slice (some ⟨g7, 0, none⟩) m c7), .slice A2 n c2] 26)) w7.heap.size 26 #[(.slice (some ⟨g7, 0, none⟩) m c7), .slice A2 n c2] ∧ OwnS w3.heap.size 31 3 (EHd w.heap.size) (w7.alloc (.cells #[(.slice (some ⟨g7, 0, none⟩) m c7), .slice A2 n c2] 26)) (.slice (some ⟨g7, 0, none⟩) m c7) s ∧ Ext w3 (w7.alloc (.cells #[(.slice (some ⟨g7, 0, none⟩) m c7), .slice A2 n c2] 26)) := ⟨hE7.size, Blk.new _ _ _, HO7.out.ext (EHd_ok _) ((Ext.refl _).alloc _), hE7.alloc _⟩)
      all_goals obtain ⟨hgb, hBk, hO8, hE8⟩ := hP
      all_goals clear hgb HO7 hk7 hE7 hg7'
      all_goals first
        | (have hBk9 : Blk ((w7.setCell ⟨w3.heap.size + 1, 0, none⟩ (.slice (some ⟨g7, 0, none⟩) m c7)).setCell ⟨w3.heap.size + 1, 1, none⟩ (.slice A2 n c2)) (w3.heap.size + 1) 26 #[(.slice (some ⟨g7, 0, none⟩) m c7), .slice A2 n c2] := (by with_reducible exact hBk); clear hBk; have hBk := hBk9; clear hBk9; generalize ((w7.setCell ⟨w3.heap.size + 1, 0, none⟩ (.slice (some ⟨g7, 0, none⟩) m c7)).setCell ⟨w3.heap.size + 1, 1, none⟩ (.slice A2 n c2)) = W8 at hBk hO8 hE8 ⊢; generalize w3.heap.size + 1 = gb at hBk ⊢)
        | (have hBk9 : Blk (w7.alloc (.cells #[(.slice (some ⟨g7, 0, none⟩) m c7), .slice A2 n c2] 26)) w7.heap.size 26 #[(.slice (some ⟨g7, 0, none⟩) m c7), .slice A2 n c2] := (by with_reducible exact hBk); clear hBk; have hBk := hBk9; clear hBk9; generalize (w7.alloc (.cells #[(.slice (some ⟨g7, 0, none⟩) m c7), .slice A2 n c2] 26)) = W8 at hBk hO8 hE8 ⊢; generalize w7.heap.size = gb at hBk ⊢)
        | (have hBk9 : Blk ((w7.setCell ⟨w3.heap.size, 0, none⟩ (.slice (some ⟨g7, 0, none⟩) m c7)).setCell ⟨w3.heap.size, 1, none⟩ (.slice A2 n c2)) w3.heap.size 26 #[(.slice (some ⟨g7, 0, none⟩) m c7), .slice A2 n c2] := (by with_reducible exact hBk); clear hBk; have hBk := hBk9; clear hBk9; generalize ((w7.setCell ⟨w3.heap.size, 0, none⟩ (.slice (some ⟨g7, 0, none⟩) m c7)).setCell ⟨w3.heap.size, 1, none⟩ (.slice A2 n c2)) = W8 at hBk hO8 hE8 ⊢; generalize w3.heap.size = gb at hBk ⊢)
      all_goals (
        have HBk := Lib.hid hBk
        have hz0 : W8.cell? ⟨gb, 0, none⟩ = some (.slice (some ⟨g7, 0, none⟩) m c7) := by rw [hBk.cell 0]; rfl
        have hz0' : ∀ W, Ext W8.drew W → W.cell? ⟨gb, 0, none⟩ = some (.slice (some ⟨g7, 0, none⟩) m c7) := fun W e => e.cell ((Ext.refl W8).drew.cell hz0)
        obtain ⟨g9, c9, hv9, hnc, hg9, hcx, hfr, hq⟩ := hO8.setUses Hx.out
        simp only [Value.slice.injEq, Option.some.injEq, Addr.mk.injEq] at hv9
        obtain ⟨⟨rfl, -, -⟩, -, rfl⟩ := hv9
        simp only [Nat.zero_mul, Nat.zero_add] at hcx hfr hq
        obtain ⟨-, csx, hbx⟩ := hO8.block (g := g7) rfl
        have hux := Hxu.out
        have hwu : IntKind.i64.wrap (x.uses + 1) = x.uses + 1 := IntWalk.i64_in _ (by omega)
        have hkS := KeepsT.set (i := 2) hbx (.int .i64 (x.uses + 1)) rfl
        have HO10 := Lib.hid ((hq (x.uses + 1) (by unfold inI; omega)).ext (EHd_ok _) (Ext.refl _).drew)
        have HB10 := Lib.hid ((hkS _ _ _ (by decide) hBk).ext (Ext.refl _).drew)
        have HE10 := Lib.hid (hE8.setCell (p := ⟨g7, 2, none⟩) hg9 (.int .i64 (x.uses + 1))).drew
        have hmi : (0 : Int) < (m : Int) := by omega
        have hcx' : ∀ W, Ext W8.drew W → W.cell? ⟨g7, 2, none⟩ = some (.int .i64 x.uses) := fun W e => e.cell ((Ext.refl W8).drew.cell hcx)
        clear hBk hO8 hq hkS hbx hnc hz0
        go_wp2
        refine wp_region_hold (fun W => Ext W8.drew W) 8 [(0, true), (1, true), (2, true), (3, true), (4, true), (5, true), (6, true), (7, true)] (by kernel_rfl) (by kernel_rfl) ?_ ?_
        · exact Ext.refl _
        (repeat (first | (apply hw_read (by rfl) (by rfl); (· (intro W hW; (try dsimp only at hW); go_simp; (first | done | rfl | (rw [if_pos] <;> first | omega | rfl)))); (try simp only [Act.put, List.setIfInBounds_toArray, List.set_cons_zero, List.set_cons_succ])) | (refine hw_skip (by rfl) (by rfl) ?_; (try simp only [Act.put, List.setIfInBounds_toArray, List.set_cons_zero, List.set_cons_succ]))))
        (refine hw_nil ?_; (try simp only [List.drop_succ_cons, List.drop_zero]))
        go_wp2
        (try refine NoPanic.normal ?_)
        (try dsimp only [Exit.then])
        generalize (W8.setCell ⟨g7, 2, none⟩ (.int .i64 (x.uses + 1))).drew = W9 at *
        have x00 : ∀ W, Ext W9 W → W.cell? ⟨g1, 0, none⟩ = some (.slice (some ⟨bA, oA, none⟩) m c1) := fun W e => X0.out W (HE10.out.trans e)
        have x11 : ∀ W, Ext W9 W → W.cell? ⟨g1, 1, none⟩ = some (.slice A2 n c2) := fun W e => X1.out W (HE10.out.trans e)
        clear hz0' hcx' hcx hfr x0' x1' hA0 hA1 hF0 hF1
        have hm00 : (0 : Int) ≤ (m' : Int) := by omega
        go_wp2
        refine wp_region_hold (fun W => Ext W9 W) 11 [(0, true), (1, true), (2, true), (3, true), (4, true), (5, true), (6, true), (7, true), (8, true), (9, true), (10, false)] (by kernel_rfl) (by kernel_rfl) ?_ ?_
        · exact (Ext.refl W9).drew
        (repeat (first | (apply hw_read (by rfl) (by rfl); (· (intro W hW; (try dsimp only at hW); go_simp; (first | done | rfl | (rw [if_pos] <;> first | omega | rfl)))); (try simp only [Act.put, List.setIfInBounds_toArray, List.set_cons_zero, List.set_cons_succ])) | (refine hw_skip (by rfl) (by rfl) ?_; (try simp only [Act.put, List.setIfInBounds_toArray, List.set_cons_zero, List.set_cons_succ]))))
        refine hw_step (by rfl) ?_
        go_wp2
        (try refine ⟨by (repeat' (first | exact Ext.refl _ | assumption | refine Ext.alloc ?_ _ | refine Ext.drew ?_)), ?_⟩)
        (try (repeat (first | (apply hw_read (by rfl) (by rfl); (· (intro W hW; (try dsimp only at hW); go_simp; (first | done | rfl | (rw [if_pos] <;> first | omega | rfl)))); (try simp only [Act.put, List.setIfInBounds_toArray, List.set_cons_zero, List.set_cons_succ])) | (refine hw_skip (by rfl) (by rfl) ?_; (try simp only [Act.put, List.setIfInBounds_toArray, List.set_cons_zero, List.set_cons_succ])))))
        (refine hw_nil ?_; (try simp only [List.drop_succ_cons, List.drop_zero]))
        go_wp2
        (try refine NoPanic.normal ?_)
        (try dsimp only [Exit.then])
        have hBl := (Blk.new W9 26 #[.slice (some ⟨bA, oA, none⟩) m' c1, .slice A2 n c2]).ext ((Ext.refl _).drew)
        have hEl : Ext W9 (W9.alloc (.cells #[.slice (some ⟨bA, oA, none⟩) m' c1, .slice A2 n c2] 26)).drew := ((Ext.refl W9).alloc _).drew
        generalize (W9.alloc (.cells #[.slice (some ⟨bA, oA, none⟩) m' c1, .slice A2 n c2] 26)).drew = Wl at *
        generalize W9.heap.size = gl at *
        have hBm := HB10.out.ext hEl
        have Em := HE10.out.trans hEl
        have HS2 := (HO10.out.ext (EHd_ok _) hEl).sl (EHd_ok _) E3.size (by rw [List.length_set, Hm.out]; unfold lim; omega)
        have C1 := VolumeValid_c Wl HS2 (HT.out.ext (e13.trans Em)) (HM1.out.ext (e13.trans Em))
        rw [vol_more HB.out Hx.out] at C1
        have hl2 : (s.take m').length = m' := by rw [List.length_take, Hm.out, Hm'.out]; omega
        have HSl : Hds w.heap.size w1 (.slice (some ⟨bA, oA, none⟩) m' c1) (s.take m') := ⟨_, _, by rw [hl2], HSs.out.fewer m'⟩
        have hvl : volOk (s.take m') t = false := by
          have := vol_less HB.out (by rw [Hm.out]; exact hm0)
          rwa [show s.length - 1 = m' by rw [Hm.out, Hm'.out]; omega] at this
        have C2 : ∀ W, Ext Wl W → Calls Tryd.prog 6 #[.agg #[.slice (some ⟨bA, oA, none⟩) m' c1, .slice A2 n c2]] W (Ret (.bool false) W) := fun W e => by
          have := VolumeValid_c W (HSl.ext ((e13.trans Em).trans e)) (HT.out.ext ((e13.trans Em).trans e)) (HM1.out.ext ((e13.trans Em).trans e))
          rwa [hvl] at this
        have g60 := fun W (e : Ext Wl W) => hBm.at_ (i := 0) (u := .slice (some ⟨g7, 0, none⟩) m c7) rfl W e
        have g61 := fun W (e : Ext Wl W) => hBm.at_ (i := 1) (u := .slice A2 n c2) rfl W e
        have g70 := fun W (e : Ext Wl W) => hBl.at_ (i := 0) (u := .slice (some ⟨bA, oA, none⟩) m' c1) rfl W e
        have g71 := fun W (e : Ext Wl W) => hBl.at_ (i := 1) (u := .slice A2 n c2) rfl W e
        have r60 := g60 Wl (Ext.refl _); have r61 := g61 Wl (Ext.refl _)
        clear hBl hBm HS2 HSl hvl hl2 x00 x11
        go_wp2_with fail
        refine C1.mono ?_
        rintro e Wm ⟨rfl, hem⟩
        have r70 := g70 Wm hem; have r71 := g71 Wm hem
        go_wp2_with fail
        refine (C2 Wm hem).mono ?_
        rintro e Wn ⟨rfl, hen⟩
        go_wp2
        go_ret
        exact ⟨rfl, ((E3.trans Em).trans hem).trans hen⟩)
end Go.Sf
