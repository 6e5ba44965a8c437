/- A tree is drawn. -/
import Derived.Test.YtfpkllihfcgmaaaDoorT23
import Derived.Test.YtfpkllihfcgmaaaDoorT6
import Derived.Test.YtfpkllihfcgmaaaDoorW12
import Derived.Test.YtfpkllihfcgmaaaDoorW13
namespace Go.Sf
open Go Go.RowKit Go.Proofs
/-- what a drawing of a tree leaves: a list, and the reader a little further -/
def DrewT (rb : Nat) (w : World) (q : Int) (e : Ending) (w' : World) : Prop :=
  ∃ v l q', e = .returned v ∧ OwnS w.heap.size 35 3 (EIt w.heap.size) w' v l ∧ l.length ≤ 9 ∧ Rd rb w' q' ∧ q ≤ q' ∧ q' ≤ q + 100 ∧ ExtR rb w w'
def TreeRel (rb : Nat) (w : World) (pcs : Array Value) (q : Int) (v i : Value) (wr : World) : Prop :=
  ∃ (k : Nat) (l : List It) (q' : Int), k ≤ 8 ∧ i = .int .i64 k ∧ OwnS w.heap.size 35 3 (EIt w.heap.size) wr v l ∧ l.length ≤ k ∧ Rd rb wr q' ∧ q ≤ q' ∧ q' ≤ q + 6 * k ∧ ExtR rb w wr ∧ Blk wr (w.heap.size + 1) 9 pcs
/-- an item that is being made -/
def XI (rb : Nat) (wr : World) (gx : Nat) (p : ByteArray) (b : Bool) (ids : List Int) (q : Int) (u : Value) (W : World) : Prop :=
  Blk W gx 35 #[.string p, .bool b, u] ∧ OwnS wr.heap.size 3 1 EInt W u ids ∧ Rd rb W q ∧ ExtR rb wr W
theorem XI.pick {rb gx : Nat} {wr W W' : World} {p : ByteArray} {b : Bool} {ids : List Int} {q : Int} {u : Value} (h : XI rb wr gx p b ids q u W) (hR : Rd rb W' (q + 1)) (e : ExtR rb W W') (hne : gx ≠ rb) : XI rb wr gx p b ids (q + 1) u W' :=
  ⟨e.blk h.1 hne, h.2.1.keepT (h.2.2.1.keepsT e) (by decide) (fun _ _ _ h => h), hR, h.2.2.2.trans e⟩
theorem XI.ext {rb gx : Nat} {wr W W' : World} {p : ByteArray} {b : Bool} {ids : List Int} {q : Int} {u : Value} (h : XI rb wr gx p b ids q u W) (e : Ext W W') : XI rb wr gx p b ids q u W' :=
  ⟨h.1.ext e, h.2.1.ext eint_ok e, h.2.2.1.ext e, h.2.2.2.extend e⟩
theorem out_keep {rb : Nat} {w wr W : World} {v : Value} {l : List It} {q : Int} (hO : OwnS w.heap.size 35 3 (EIt w.heap.size) wr v l) (hR : Rd rb wr q) (e : ExtR rb wr W) : OwnS w.heap.size 35 3 (EIt w.heap.size) W v l :=
  hO.keepT (hR.keepsT e) (by decide) (fun _ _ _ h => h.keepT (hR.keepsT e) (by decide))
theorem XI.store {rb gx : Nat} {wr W : World} {p : ByteArray} {b : Bool} {ids : List Int} {q : Int} {u u' : Value} (h1 : Blk W gx 35 #[.string p, .bool b, u]) (h2 : OwnS wr.heap.size 3 1 EInt W u' ids) (h3 : Rd rb W q) (h4 : ExtR rb wr W) (hg : wr.heap.size ≤ gx) (hrg : rb ≤ gx) :
    XI rb wr gx p b ids q u' (W.setCell ⟨gx, 2, none⟩ u') := by
  have k := KeepsT.set (i := 2) h1 u' rfl
  exact ⟨by simpa using h1.set_ 2 u', h2.keepT k (by decide) (fun _ _ _ h => h), h3.keepT k (by decide) (low_set _ _ _ hrg), h4.setNew hg _⟩
/-- what the three operations of a new item leave -/
def FT (B : Nat) (p : ByteArray) (i : Nat) (us : Nat → Value) (W : World) : Prop :=
  (i = 5 → ∃ b : Bool, us 23 = .bool b) ∧ (i = 7 → ∃ g, us 24 = .slice (some ⟨g, 0, none⟩) 0 0 ∧ B ≤ g ∧ Blk W g 3 #[]) ∧
  (i = 9 → ∃ g, us 6 = .pointer (some ⟨g, 0, none⟩) ∧ B ≤ g ∧ Blk W g 35 #[.string ⟨#[]⟩, .bool false, .slice none 0 0]) ∧
  (i = 8 → ∃ (b : Bool) (g : Nat), us 25 = .agg #[.string p, .bool b, .slice (some ⟨g, 0, none⟩) 0 0] ∧ B ≤ g ∧ Blk W g 3 #[])
theorem FT.keep {B i : Nat} {p : ByteArray} {us us' : Nat → Value} {W W' : World} (h : FT B p i us W) (hk : KeepsT 79 W W') (h23 : i = 5 → us' 23 = us 23) (h24 : i = 7 → us' 24 = us 24) (h6 : i = 9 → us' 6 = us 6) (h25 : i = 8 → us' 25 = us 25) : FT B p i us' W' :=
  ⟨fun hi => by rw [h23 hi]; exact h.1 hi, fun hi => by rw [h24 hi]; exact let ⟨g, h1, h2, h3⟩ := h.2.1 hi; ⟨g, h1, h2, hk _ _ _ (by decide) h3⟩, fun hi => by rw [h6 hi]; exact let ⟨g, h1, h2, h3⟩ := h.2.2.1 hi; ⟨g, h1, h2, hk _ _ _ (by decide) h3⟩,
   fun hi => by rw [h25 hi]; exact let ⟨b, g, h1, h2, h3⟩ := h.2.2.2 hi; ⟨b, g, h1, h2, hk _ _ _ (by decide) h3⟩⟩
def JT (rb : Nat) (wr : World) (q : Int) (R : List Nat) (W : World) : Prop := ExtR rb wr W ∧ Rd rb W (if 5 ∈ R then q else q + 1)
set_option maxRecDepth 4000 in
set_option maxHeartbeats 4000000 in
theorem l91Tree_c {rb : Nat} {w : World} {q : Int} (h : Rd rb w q) (hq : q ≤ 100000000000) (hrb : rb < w.heap.size) : Calls Tryd.prog 42 #[.pointer (some ⟨rb, 0, none⟩)] w (DrewT rb w q) := by
  have H := Lib.hid h
  clear h
  go_enter Tryd.func42, Tryd.ntmps42
  go_wp2
  have hfit : ∃ pcs : Array Value, pcs = #[.string ⟨#[97]⟩, .string ⟨#[97, 47, 120]⟩, .string ⟨#[97, 47, 120, 47, 112]⟩, .string ⟨#[97, 47, 120, 47, 113]⟩, .string ⟨#[97, 47, 121]⟩, .string ⟨#[98]⟩, .string ⟨#[98, 47, 120]⟩, .string ⟨#[99]⟩] := ⟨_, rfl⟩
  obtain ⟨pcs, hpcs⟩ := hfit
  rw [← hpcs]
  have hpc : ∀ k, k < 8 → ∃ p : ByteArray, pcs[k]? = some (.string p) ∧ p.size < lim := fun k hk => by
    subst hpcs
    rcases k with _ | _ | _ | _ | _ | _ | _ | _ | k
    all_goals first | exact ⟨_, rfl, by decide⟩ | omega
  have Hpc := Lib.hid hpc
  clear hpc hpcs
  have hpb : Blk ((w.alloc (.cells #[] 35)).alloc (.cells pcs 9)) (w.heap.size + 1) 9 pcs := by
    have := Blk.new (w.alloc (.cells #[] 35)) 9 pcs
    simpa using this
  have hO0 : OwnS w.heap.size 35 3 (EIt w.heap.size) ((w.alloc (.cells #[] 35)).alloc (.cells pcs 9)) (.slice (some ⟨w.heap.size, 0, none⟩) 0 0) [] := (OwnS.lit0 _ _ _ _ (Nat.le_refl _)).ext (EIt_ok _) ((Ext.refl _).alloc _)
  have he1 : Ext w ((w.alloc (.cells #[] 35)).alloc (.cells pcs 9)) := ((Ext.refl w).alloc _).alloc _
  have hs1 : ((w.alloc (.cells #[] 35)).alloc (.cells pcs 9)).heap.size = w.heap.size + 2 := by simp
  generalize (w.alloc (.cells #[] 35)).alloc (.cells pcs 9) = w1 at *
  have HO0 := Lib.hid hO0
  have Hpb := Lib.hid hpb
  have Hs1 := Lib.hid hs1
  clear hO0 hpb hs1
  go_loopw [3, 5] (fun v i wr => TreeRel rb w pcs q v i wr) (fun _ i _ => 8 - (intOf i).toNat)
  case atStart => exact ⟨0, [], q, by omega, rfl, HO0.out, by simp, H.out.ext he1, Int.le_refl _, by omega, he1.toR _, Hpb.out⟩
  case round =>
    obtain ⟨k, l, q', hk, rfl, hO, hl, hR, hq1, hq2, heR, hpbr⟩ := hrel
    by_cases hlt : k < 8
    · obtain ⟨p, hp, hps⟩ := Hpc.out k hlt
      have hkw := hR.lt
      have hprb : w.heap.size + 1 ≠ rb := by omega
      have HPB : Hid (∀ W, ExtR rb wr W → Blk W (w.heap.size + 1) 9 pcs) := Lib.hid fun W e => e.blk hpbr hprb
      have HO := Lib.hid hO; have HR := Lib.hid hR; have HeR := Lib.hid heR; have Hp := Lib.hid hp
      have cp : ∀ W, ExtR rb wr W → W.cell? ⟨w.heap.size + 1, k, none⟩ = some (.string p) := fun W e => by rw [(HPB.out W e).cell, Hp.out]
      have ki : (k : Int) < 8 := by omega
      have k0 : (0 : Int) ≤ (k : Int) := by omega
      clear hO hR hp hpbr
      go_wp2
      refine wp_region_par (fun W => ExtR rb wr W) (JT rb wr q') (FT wr.heap.size p) 10 [(5, [6]), (7, []), (9, [])] [(8, [5, 7])] [22, 23, 24, 6, 25] [(0, true), (1, true), (2, true), (3, true), (4, true)] [] (by kernel_rfl) (by kernel_rfl) ?_ ?_ ?_
      · exact fun R W h => h.1
      · exact (Ext.refl wr).drew.toR rb
      (repeat (first | (apply hp_read (by rfl) (by rfl); (· (intro W hW; (try dsimp only at hW); go_simp; (first | done | rfl | (rw [if_pos] <;> first | omega | rfl)))); (try simp only [Act.put, List.setIfInBounds_toArray, List.set_cons_zero, List.set_cons_succ])) | (refine hp_skip (by rfl) (by rfl) ?_; (try simp only [Act.put, List.setIfInBounds_toArray, List.set_cons_zero, List.set_cons_succ]))))
      apply hp_par
      · exact ⟨(Ext.refl wr).drew.toR rb, by simpa using HR.out.ext (Ext.refl wr).drew⟩
      · intro us W d R hd hR hJ
        have HJ := Lib.hid hJ
        simp only [List.mem_cons, List.mem_nil_iff, or_false] at hd
        rcases hd with rfl | rfl | rfl
        · have hR5 : Rd rb W q' := by have := hJ.2; rwa [if_pos hR] at this
          have HR5 := Lib.hid hR5
          clear hJ hR5
          refine hc_step (by rfl) ?_
          simp only [putAll, List.foldl]
          (try simp only [Act.put, List.setIfInBounds_toArray, List.set_cons_zero, List.set_cons_succ])
          go_wp2_with (go_at_call 43; refine (pick_c 3 HR5.out ?_ ?_).mono ?_; omega; omega; rintro e w4 ⟨v, rfl, hv0, hv3, -, hR4, he4⟩)
          refine ⟨HJ.out.1.trans he4, ?_⟩
          (repeat (apply hc_read (by rfl) (by rfl); (· (intro W hW; (try dsimp only at hW); go_simp; (first | done | rfl | (rw [if_pos] <;> first | omega | rfl)))); (try simp only [Act.put, List.setIfInBounds_toArray, List.set_cons_zero, List.set_cons_succ])))
          exact hc_nil ⟨⟨HJ.out.1.trans he4, by rw [if_neg (by simp)]; exact hR4⟩, upd (upd us 22 (.int .i64 v)) 23 (.bool (decide (0 < v))), rfl, ⟨fun _ => ⟨_, rfl⟩, fun h => by omega, fun h => by omega, fun h => by omega⟩, fun e he hne hF => hF.keep (HR5.out.keepsT he4) (fun h => absurd h hne) (fun _ => rfl) (fun _ => rfl) (fun _ => rfl)⟩
        · refine hc_step (by rfl) ?_
          simp only [putAll, List.foldl]
          (try simp only [Act.put, List.setIfInBounds_toArray, List.set_cons_zero, List.set_cons_succ])
          go_wp2
          have he4 : Ext W (W.alloc (.cells #[] 3)) := (Ext.refl W).alloc _
          refine ⟨HJ.out.1.trans (he4.toR rb), ?_⟩
          exact hc_nil ⟨⟨HJ.out.1.trans (he4.toR rb), by have := HJ.out.2.ext he4; simpa using this⟩, upd us 24 (.slice (some ⟨W.heap.size, 0, none⟩) 0 0), rfl, ⟨fun h => by omega, fun _ => ⟨_, rfl, HJ.out.1.size, Blk.new _ _ _⟩, fun h => by omega, fun h => by omega⟩, fun e he hne hF => hF.keep (he4.keepsT _) (fun _ => rfl) (fun h => absurd h hne) (fun _ => rfl) (fun _ => rfl)⟩
        · refine hc_step (by rfl) ?_
          simp only [putAll, List.foldl]
          (try simp only [Act.put, List.setIfInBounds_toArray, List.set_cons_zero, List.set_cons_succ])
          go_wp2
          have he4 : Ext W (W.alloc (.cells #[.string ⟨#[]⟩, .bool false, .slice none 0 0] 35)) := (Ext.refl W).alloc _
          refine ⟨HJ.out.1.trans (he4.toR rb), ?_⟩
          exact hc_nil ⟨⟨HJ.out.1.trans (he4.toR rb), by have := HJ.out.2.ext he4; simpa using this⟩, upd us 6 (.pointer (some ⟨W.heap.size, 0, none⟩)), rfl, ⟨fun h => by omega, fun h => by omega, fun _ => ⟨_, rfl, HJ.out.1.size, Blk.new _ _ _⟩, fun h => by omega⟩, fun e he hne hF => hF.keep (he4.keepsT _) (fun _ => rfl) (fun _ => rfl) (fun h => absurd h hne) (fun _ => rfl)⟩
      · intro us W g R hg hJ hF
        simp only [List.mem_cons, List.mem_nil_iff, or_false] at hg
        subst hg
        obtain ⟨bb, h23⟩ := (hF 5 (by simp)).1 rfl
        obtain ⟨g, h24, hg1, hg2⟩ := (hF 7 (by simp)).2.1 rfl
        refine ⟨_, rfl, .agg #[.string p, .bool bb, .slice (some ⟨g, 0, none⟩) 0 0], upd us 25 (.agg #[.string p, .bool bb, .slice (some ⟨g, 0, none⟩) 0 0]), ⟨rfl, ?_⟩, rfl, ⟨fun h => by omega, fun h => by omega, fun h => by omega, fun _ => ⟨bb, g, rfl, hg1, hg2⟩⟩, fun e he hne hF => hF.keep (KeepsT.refl _ _) (fun _ => rfl) (fun _ => rfl) (fun _ => rfl) (fun h => absurd h hne)⟩
        intro W' _
        simp only [putAll, List.foldl]
        (try simp only [Act.put, List.setIfInBounds_toArray, List.set_cons_zero, List.set_cons_succ])
        rw [h23, h24]
        go_simp
      · intro us W hJ hF
        obtain ⟨bb, gi, h25, hg1, hg2⟩ := (hF 8 (by decide)).2.2.2 rfl
        obtain ⟨gx, h6, hx1, hx2⟩ := (hF 9 (by decide)).2.2.1 rfl
        have hRW : Rd rb W (q' + 1) := by have := hJ.2; simpa using this
        simp only [putAll, List.foldl]
        (try simp only [Act.put, List.setIfInBounds_toArray, List.set_cons_zero, List.set_cons_succ])
        rw [h6, h25]
        have HJ := Lib.hid hJ; have HRW := Lib.hid hRW; have Hg2 := Lib.hid hg2; have Hx2 := Lib.hid hx2
        have fz0 := hx2.frozen 0; have fz1 := hx2.frozen 1; have fz2 := hx2.frozen 2
        have cz0 := hx2.cell 0; have cz1 := hx2.cell 1; have cz2 := hx2.cell 2
        simp at cz0 cz1 cz2
        clear hJ hRW hg2 hx2 hF h25 h6
        (refine hw_nil ?_; simp only [List.drop_succ_cons, List.drop_zero])
        go_wp2
        refine NoPanic.normal ?_
        (try dsimp only [Exit.then])
        have hX : XI rb wr gx p bb [] (q' + 1) (.slice (some ⟨gi, 0, none⟩) 0 0) (((W.setCell ⟨gx, 0, none⟩ (.string p)).setCell ⟨gx, 1, none⟩ (.bool bb)).setCell ⟨gx, 2, none⟩ (.slice (some ⟨gi, 0, none⟩) 0 0)) := by
          have hgi : gi ≠ gx := Blk.ne_ Hg2.out Hx2.out (by decide)
          have b1 := ((Hx2.out.set_ 0 (.string p)).set_ 1 (.bool bb)).set_ 2 (.slice (some ⟨gi, 0, none⟩) 0 0)
          have b2 := ((Hg2.out.far (p := ⟨gx, 0, none⟩) hgi (.string p)).far (p := ⟨gx, 1, none⟩) hgi (.bool bb)).far (p := ⟨gx, 2, none⟩) hgi (.slice (some ⟨gi, 0, none⟩) 0 0)
          have k1 := KeepsT.set (i := 0) Hx2.out (.string p) rfl
          have k2 := KeepsT.set (i := 1) (Hx2.out.set_ 0 (.string p)) (.bool bb) rfl
          have k3 := KeepsT.set (i := 2) ((Hx2.out.set_ 0 (.string p)).set_ 1 (.bool bb)) (.slice (some ⟨gi, 0, none⟩) 0 0) rfl
          refine ⟨by simpa using b1, ⟨[], ⟨by simp, .inr ⟨gi, 0, #[], rfl, hg1, b2, Nat.le_refl _, Nat.zero_le _, by simp, by simp⟩⟩, fun k x h => by simp at h⟩, HRW.out.keepT (k1.trans (k2.trans k3)) (by decide) (HJ.out.1.low (((HJ.out.1.setNew hx1 _).setNew hx1 _).setNew hx1 _) (by have := heR.size; omega)), ((HJ.out.1.setNew hx1 _).setNew hx1 _).setNew hx1 _⟩
        generalize (((W.setCell ⟨gx, 0, none⟩ (.string p)).setCell ⟨gx, 1, none⟩ (.bool bb)).setCell ⟨gx, 2, none⟩ (.slice (some ⟨gi, 0, none⟩) 0 0)) = W1 at *
        have HX := Lib.hid hX
        have x1 := hX.1.cell 1
        simp at x1
        have hgr : gx ≠ rb := by omega
        clear hX fz0 fz1 fz2 cz0 cz1 cz2 HRW Hg2 Hx2
        cases bb with
        | true =>
          go_wp2_with fail
          refine (pick_c 3 HX.out.2.2.1 (by omega) (by omega)).mono ?_
          rintro e W5 ⟨v5, rfl, hv50, hv53, -, hR5, he5⟩
          have HX5 := Lib.hid (HX.out.pick hR5 he5 hgr)
          have HO5 := Lib.hid (out_keep HO.out HR.out HX5.out.2.2.2)
          have HP5 := Lib.hid (HPB.out W5 HX5.out.2.2.2)
          have HE5 := Lib.hid (heR.trans HX5.out.2.2.2)
          clear hR5 he5
          by_cases hv : 0 < v5
          · have hvd : decide (0 < v5) = true := by simpa using hv
            have y0 := HX5.out.1.cell 0
            have HI5 : Hid (Its w.heap.size W5 u3 l) := Lib.hid (HO5.out.sl (EIt_ok _) (Nat.le_refl _) (by unfold lim; omega))
            simp at y0
            go_wp2_with (first | (go_at_call 51; refine (l5Home_c p _ HI5.out hps).mono ?_; rintro e W6 ⟨rfl, he6⟩; have HX6 := Lib.hid (HX5.out.ext he6); have HO6 := Lib.hid (HO5.out.ext (EIt_ok _) he6); have HP6 := Lib.hid (HP5.out.ext he6); have HE6 := Lib.hid (HE5.out.extend he6); have z0 := HX6.out.1.cell 0; have z1 := HX6.out.1.cell 1; have z2 := HX6.out.1.cell 2; simp at z0 z1 z2; clear he6 y0; have HUI : Hid (Ints w.heap.size W6 (.slice (some ⟨gi, 0, none⟩) 0 0) []) := Lib.hid ((HX6.out.2.1.mono heR.size).sl eint_ok (Nat.le_refl _) (by simp))) | (at_builtin; go_must (refine wp_ap1G (B := w.heap.size) (by rfl) _ _ (by rfl) el_It (EIt_ok _) HE6.out.size _ l [⟨p, true, []⟩] (by rfl) HO6.out 1 1 rfl #[.string p, .bool true, (.slice (some ⟨gi, 0, none⟩) 0 0)] _ (by rfl) (by first | rfl | simp) rfl (one3 rfl) (one_E ⟨rfl, hps, rfl, _, rfl, HUI.out⟩) ?_ ?_)))
            · simp; unfold lim; omega
            · intro v7 w7 hO7 hg7 hk7
              have HO7 := Lib.hid hO7
              have HE7 : Hid (ExtR rb w w7) := Lib.hid ((HO6.out.ext (EIt_ok _) ((Ext.refl _).alloc _)).grown_extR (HE6.out.extend ((Ext.refl _).alloc _)) hg7)
              have HR7 : Hid (Rd rb w7 (q' + 1 + 1)) := Lib.hid (HX6.out.2.2.1.keepT hk7 (by decide) (HE6.out.low HE7.out hrb))
              have HP7 := Lib.hid (hk7 _ _ _ (by decide) HP6.out)
              clear hO7 hg7 hk7 z0 z1 z2
              go_wp2
              go_roundw
              case rel => exact ⟨k + 1, l ++ [⟨p, true, []⟩], _, by omega, by go_num, HO7.out, by simp; omega, HR7.out, by omega, by omega, HE7.out, HP7.out⟩
              case measure => simp [intOf]; omega
            · go_roundw
              case rel => exact ⟨k + 1, l, _, by omega, by go_num, HO6.out, by omega, HX6.out.2.2.1, by omega, by omega, HE6.out, HP6.out⟩
              case measure => simp [intOf]; omega
          · have hvd : decide (0 < v5) = false := by simpa using hv
            go_wp2
            go_roundw
            case rel => exact ⟨k + 1, l, _, by omega, by go_num, HO5.out, by omega, HX5.out.2.2.1, by omega, by omega, HE5.out, HP5.out⟩
            case measure => simp [intOf]; omega
        | false =>
          obtain ⟨wo, rfl⟩ : ∃ wo : World, wo = wr := ⟨_, rfl⟩
          go_wp2_with fail
          refine (pick_c 3 HX.out.2.2.1 (by omega) (by omega)).mono ?_
          rintro e W2 ⟨vn, rfl, hn0, hn3, -, hR2, he2⟩
          have HX2 := Lib.hid (HX.out.pick hR2 he2 hgr)
          obtain ⟨nv, rfl⟩ := Int.eq_ofNat_of_zero_le hn0
          have hnv : nv ≤ 2 := by have := hn3 (by omega); omega
          clear hR2 he2 x1 hn0 hn3
          go_wp2
          go_loopw [8] (fun i wr => ∃ (j : Nat) (ids : List Int) (q2 : Int) (u : Value), j ≤ nv ∧ i = .int .i64 j ∧ XI rb wo gx p false ids q2 u wr ∧ ids.length = j ∧ q' + 2 ≤ q2 ∧ q2 ≤ q' + 2 + j) (fun i _ => nv - (intOf i).toNat)
          case atStart => exact ⟨0, [], q' + 1 + 1, _, by omega, rfl, HX2.out, rfl, by omega, by omega⟩
          case round =>
            obtain ⟨j, ids, q2, u, hj, rfl, hXn, hil, hqa, hqb⟩ := hrel
            obtain ⟨Au, cu, hAu⟩ := hXn.2.1.form
            rw [hil] at hAu
            subst hAu
            have HXn := Lib.hid hXn
            have Hil := Lib.hid hil
            clear hXn hil
            by_cases hjl : j < nv
            · have u0 := fun W (e : ExtR rb wr W) => (e.blk HXn.out.1 hgr).cell 2
              simp at u0
              go_wp2
              refine wp_region_hold (fun W => W.cell? ⟨gx, 2, none⟩ = some (.slice Au j cu)) 6 [(0, true), (1, true), (2, true), (3, false), (4, true), (5, false)] (by kernel_rfl) (by kernel_rfl) ?_ ?_
              · exact u0 _ ((Ext.refl wr).drew.toR rb)
              (repeat (first | (apply hw_read (by rfl) (by rfl); (· (intro W hW; (try dsimp only at hW); go_simp; (first | done | rfl | (rw [if_pos] <;> first | omega | rfl)))); (try simp only [Act.put, List.setIfInBounds_toArray, List.set_cons_zero, List.set_cons_succ])) | (refine hw_skip (by rfl) (by rfl) ?_; (try simp only [Act.put, List.setIfInBounds_toArray, List.set_cons_zero, List.set_cons_succ]))))
              refine hw_step (by rfl) ?_
              go_wp2_with (go_at_call 43; refine (pick_c 6 (HXn.out.2.2.1.ext (Ext.refl wr).drew) (by omega) (by omega)).mono ?_; rintro e W3 ⟨v2, rfl, hv20, hv26, -, hR3, he3⟩)
              have he3' := ((Ext.refl wr).drew.toR rb).trans he3
              have HX3 := Lib.hid (HXn.out.pick hR3 he3' hgr)
              refine ⟨u0 _ he3', ?_⟩
              have hv2 := hv26 (by omega)
              have hw1 : IntKind.i64.wrap (1 + v2) = 1 + v2 := IntWalk.i64_in _ (by omega)
              (repeat (first | (apply hw_read (by rfl) (by rfl); (· (intro W hW; (try dsimp only at hW); go_simp; (first | done | rfl | (rw [if_pos] <;> first | omega | rfl)))); (try simp only [Act.put, List.setIfInBounds_toArray, List.set_cons_zero, List.set_cons_succ])) | (refine hw_skip (by rfl) (by rfl) ?_; (try simp only [Act.put, List.setIfInBounds_toArray, List.set_cons_zero, List.set_cons_succ]))))
              refine hw_step (by rfl) ?_
              go_wp2
              refine ⟨by have := ((he3'.extend ((Ext.refl W3).alloc (.cells #[.int .i64 (1 + v2)] 3)))); exact u0 _ this, ?_⟩
              clear hR3 he3 u0 hw1
              (refine hw_nil ?_; simp only [List.drop_succ_cons, List.drop_zero])
              go_wp2_with (at_builtin; go_must (refine wp_ap1G (B := wo.heap.size) (by rfl) _ _ (by rfl) el_int eint_ok HX3.out.2.2.2.size _ ids [1 + v2] (by rfl) HX3.out.2.1 1 1 rfl #[.int .i64 (1 + v2)] _ (by rfl) (by first | rfl | simp) rfl (one_cells rfl) (one_E ⟨rfl, by unfold inI; omega⟩) ?_ ?_))
              · have := Hil.out; simp; unfold lim; omega
              · intro v7 w7 hO7 hg7 hk7
                obtain ⟨A7, c7, hA7⟩ := hO7.form
                have hlen7 : (ids ++ [1 + v2]).length = j + 1 := by simp [Hil.out]
                rw [hlen7] at hA7
                subst hA7
                have hb7 := hk7 _ _ _ (by decide) HX3.out.1
                have HX7 := Lib.hid (XI.store hb7 hO7 (HX3.out.2.2.1.keepT hk7 (by decide) (HX3.out.2.2.2.low ((HX3.out.2.1.ext eint_ok ((Ext.refl W3).alloc _)).grown_extR (HX3.out.2.2.2.extend ((Ext.refl W3).alloc _)) hg7) (by have := heR.size; omega))) ((HX3.out.2.1.ext eint_ok ((Ext.refl W3).alloc _)).grown_extR (HX3.out.2.2.2.extend ((Ext.refl W3).alloc _)) hg7) hx1 (by have := heR.size; omega))
                have cz := hb7.cell 2; have fz := hb7.frozen 2
                simp at cz
                have Hl7 := Lib.hid hlen7
                clear hO7 hg7 hk7 hb7 hlen7
                go_wp2
                refine NoPanic.normal ?_
                (try dsimp only [Exit.then])
                go_wp2
                go_roundw
                case rel => exact ⟨j + 1, ids ++ [1 + v2], _, _, by omega, by go_num, HX7.out, Hl7.out, by omega, by omega⟩
                case measure => simp [intOf]; omega
            · have hje : j = nv := by omega
              subst hje
              go_wp2_with fail
              refine (pick_c 3 HXn.out.2.2.1 (by omega) (by omega)).mono ?_
              rintro e W5 ⟨v5, rfl, hv50, hv53, -, hR5, he5⟩
              have HX5 := Lib.hid (HXn.out.pick hR5 he5 hgr)
              have HO5 := Lib.hid (out_keep HO.out HR.out HX5.out.2.2.2)
              have HP5 := Lib.hid (HPB.out W5 HX5.out.2.2.2)
              have HE5 := Lib.hid (heR.trans HX5.out.2.2.2)
              clear hR5 he5
              by_cases hv : 0 < v5
              · have hvd : decide (0 < v5) = true := by simpa using hv
                have y0 := HX5.out.1.cell 0
                have HI5 : Hid (Its w.heap.size W5 u3 l) := Lib.hid (HO5.out.sl (EIt_ok _) (Nat.le_refl _) (by unfold lim; omega))
                simp at y0
                go_wp2_with (first | (go_at_call 51; refine (l5Home_c p _ HI5.out hps).mono ?_; rintro e W6 ⟨rfl, he6⟩; have HX6 := Lib.hid (HX5.out.ext he6); have HO6 := Lib.hid (HO5.out.ext (EIt_ok _) he6); have HP6 := Lib.hid (HP5.out.ext he6); have HE6 := Lib.hid (HE5.out.extend he6); have z0 := HX6.out.1.cell 0; have z1 := HX6.out.1.cell 1; have z2 := HX6.out.1.cell 2; simp at z0 z1 z2; clear he6 y0; have HUI : Hid (Ints w.heap.size W6 (.slice Au j cu) ids) := Lib.hid ((HX6.out.2.1.mono heR.size).sl eint_ok (Nat.le_refl _) (by have := Hil.out; unfold lim; omega))) | (at_builtin; go_must (refine wp_ap1G (B := w.heap.size) (by rfl) _ _ (by rfl) el_It (EIt_ok _) HE6.out.size _ l [⟨p, false, ids⟩] (by rfl) HO6.out 1 1 rfl #[.string p, .bool false, .slice Au j cu] _ (by rfl) (by first | rfl | simp) rfl (one3 rfl) (one_E ⟨rfl, hps, rfl, _, rfl, HUI.out⟩) ?_ ?_)))
                · simp; unfold lim; omega
                · intro v7 w7 hO7 hg7 hk7
                  have HO7 := Lib.hid hO7
                  have HE7 : Hid (ExtR rb w w7) := Lib.hid ((HO6.out.ext (EIt_ok _) ((Ext.refl _).alloc _)).grown_extR (HE6.out.extend ((Ext.refl _).alloc _)) hg7)
                  have HR7 : Hid (Rd rb w7 (q2 + 1)) := Lib.hid (HX6.out.2.2.1.keepT hk7 (by decide) (HE6.out.low HE7.out hrb))
                  have HP7 := Lib.hid (hk7 _ _ _ (by decide) HP6.out)
                  clear hO7 hg7 hk7 z0 z1 z2
                  go_wp2
                  go_roundw
                  case rel => exact ⟨k + 1, l ++ [⟨p, false, ids⟩], _, by omega, by go_num, HO7.out, by simp; omega, HR7.out, by omega, by omega, HE7.out, HP7.out⟩
                  case measure => simp [intOf]; omega
                · go_roundw
                  case rel => exact ⟨k + 1, l, _, by omega, by go_num, HO6.out, by omega, HX6.out.2.2.1, by omega, by omega, HE6.out, HP6.out⟩
                  case measure => simp [intOf]; omega
              · have hvd : decide (0 < v5) = false := by simpa using hv
                go_wp2
                go_roundw
                case rel => exact ⟨k + 1, l, _, by omega, by go_num, HO5.out, by omega, HX5.out.2.2.1, by omega, by omega, HE5.out, HP5.out⟩
                case measure => simp [intOf]; omega
    · have hke : k = 8 := by omega
      subst hke
      have HO := Lib.hid hO; have HR := Lib.hid hR; have HeR := Lib.hid heR
      clear hO hR hpbr
      go_wp2_with fail
      refine (pick_c 30 HR.out (by omega) (by omega)).mono ?_
      rintro e W5 ⟨v5, rfl, hv50, hv53, -, hR5, he5⟩
      have HO5 := Lib.hid (out_keep HO.out HR.out he5)
      have HE5 := Lib.hid (heR.trans he5)
      have HR5 := Lib.hid hR5
      clear hR5 he5
      by_cases h0 : v5 = 0
      · subst h0
        go_wp2_with (at_builtin; go_must (refine wp_ap1G (B := w.heap.size) (by rfl) _ _ (by rfl) el_It (EIt_ok _) HE5.out.size _ l [⟨⟨#[122, 111, 111, 47, 97]⟩, false, []⟩] (by rfl) HO5.out 1 1 rfl #[.string ⟨#[122, 111, 111, 47, 97]⟩, .bool false, .slice none 0 0] _ (by rfl) (by first | rfl | simp) rfl (one3 rfl) (one_E ⟨rfl, by decide, rfl, _, rfl, SlOf.nil _ _ _ _ _⟩) ?_ ?_))
        · simp; unfold lim; omega
        · intro v7 w7 hO7 hg7 hk7
          have HO7 := Lib.hid hO7
          have HE7 : Hid (ExtR rb w w7) := Lib.hid ((HO5.out.ext (EIt_ok _) ((Ext.refl _).alloc _)).grown_extR (HE5.out.extend ((Ext.refl _).alloc _)) hg7)
          have HR7 : Hid (Rd rb w7 (q' + 1)) := Lib.hid (HR5.out.keepT hk7 (by decide) (HE5.out.low HE7.out hrb))
          clear hO7 hg7 hk7
          go_wp2
          go_ret
          exact ⟨_, _, _, rfl, HO7.out, by simp; omega, HR7.out, by omega, by omega, HE7.out⟩
      · have e0 : (v5 == 0) = false := by rw [beq_eq_false_iff_ne]; exact h0
        by_cases h1 : v5 = 1
        · subst h1
          have HOa := Lib.hid (HO5.out.ext (EIt_ok _) ((Ext.refl W5).alloc (.cells #[.int .i64 1] 3)))
          have HEa := Lib.hid (HE5.out.extend ((Ext.refl W5).alloc (.cells #[.int .i64 1] 3)))
          have HRa := Lib.hid (HR5.out.ext ((Ext.refl W5).alloc (.cells #[.int .i64 1] 3)))
          have HIa : Hid (Ints w.heap.size (W5.alloc (.cells #[.int .i64 1] 3)) (.slice (some ⟨W5.heap.size, 0, none⟩) 1 1) [1]) := Lib.hid ⟨_, 1, rfl, Nat.le_refl _, ⟨by unfold maxLen; omega, fun h => by cases h⟩, by unfold lim; simp, fun k x hk => by
            cases k with
            | zero => simp at hk; subst hk; exact ⟨W5.heap.size, 0, _, rfl, HE5.out.size, Blk.new _ _ _, rfl, by unfold inI; omega⟩
            | succ k => simp at hk⟩
          go_wp2_with (at_builtin; go_must (refine wp_ap1G (B := w.heap.size) (by rfl) _ _ (by rfl) el_It (EIt_ok _) HEa.out.size _ l [⟨⟨#[122]⟩, true, [1]⟩] (by rfl) HOa.out 1 1 rfl #[.string ⟨#[122]⟩, .bool true, .slice (some ⟨W5.heap.size, 0, none⟩) 1 1] _ (by rfl) (by first | rfl | simp) rfl (one3 rfl) (one_E ⟨rfl, by decide, rfl, _, rfl, HIa.out⟩) ?_ ?_))
          · simp; unfold lim; omega
          · intro v7 w7 hO7 hg7 hk7
            have HO7 := Lib.hid hO7
            have HE7 : Hid (ExtR rb w w7) := Lib.hid ((HOa.out.ext (EIt_ok _) ((Ext.refl _).alloc _)).grown_extR (HEa.out.extend ((Ext.refl _).alloc _)) hg7)
            have HR7 : Hid (Rd rb w7 (q' + 1)) := Lib.hid (HRa.out.keepT hk7 (by decide) (HEa.out.low HE7.out hrb))
            clear hO7 hg7 hk7
            go_wp2
            go_ret
            exact ⟨_, _, _, rfl, HO7.out, by simp; omega, HR7.out, by omega, by omega, HE7.out⟩
        · have e1 : (v5 == 1) = false := by rw [beq_eq_false_iff_ne]; exact h1
          go_wp2
          go_ret
          exact ⟨_, _, _, rfl, HO5.out, by omega, HR5.out, by omega, by omega, HE5.out⟩
end Go.Sf
