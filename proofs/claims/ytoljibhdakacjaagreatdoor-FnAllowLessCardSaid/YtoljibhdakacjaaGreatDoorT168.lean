/- Quotas are drawn, with a disk. -/
import Derived.Test.YtoljibhdakacjaaGreatDoorHD
import Derived.Test.YtoljibhdakacjaaGreatDoorHJ
namespace Go.Sf
open Go Go.RowKit Go.Proofs
/-- the most of a quota of a row of the call's own is written -/
theorem OwnS.setMost {base B : Nat} {w : World} {v : Value} {l : List Qt} (h : OwnS base 47 2 (EQt B) w v l) {k : Nat} {x : Qt} (hx : l[k]? = some x) :
    ∃ g c, v = .slice (some ⟨g, 0, none⟩) l.length c ∧ base ≤ g ∧ w.cell? ⟨g, k * 2 + 1, none⟩ = some (.int .i64 x.most) ∧ w.frozen? ⟨g, k * 2 + 1, none⟩ = false ∧ (∀ u, KeepsT 47 w (w.setCell ⟨g, k * 2 + 1, none⟩ u)) ∧
      ∀ y, inI y → OwnS base 47 2 (EQt B) (w.setCell ⟨g, k * 2 + 1, none⟩ (.int .i64 y)) v (l.set k { x with most := y }) := by
  obtain ⟨xs, ⟨h1, h2⟩, h3⟩ := h
  have hk := lt_of_get hx
  rcases h2 with ⟨rfl, hn⟩ | ⟨g, cap, cur, rfl, hg, hh, hnc, hcm, hcs, htk⟩
  · rw [hn] at hk; omega
  · have hb : Blk w g 47 cur := hh
    have hc0 : cur[k * 2 + 1]? = xs[k * 2 + 1]? := by rw [← htk, List.getElem?_take_of_lt (by omega), Array.getElem?_toList]
    have he := h3 k x hx
    refine ⟨g, cap, rfl, hg, ?_, hb.frozen _, fun u => KeepsT.set (i := k * 2 + 1) hb u rfl, fun y hy => ⟨xs.set (k * 2 + 1) (.int .i64 y), ⟨by simpa using h1, .inr ⟨g, cap, cur.setIfInBounds (k * 2 + 1) (.int .i64 y), ?_, hg, hb.set_ _ _, ?_, hcm, ?_, ?_⟩⟩, fun j z hz => ?_⟩⟩
    · rw [hb.cell, hc0]
      have := he.2.2.1
      rw [List.getElem?_toArray] at this
      exact this
    · rw [List.length_set]
    · rw [List.length_set]; exact hnc
    · simpa using hcs
    · rw [List.length_set, Array.toList_setIfInBounds, List.take_set, htk]
    · rw [List.getElem?_set] at hz
      split at hz
      · next e =>
        subst e
        cases hz
        obtain ⟨q0, q1, q2, q3⟩ := he
        rw [List.getElem?_toArray] at q0 q2
        refine ⟨?_, q1, ?_, hy⟩
        · rw [List.getElem?_toArray, List.getElem?_set_ne (by omega)]; exact q0
        · rw [List.getElem?_toArray, List.getElem?_set_self (by omega)]
      · next e =>
        obtain ⟨q0, q1, q2, q3⟩ := h3 j z hz
        rw [List.getElem?_toArray] at q0 q2
        refine ⟨?_, q1, ?_, q3⟩
        · rw [List.getElem?_toArray, List.getElem?_set_ne (by omega)]; exact q0
        · rw [List.getElem?_toArray, List.getElem?_set_ne (by omega)]; exact q2
theorem eqt_of {B : Nat} {w : World} {x : Qt} (h1 : x.dir.size < lim) (h2 : inI x.most) : EQt B w #[.string x.dir, .int .i64 x.most] 0 x := ⟨rfl, h1, rfl, h2⟩
/-- drawn quotas -/
def DrewQ (rb : Nat) (w : World) (q : Int) (e : Ending) (w' : World) : Prop := ∃ v l q', e = .returned v ∧ Qts w.heap.size w' v l ∧ l.length ≤ 5 ∧ Rd rb w' q' ∧ q ≤ q' ∧ q' ≤ q + 20 ∧ ExtR rb w w'
/-- a drawn disk and quotas -/
def DrewDQ (w : World) (e : Ending) (w' : World) : Prop := ∃ us ut un v l, e = .returned (.tuple #[.agg #[us, ut, un], v]) ∧ WDk w.heap.size us ut un w' ∧ Qts w.heap.size w' v l ∧ l.length ≤ 5 ∧ Ext w w'
/-- a drawn disk, quotas, a word and a number -/
def DrewDA (w : World) (e : Ending) (w' : World) : Prop := ∃ us ut un v l p n, e = .returned (.tuple #[.agg #[us, ut, un], v, .string p, .int .i64 n]) ∧ WDk w.heap.size us ut un w' ∧ Qts w.heap.size w' v l ∧ l.length ≤ 5 ∧ p.size < lim ∧ -34 ≤ n ∧ n ≤ 33 ∧ Ext w w'
def QRel (rb : Nat) (w : World) (pcs : Array Value) (q : Int) (v i : Value) (wr : World) : Prop :=
  ∃ (k : Nat) (l : List Qt) (q' : Int), k ≤ 5 ∧ i = .int .i64 k ∧ OwnS w.heap.size 47 2 (EQt w.heap.size) wr v l ∧ l.length ≤ k ∧ Rd rb wr q' ∧ q ≤ q' ∧ q' ≤ q + 2 * k ∧ ExtR rb w wr ∧ Blk wr (w.heap.size + 1) 9 pcs
theorem qt_keep {rb B : Nat} {w wr W : World} {v : Value} {l : List Qt} {q : Int} (hO : OwnS w.heap.size 47 2 (EQt B) wr v l) (hR : Rd rb wr q) (e : ExtR rb wr W) : OwnS w.heap.size 47 2 (EQt B) W v l :=
  hO.keepT (hR.keepsT e) (by decide) (fun _ _ _ h => h.keepT (hR.keepsT e))
set_option maxRecDepth 4000 in
set_option maxHeartbeats 4000000 in
theorem l92Quotas_c {rb : Nat} {w : World} {q : Int} (h : Rd rb w q) (hq : q ≤ 100000000000) : Calls Tryz.prog 45 #[.pointer (some ⟨rb, 0, none⟩)] w (DrewQ rb w q) := by
  have H := Lib.hid h
  have hrb := h.lt
  clear h
  go_enter Tryz.func45, Tryz.ntmps45
  go_wp2
  have hfit : ∃ pcs : Array Value, pcs = #[.string ⟨#[]⟩, .string ⟨#[97]⟩, .string ⟨#[97, 47, 120]⟩, .string ⟨#[98]⟩, .string ⟨#[99]⟩] := ⟨_, rfl⟩
  obtain ⟨pcs, hpcs⟩ := hfit
  rw [← hpcs]
  have hpc : ∀ k, k < 5 → ∃ p : ByteArray, pcs[k]? = some (.string p) ∧ p.size < lim := fun k hk => by
    subst hpcs
    rcases k with _ | _ | _ | _ | _ | k
    all_goals first | exact ⟨_, rfl, by decide⟩ | omega
  have Hpc := Lib.hid hpc
  clear hpc hpcs
  have hpb : Blk ((w.alloc (.cells #[] 47)).alloc (.cells pcs 9)) (w.heap.size + 1) 9 pcs := by
    have := Blk.new (w.alloc (.cells #[] 47)) 9 pcs
    simpa using this
  have hO0 : OwnS w.heap.size 47 2 (EQt w.heap.size) ((w.alloc (.cells #[] 47)).alloc (.cells pcs 9)) (.slice (some ⟨w.heap.size, 0, none⟩) 0 0) [] := (OwnS.lit0 _ _ _ _ (Nat.le_refl _)).ext (EQt_ok _) ((Ext.refl _).alloc _)
  have he1 : Ext w ((w.alloc (.cells #[] 47)).alloc (.cells pcs 9)) := ((Ext.refl w).alloc _).alloc _
  have hs1 : ((w.alloc (.cells #[] 47)).alloc (.cells pcs 9)).heap.size = w.heap.size + 2 := by simp
  generalize (w.alloc (.cells #[] 47)).alloc (.cells pcs 9) = w1 at *
  have HO0 := Lib.hid hO0
  have Hpb := Lib.hid hpb
  clear hO0 hpb hs1
  go_loopw [3, 5] (fun v i wr => QRel rb w pcs q v i wr) (fun _ i _ => 5 - (RowKit.intOf i).toNat)
  case atStart => exact ⟨0, [], q, by omega, rfl, HO0.out, by simp, H.out.ext he1, Int.le_refl _, by omega, he1.toR _, Hpb.out⟩
  case round =>
    obtain ⟨k, l, q', hk, rfl, hO, hl, hR, hq1, hq2, heR, hpbr⟩ := hrel
    by_cases hlt : k < 5
    · obtain ⟨p, hp, hps⟩ := Hpc.out k hlt
      have hkw := hR.lt
      have hprb : w.heap.size + 1 ≠ rb := by omega
      have HO := Lib.hid hO; have HR := Lib.hid hR; have HeR := Lib.hid heR; have Hp := Lib.hid hp; have HPB0 := Lib.hid hpbr
      have ki : (k : Int) < 5 := by omega
      have k0 : (0 : Int) ≤ (k : Int) := by omega
      clear hO hR hp hpbr heR
      go_wp2_with fail
      refine (pick_c 2 HR.out (by omega) (by omega)).mono ?_
      rintro e w4 ⟨v4, rfl, h40, h42, -, hR4, he4⟩
      have HO4 := Lib.hid (qt_keep HO.out HR.out he4); have HR4 := Lib.hid hR4; have HE4 := Lib.hid (HeR.out.trans he4); have HPB4 := Lib.hid (he4.blk HPB0.out hprb)
      clear hR4 he4 h42
      by_cases h0 : v4 = 0
      · subst h0
        have HPB : Hid (∀ W, ExtR rb w4 W → Blk W (w.heap.size + 1) 9 pcs) := Lib.hid fun W e => e.blk HPB4.out hprb
        have cp : ∀ W, ExtR rb w4 W → W.cell? ⟨w.heap.size + 1, k, none⟩ = some (.string p) := fun W e => by rw [(HPB.out W e).cell, Hp.out]
        go_wp2
        refine wp_region_hold (fun W => W.cell? ⟨w.heap.size + 1, k, none⟩ = some (.string p)) 9 [(0, true), (1, true), (2, true), (3, true), (4, true), (5, true), (6, false), (7, true), (8, false)] (by kernel_rfl) (by kernel_rfl) ?_ ?_
        · exact cp _ ((Ext.refl w4).drew.toR rb)
        (repeat (first | (apply hw_read (by rfl) (by rfl); (· (intro W hW; (try dsimp only at hW); go_simp; (first | done | rfl | (rw [if_pos] <;> first | omega | rfl)))); (try simp only [Act.put, List.setIfInBounds_toArray, List.set_cons_zero, List.set_cons_succ])) | (refine hw_skip (by rfl) (by rfl) ?_; (try simp only [Act.put, List.setIfInBounds_toArray, List.set_cons_zero, List.set_cons_succ]))))
        refine hw_step (by rfl) ?_
        go_wp2_with (go_at_call 60; refine (pick_c 50 (HR4.out.ext (Ext.refl w4).drew) (by omega) (by omega)).mono ?_; rintro e w5 ⟨v5, rfl, h50, h55, -, hR5, he5⟩)
        have h55 := h55 (by omega)
        have he5' := ((Ext.refl w4).drew.toR rb).trans he5
        have HO5 := Lib.hid (qt_keep HO4.out HR4.out he5'); have HR5 := Lib.hid hR5; have HE5 := Lib.hid (HE4.out.trans he5'); have HPB5 := Lib.hid (HPB.out _ he5')
        refine ⟨cp _ he5', ?_⟩
        have cp2 := cp _ (he5'.extend ((Ext.refl w5).alloc (.cells #[.string p, .int .i64 v5] 47)))
        clear hR5 he5 cp he5'
        (repeat (first | (apply hw_read (by rfl) (by rfl); (· (intro W hW; (try dsimp only at hW); go_simp; (first | done | rfl | (rw [if_pos] <;> first | omega | rfl)))); (try simp only [Act.put, List.setIfInBounds_toArray, List.set_cons_zero, List.set_cons_succ])) | (refine hw_skip (by rfl) (by rfl) ?_; (try simp only [Act.put, List.setIfInBounds_toArray, List.set_cons_zero, List.set_cons_succ]))))
        refine hw_step (by rfl) ?_
        go_wp2
        refine ⟨cp2, ?_⟩
        clear cp2
        (refine hw_nil ?_; (try simp only [List.drop_succ_cons, List.drop_zero]))
        go_wp2_with (at_builtin; go_must (refine wp_ap1G (B := w.heap.size) (by rfl) _ _ (by rfl) el_Qt (EQt_ok _) HE5.out.size _ l [⟨p, v5⟩] (by rfl) HO5.out 1 1 rfl #[.string p, .int .i64 v5] _ (by rfl) (by first | rfl | simp) rfl (one_cells rfl) (one_E (eqt_of (x := ⟨p, v5⟩) hps (by show inI v5; unfold inI; omega))) ?_ ?_))
        · simp; unfold lim; omega
        · intro v7 w7 hO7 hg7 hk7
          have HO7 := Lib.hid hO7
          have HE7 : Hid (ExtR rb w w7) := Lib.hid ((HO5.out.ext (EQt_ok _) ((Ext.refl _).alloc _)).grown_extR (HE5.out.extend ((Ext.refl _).alloc _)) hg7)
          have HR7 : Hid (Rd rb w7 (q' + 1 + 1)) := Lib.hid (HR5.out.keepT hk7 (by decide) (HE5.out.low HE7.out hrb))
          have HP7 := Lib.hid (hk7 _ _ _ (by decide) HPB5.out)
          clear hO7 hg7 hk7
          go_wp2
          refine NoPanic.normal ?_
          (try dsimp only [Exit.then])
          (try go_wp2)
          go_roundw
          case rel => exact ⟨k + 1, l ++ [⟨p, v5⟩], _, by omega, by go_num, HO7.out, by simp; omega, HR7.out, by omega, by omega, HE7.out, HP7.out⟩
          case measure => simp [RowKit.intOf]; omega
      · have e0 : (v4 == 0) = false := by rw [beq_eq_false_iff_ne]; exact h0
        go_wp2
        go_roundw
        case rel => exact ⟨k + 1, l, _, by omega, by go_num, HO4.out, by omega, HR4.out, by omega, by omega, HE4.out, HPB4.out⟩
        case measure => simp [RowKit.intOf]; omega
    · have hke : k = 5 := by omega
      subst hke
      have HO := Lib.hid hO; have HR := Lib.hid hR; have HeR := Lib.hid heR
      obtain ⟨A1, c1, rfl⟩ := hO.form
      obtain ⟨n, hn⟩ : ∃ n, l.length = n := ⟨_, rfl⟩
      rw [hn] at HO hl ⊢
      have Hn := Lib.hid hn
      clear hO hR heR hpbr hn
      by_cases hpos : 0 < n
      · have hpos' : (0 : Int) < (n : Int) := by omega
        go_wp2_with fail
        refine (pick_c 24 HR.out (by omega) (by omega)).mono ?_
        rintro e w5 ⟨v5, rfl, h50, h55, -, hR5, he5⟩
        have HO5 := Lib.hid (qt_keep HO.out HR.out he5); have HR5 := Lib.hid hR5; have HE5 := Lib.hid (HeR.out.trans he5)
        clear hR5 he5 h55
        by_cases h0 : v5 = 0
        · subst h0
          go_wp2_with fail
          refine (pick_c (n : Int) HR5.out (by omega) (by omega)).mono ?_
          rintro e w6 ⟨v6, rfl, h60, h66, -, hR6, he6⟩
          have h66 := h66 (by omega)
          obtain ⟨m, rfl⟩ := Int.eq_ofNat_of_zero_le h60
          have HO6 := Lib.hid (qt_keep HO5.out HR5.out he6); have HR6 := Lib.hid hR6; have HE6 := Lib.hid (HE5.out.trans he6)
          have hb6 := Lib.hid (Blk.new w6 3 #[.int .i64 (-1), .int .i64 999, .int .i64 1000])
          have e6a := (Ext.refl w6).alloc (.cells #[.int .i64 (-1), .int .i64 999, .int .i64 1000] 3)
          have hrb6 := hR6.lt
          obtain ⟨g6, hg6⟩ : ∃ g, w6.heap.size = g := ⟨_, rfl⟩
          rw [hg6] at hb6 hrb6
          have HO6a := Lib.hid (HO6.out.ext (EQt_ok _) e6a); have HR6a := Lib.hid (HR6.out.ext e6a); have HE6a := Lib.hid (HE6.out.extend e6a)
          clear hR6 he6 h60 e6a
          go_wp2_with fail
          (try rw [hg6])
          clear hg6
          generalize w6.alloc (.cells #[.int .i64 (-1), .int .i64 999, .int .i64 1000] 3) = w6a at *
          refine (pick_c 3 HR6a.out (by omega) (by omega)).mono ?_
          rintro e w7 ⟨v7, rfl, h70, h77, -, hR7, he7⟩
          have h77 := h77 (by omega)
          obtain ⟨j, rfl⟩ := Int.eq_ofNat_of_zero_le h70
          have hj3 : j < 3 := by omega
          have hb7 := he7.blk hb6.out (by omega)
          have hcell : ∃ z : Int, w7.cell? ⟨g6, j, none⟩ = some (.int .i64 z) ∧ inI z := by
            rw [hb7.cell]
            rcases j with _ | _ | _ | j
            all_goals first | exact ⟨_, rfl, by unfold inI; omega⟩ | omega
          obtain ⟨z, hz, hzi⟩ := hcell
          have hO7 := qt_keep HO6a.out HR6a.out he7
          obtain ⟨x, hx⟩ := get_of_lt (l := l) (k := m) (by rw [Hn.out]; omega)
          obtain ⟨g, c7, hv7, hg, hcx, hfr, hkS, hqs⟩ := hO7.setMost hx
          rw [Hn.out] at hv7
          injection hv7 with q1 _ q2'
          subst q1; subst q2'
          have HE7 := Lib.hid (HE6a.out.trans he7)
          have HQ8 := Lib.hid ((hqs z hzi).sl (EQt_ok _) (Nat.le_refl _) (by rw [List.length_set, Hn.out]; unfold lim; omega))
          have HE8 := Lib.hid (HE7.out.setNew (p := ⟨g, m * 2 + 1, none⟩) hg (.int .i64 z))
          have HR8 := Lib.hid (hR7.keepT (hkS (.int .i64 z)) (by decide) (HE7.out.low HE8.out hrb))
          have hmn : (m : Int) < (n : Int) := by omega
          have hj3' : (j : Int) < 3 := by omega
          try rw [List.length_set, Hn.out] at HQ8
          clear hR7 he7 hb7 hO7 hkS hqs h70 hx
          go_wp2
          go_ret
          exact ⟨_, l.set m { x with most := z }, _, rfl, HQ8.out, by first | (rw [List.length_set, Hn.out]; omega) | omega, HR8.out, by omega, by omega, HE8.out⟩
        · have e0 : (v5 == 0) = false := by rw [beq_eq_false_iff_ne]; exact h0
          have HQ5 := Lib.hid (HO5.out.sl (EQt_ok _) (Nat.le_refl _) (by rw [Hn.out]; unfold lim; omega))
          go_wp2
          go_ret
          exact ⟨_, l, _, rfl, HQ5.out, by rw [Hn.out]; omega, HR5.out, by omega, by omega, HE5.out⟩
      · have hpos' : ¬ (0 : Int) < (n : Int) := by omega
        have HQ5 := Lib.hid (HO.out.sl (EQt_ok _) (Nat.le_refl _) (by rw [Hn.out]; unfold lim; omega))
        go_wp2
        go_ret
        exact ⟨_, l, _, rfl, HQ5.out, by rw [Hn.out]; omega, HR.out, by omega, by omega, HeR.out⟩
end Go.Sf
