/- The bytes of a file are drawn. -/
import Derived.Test.YtpldhlpegpgmcaaDoorGG
import Derived.Test.YtpldhlpegpgmcaaDoorT50
import Derived.Test.YtpldhlpegpgmcaaDoorHA
/-! The bytes of a file are drawn. -/
namespace Go.Sf
open Go Go.RowKit Go.Proofs
/-- drawn ints: few, the reader a hundred steps further at most -/
def DrewI (rb : Nat) (w : World) (q : Int) (e : Ending) (w' : World) : Prop := ∃ v bs q', e = .returned v ∧ Ints w.heap.size w' v bs ∧ bs.length ≤ 33 ∧ Rd rb w' q' ∧ q ≤ q' ∧ q' ≤ q + 100 ∧ ExtR rb w w'
theorem wrap_inI (n : Int) : inI (RowKit.wrap64 n) := by unfold inI; unfold RowKit.wrap64; omega
/-- an int of a row of the call's own is written -/
theorem OwnS.setI {base : Nat} {w : World} {v : Value} {l : List Int} (h : OwnS base 3 1 EInt w v l) {k : Nat} (hk : k < l.length) :
    ∃ g c, v = .slice (some ⟨g, 0, none⟩) l.length c ∧ base ≤ g ∧ (∃ u, w.cell? ⟨g, k, none⟩ = some u) ∧ w.frozen? ⟨g, k, none⟩ = false ∧ KeepsT 3 w (w.setCell ⟨g, k, none⟩ (.int .i64 256)) ∧ OwnS base 3 1 EInt (w.setCell ⟨g, k, none⟩ (.int .i64 256)) v (l.set k 256) := by
  obtain ⟨xs, ⟨h1, h2⟩, h3⟩ := h
  rcases h2 with ⟨rfl, hn⟩ | ⟨g, cap, cur, rfl, hg, hh, hnc, hcm, hcs, htk⟩
  · rw [hn] at hk; omega
  · have hb : Blk w g 3 cur := hh
    have hc0 : cur[k]? = xs[k]? := by rw [← htk, List.getElem?_take_of_lt (by omega), Array.getElem?_toList]
    obtain ⟨x, hx⟩ := get_of_lt hk
    have he := (h3 k x hx).1
    rw [Nat.mul_one, List.getElem?_toArray] at he
    refine ⟨g, cap, rfl, hg, ⟨_, by rw [hb.cell, hc0]; exact he⟩, hb.frozen _, KeepsT.set (i := k) hb (.int .i64 256) rfl, xs.set k (.int .i64 256), ⟨by simpa using h1, .inr ⟨g, cap, cur.setIfInBounds k (.int .i64 256), ?_, hg, hb.set_ _ _, ?_, hcm, ?_, ?_⟩⟩, fun j z hz => ?_⟩
    · rw [List.length_set]
    · rw [List.length_set]; exact hnc
    · simpa using hcs
    · rw [List.length_set, Array.toList_setIfInBounds, List.take_set, htk]
    · rw [Nat.mul_one]
      rw [List.getElem?_set] at hz
      split at hz
      · next e =>
        subst e
        cases hz
        refine ⟨?_, by unfold inI; omega⟩
        rw [List.getElem?_toArray, List.getElem?_set_self (by omega)]
      · next e =>
        obtain ⟨q0, q1⟩ := h3 j z hz
        rw [Nat.mul_one, List.getElem?_toArray] at q0
        refine ⟨?_, q1⟩
        rw [List.getElem?_toArray, List.getElem?_set_ne (by omega)]; exact q0
set_option maxRecDepth 4000 in
set_option maxHeartbeats 4000000 in
theorem l91File_c {rb : Nat} {w : World} {q : Int} (h : Rd rb w q) (hq : q ≤ 10000000000) : Calls Tryd.prog 34 #[.pointer (some ⟨rb, 0, none⟩)] w (DrewI rb w q) := by
  have H := Lib.hid h
  have hrb := h.lt
  clear h
  have hmk : ∀ w : World, (Instr.makeSlice 29 (.int .i64 33) (.int .i64 33)).run Tryd.prog w = .ok (.slice (some ⟨w.heap.size, 0, none⟩) 33 33) (w.alloc (.cells (Array.replicate 33 (.int .i64 0)) 3)) := fun _ => by kernel_rfl
  have Hmk := Lib.hid hmk
  clear hmk
  go_enter Tryd.func34, Tryd.ntmps34
  go_wp2_with fail
  have hO0 : OwnS w.heap.size 3 1 EInt (w.alloc (.cells #[] 3)) (.slice (some ⟨w.heap.size, 0, none⟩) 0 0) [] := OwnS.lit0 _ _ _ _ (Nat.le_refl _)
  have e1 := ((Ext.refl w).alloc (.cells #[] 3)).alloc (.cells #[.int .i64 0, .int .i64 1, .int .i64 7, .int .i64 8, .int .i64 9, .int .i64 16, .int .i64 17, .int .i64 32] 3)
  have HO0 := Lib.hid (hO0.ext eint_ok ((Ext.refl _).alloc (.cells #[.int .i64 0, .int .i64 1, .int .i64 7, .int .i64 8, .int .i64 9, .int .i64 16, .int .i64 17, .int .i64 32] 3)))
  have hbl := Blk.new (w.alloc (.cells #[] 3)) 3 #[.int .i64 0, .int .i64 1, .int .i64 7, .int .i64 8, .int .i64 9, .int .i64 16, .int .i64 17, .int .i64 32]
  rw [show (w.alloc (.cells #[] 3)).heap.size = w.heap.size + 1 by simp] at hbl
  have HBL := Lib.hid hbl
  clear hbl hO0
  generalize (w.alloc (.cells #[] 3)).alloc (.cells #[.int .i64 0, .int .i64 1, .int .i64 7, .int .i64 8, .int .i64 9, .int .i64 16, .int .i64 17, .int .i64 32] 3) = w1 at *
  have hR1 := H.out.ext e1
  have HR1 := Lib.hid hR1
  refine (pick_c 8 hR1 (by omega) (by omega)).mono ?_
  rintro e w2 ⟨v2, rfl, h20, h28, -, hR2, he2⟩
  have h28 := h28 (by omega)
  have HR2 := Lib.hid hR2
  have HE2 : Hid (ExtR rb w w2) := Lib.hid ((e1.toR rb).trans he2)
  have hk2 := HR1.out.keepsT he2
  have HO2 := Lib.hid (HO0.out.keepT hk2 (by decide) fun _ _ _ g => g)
  have hb2 := hk2 _ _ _ (by decide) HBL.out
  obtain ⟨j, rfl⟩ := Int.eq_ofNat_of_zero_le h20
  have hj : j < 8 := by omega
  have hcell : ∃ z : Int, w2.cell? ⟨w.heap.size + 1, j, none⟩ = some (.int .i64 z) ∧ 0 ≤ z ∧ z ≤ 32 := by
    rw [hb2.cell]
    rcases j with _ | _ | _ | _ | _ | _ | _ | _ | j
    all_goals first | exact ⟨_, rfl, by omega, by omega⟩ | omega
  obtain ⟨z, hz, hz0, hz32⟩ := hcell
  clear hR1 hR2 he2 hk2 hb2 h20 h28 HO0
  go_wp2_with fail
  refine (pick_c 3 HR2.out (by omega) (by omega)).mono ?_
  rintro e w3 ⟨v3, rfl, h30, h33, -, hR3, he3⟩
  have HO3 := Lib.hid (HO2.out.keepT (HR2.out.keepsT he3) (by decide) fun _ _ _ g => g)
  have HE3 := Lib.hid (HE2.out.trans he3)
  have HR3 := Lib.hid hR3
  clear hz hR3 he3
  -- TAIL
  by_cases h0 : v3 = 0
  · subst h0
    go_wp2_with fail
    refine (pick_c 33 HR3.out (by omega) (by omega)).mono ?_
    rintro e w4 ⟨z4, rfl, h40, h43, -, hR4, he4⟩
    have h43 := h43 (by omega)
    have HO4 := Lib.hid (HO3.out.keepT (HR3.out.keepsT he4) (by decide) fun _ _ _ g => g)
    have HE4 := Lib.hid (HE3.out.trans he4)
    have HR4 := Lib.hid hR4
    clear hR4 he4
    go_wp2_with fail
    refine (pick_c 3 HR4.out (by omega) (by omega)).mono ?_
    rintro e w5 ⟨v5, rfl, h50, h53, -, hR5, he5⟩
    have h53 := h53 (by omega)
    have HO5 := Lib.hid (HO4.out.keepT (HR4.out.keepsT he5) (by decide) fun _ _ _ g => g)
    have HE5 := Lib.hid (HE4.out.trans he5)
    have HR5 := Lib.hid hR5
    clear hR5 he5
    go_wp2
    go_loopw [3, 6] (fun v i wr => ∃ (k : Nat) (bs : List Int) (q2 : Int), k ≤ 32 ∧ (k : Int) ≤ z4 ∧ i = .int .i64 k ∧ OwnS w.heap.size 3 1 EInt wr v bs ∧ bs.length = k ∧ Rd rb wr q2 ∧ q ≤ q2 ∧ q2 ≤ q + 4 + 2 * k ∧ ExtR rb w wr) (fun _ i _ => 40 - (RowKit.intOf i).toNat)
    case atStart => exact ⟨0, [], _, by omega, by omega, rfl, HO5.out, rfl, HR5.out, by omega, by omega, HE5.out⟩
    case round =>
      obtain ⟨k, bs, q2, hk, hkn, rfl, hO, hbl, hR, hqa, hqb, hE⟩ := hrel
      obtain ⟨Ao, co, hAo⟩ := hO.form
      rw [hbl] at hAo
      subst hAo
      have HO6 := Lib.hid hO; have HR6 := Lib.hid hR; have HE6 := Lib.hid hE; have Hbl := Lib.hid hbl
      clear hO hR hE hbl
      by_cases hlt : (k : Int) < z4
      · have hd : (k : Int).tdiv 8 = ((k / 8 : Nat) : Int) := by rw [Int.tdiv_eq_ediv_of_nonneg (by omega)]; rfl
        have hd4 : k / 8 ≤ 4 := by omega
        have hwd : IntKind.i64.wrap ((k / 8 : Nat) : Int) = ((k / 8 : Nat) : Int) := IntWalk.i64_in _ (by omega)
        go_wp2_with fail
        refine (pick_c 2 HR6.out (by omega) (by omega)).mono ?_
        rintro e w7 ⟨v7, rfl, h70, h72, -, hR7, he7⟩
        have h72 := h72 (by omega)
        have HO7 := Lib.hid (HO6.out.keepT (HR6.out.keepsT he7) (by decide) fun _ _ _ g => g)
        have HE7 := Lib.hid (HE6.out.trans he7)
        have HR7 := Lib.hid hR7
        clear hR7 he7
        go_wp2_with fail
        generalize RowKit.wrap64 (v5 + RowKit.wrap64 ((k : Int) / 8 * v7)) = y
        generalize RowKit.wrap64 ((k : Int) / 8 * v7) = y2
        refine (pick_c 6 HR7.out (by omega) (by omega)).mono ?_
        rintro e w8 ⟨v8, rfl, h80, h86, -, hR8, he8⟩
        have h86 := h86 (by omega)
        clear hd hd4 hwd h70 h72 h50 h53
        have HO8 := Lib.hid (HO7.out.keepT (HR7.out.keepsT he8) (by decide) fun _ _ _ g => g)
        have HE8 := Lib.hid (HE7.out.trans he8)
        have HR8 := Lib.hid hR8
        clear hR8 he8
        go_wp2_with (at_builtin; go_must (refine wp_ap1G (B := w.heap.size) (by rfl) _ _ (by rfl) el_int eint_ok HE8.out.size _ bs [RowKit.wrap64 (y + v8 / 5)] (by rfl) HO8.out 1 1 rfl #[.int .i64 (RowKit.wrap64 (y + v8 / 5))] _ (by rfl) (by first | rfl | simp) rfl (one_cells rfl) (one_E ⟨rfl, wrap_inI _⟩) ?_ ?_))
        · have := Hbl.out; (try simp); unfold lim; omega
        · intro v9 w9 hO9 hg9 hk9
          have hE9 := (HO8.out.ext eint_ok ((Ext.refl _).alloc _)).grown_extR (HE8.out.extend ((Ext.refl _).alloc _)) hg9
          have HR9 := Lib.hid (HR8.out.keepT hk9 (by decide) (HE8.out.low hE9 hrb))
          have hlen9 : (bs ++ [RowKit.wrap64 (y + v8 / 5)]).length = k + 1 := by rw [List.length_append, Hbl.out]; rfl
          generalize bs ++ [RowKit.wrap64 (y + v8 / 5)] = bs9 at *
          have HO9 := Lib.hid hO9
          have HE9 := Lib.hid hE9
          have Hl9 := Lib.hid hlen9
          clear hO9 hg9 hk9 hE9 hlen9
          go_wp2
          go_roundw
          case rel => exact ⟨k + 1, bs9, q2 + 1 + 1, by omega, by omega, by go_num, HO9.out, Hl9.out, HR9.out, by omega, by omega, HE9.out⟩
          case measure => simp [RowKit.intOf]; omega
      · skip
        go_wp2_with fail
        refine (pick_c 40 HR6.out (by omega) (by omega)).mono ?_
        rintro e w7 ⟨v7, rfl, h70, h72, -, hR7, he7⟩
        have HO7 := Lib.hid (HO6.out.keepT (HR6.out.keepsT he7) (by decide) fun _ _ _ g => g)
        have HE7 := Lib.hid (HE6.out.trans he7)
        have HR7 := Lib.hid hR7
        have HI7 : Hid (Ints w.heap.size w7 (.slice Ao k co) bs) := Lib.hid (HO7.out.sl eint_ok (Nat.le_refl _) (by have := Hbl.out; unfold lim; omega))
        clear hR7 he7
        have hkn' : (k : Int) = z4 := by omega
        by_cases h70' : v7 = 0
        · subst h70'
          by_cases hpos : 0 < z4
          · go_wp2_with fail
            refine (pick_c z4 HR7.out (by omega) (by omega)).mono ?_
            rintro e w8 ⟨v8, rfl, h80, h86, -, hR8, he8⟩
            have h86 := h86 (by omega)
            obtain ⟨m, rfl⟩ := Int.eq_ofNat_of_zero_le h80
            have hO8 := HO7.out.keepT (HR7.out.keepsT he8) (by decide) fun _ _ _ g => g
            have HE8 := Lib.hid (HE7.out.trans he8)
            have hR8' := Lib.hid hR8
            obtain ⟨g, c8, hv8, hg, ⟨uc, huc⟩, hfr, hkT, hOs⟩ := hO8.setI (k := m) (by have := Hbl.out; omega)
            rw [Hbl.out] at hv8
            injection hv8 with q1 _ q2'
            subst q1; subst q2'
            have HI8 : Hid (Ints w.heap.size _ (.slice (some ⟨g, 0, none⟩) k co) (bs.set m 256)) := Lib.hid (by
              have := hOs.sl eint_ok (Nat.le_refl _) (by have := Hbl.out; simp; unfold lim; omega)
              exact this)
            have HR9 := Lib.hid (hR8'.out.keepT hkT (by decide) (HE8.out.low (HE8.out.setNew (p := ⟨g, m, none⟩) hg _) hrb))
            have HE9 := Lib.hid (HE8.out.setNew (p := ⟨g, m, none⟩) hg (.int .i64 256))
            have hmk : m < k := by omega
            have hmk' : (m : Int) < (k : Int) := by omega
            clear hR8 he8 hO8 hkT hOs h86
            go_wp2
            go_ret
            exact ⟨_, bs.set m 256, _, rfl, HI8.out, by have := Hbl.out; simp; omega, HR9.out, by omega, by omega, HE9.out⟩
          · go_wp2
            go_ret
            exact ⟨_, bs, _, rfl, HI7.out, by have := Hbl.out; omega, HR7.out, by omega, by omega, HE7.out⟩
        · have e70 : (v7 == 0) = false := by rw [beq_eq_false_iff_ne]; exact h70'
          by_cases h71 : v7 = 1
          · subst h71
            have hmk := Hmk.out
            have HZ : Hid (Ints w.heap.size (w7.alloc (.cells (Array.replicate 33 (.int .i64 0)) 3)) (.slice (some ⟨w7.heap.size, 0, none⟩) 33 33) (List.replicate 33 0)) := Lib.hid ⟨_, 33, rfl, Nat.le_refl _, ⟨by unfold maxLen; omega, fun h => by cases h⟩, by unfold lim; simp, fun j x hx => ⟨w7.heap.size, 0, _, rfl, HE7.out.size, Blk.new _ _ _, by
              have hj := lt_of_get hx
              rw [List.length_replicate] at hj
              rw [List.getElem?_replicate, if_pos hj] at hx
              cases hx
              refine ⟨?_, by unfold inI; omega⟩
              rw [Array.getElem?_replicate, if_pos (by omega)]⟩⟩
            go_wp2
            go_ret
            exact ⟨_, List.replicate 33 0, _, rfl, HZ.out, by simp, HR7.out.ext ((Ext.refl _).alloc _), by omega, by omega, HE7.out.extend ((Ext.refl _).alloc _)⟩
          · have e71 : (v7 == 1) = false := by rw [beq_eq_false_iff_ne]; exact h71
            go_wp2
            go_ret
            exact ⟨_, bs, _, rfl, HI7.out, by have := Hbl.out; omega, HR7.out, by omega, by omega, HE7.out⟩
  · have e0 : (v3 == 0) = false := by rw [beq_eq_false_iff_ne]; exact h0
    go_wp2_with fail
    refine (pick_c 3 HR3.out (by omega) (by omega)).mono ?_
    rintro e w5 ⟨v5, rfl, h50, h53, -, hR5, he5⟩
    have h53 := h53 (by omega)
    have HO5 := Lib.hid (HO3.out.keepT (HR3.out.keepsT he5) (by decide) fun _ _ _ g => g)
    have HE5 := Lib.hid (HE3.out.trans he5)
    have HR5 := Lib.hid hR5
    clear hR5 he5
    go_wp2
    go_loopw [3, 6] (fun v i wr => ∃ (k : Nat) (bs : List Int) (q2 : Int), k ≤ 32 ∧ (k : Int) ≤ z ∧ i = .int .i64 k ∧ OwnS w.heap.size 3 1 EInt wr v bs ∧ bs.length = k ∧ Rd rb wr q2 ∧ q ≤ q2 ∧ q2 ≤ q + 4 + 2 * k ∧ ExtR rb w wr) (fun _ i _ => 40 - (RowKit.intOf i).toNat)
    case atStart => exact ⟨0, [], _, by omega, by omega, rfl, HO5.out, rfl, HR5.out, by omega, by omega, HE5.out⟩
    case round =>
      obtain ⟨k, bs, q2, hk, hkn, rfl, hO, hbl, hR, hqa, hqb, hE⟩ := hrel
      obtain ⟨Ao, co, hAo⟩ := hO.form
      rw [hbl] at hAo
      subst hAo
      have HO6 := Lib.hid hO; have HR6 := Lib.hid hR; have HE6 := Lib.hid hE; have Hbl := Lib.hid hbl
      clear hO hR hE hbl
      by_cases hlt : (k : Int) < z
      · have hd : (k : Int).tdiv 8 = ((k / 8 : Nat) : Int) := by rw [Int.tdiv_eq_ediv_of_nonneg (by omega)]; rfl
        have hd4 : k / 8 ≤ 4 := by omega
        have hwd : IntKind.i64.wrap ((k / 8 : Nat) : Int) = ((k / 8 : Nat) : Int) := IntWalk.i64_in _ (by omega)
        go_wp2_with fail
        refine (pick_c 2 HR6.out (by omega) (by omega)).mono ?_
        rintro e w7 ⟨v7, rfl, h70, h72, -, hR7, he7⟩
        have h72 := h72 (by omega)
        have HO7 := Lib.hid (HO6.out.keepT (HR6.out.keepsT he7) (by decide) fun _ _ _ g => g)
        have HE7 := Lib.hid (HE6.out.trans he7)
        have HR7 := Lib.hid hR7
        clear hR7 he7
        go_wp2_with fail
        generalize RowKit.wrap64 (v5 + RowKit.wrap64 ((k : Int) / 8 * v7)) = y
        generalize RowKit.wrap64 ((k : Int) / 8 * v7) = y2
        refine (pick_c 6 HR7.out (by omega) (by omega)).mono ?_
        rintro e w8 ⟨v8, rfl, h80, h86, -, hR8, he8⟩
        have h86 := h86 (by omega)
        clear hd hd4 hwd h70 h72 h50 h53
        have HO8 := Lib.hid (HO7.out.keepT (HR7.out.keepsT he8) (by decide) fun _ _ _ g => g)
        have HE8 := Lib.hid (HE7.out.trans he8)
        have HR8 := Lib.hid hR8
        clear hR8 he8
        go_wp2_with (at_builtin; go_must (refine wp_ap1G (B := w.heap.size) (by rfl) _ _ (by rfl) el_int eint_ok HE8.out.size _ bs [RowKit.wrap64 (y + v8 / 5)] (by rfl) HO8.out 1 1 rfl #[.int .i64 (RowKit.wrap64 (y + v8 / 5))] _ (by rfl) (by first | rfl | simp) rfl (one_cells rfl) (one_E ⟨rfl, wrap_inI _⟩) ?_ ?_))
        · have := Hbl.out; (try simp); unfold lim; omega
        · intro v9 w9 hO9 hg9 hk9
          have hE9 := (HO8.out.ext eint_ok ((Ext.refl _).alloc _)).grown_extR (HE8.out.extend ((Ext.refl _).alloc _)) hg9
          have HR9 := Lib.hid (HR8.out.keepT hk9 (by decide) (HE8.out.low hE9 hrb))
          have hlen9 : (bs ++ [RowKit.wrap64 (y + v8 / 5)]).length = k + 1 := by rw [List.length_append, Hbl.out]; rfl
          generalize bs ++ [RowKit.wrap64 (y + v8 / 5)] = bs9 at *
          have HO9 := Lib.hid hO9
          have HE9 := Lib.hid hE9
          have Hl9 := Lib.hid hlen9
          clear hO9 hg9 hk9 hE9 hlen9
          go_wp2
          go_roundw
          case rel => exact ⟨k + 1, bs9, q2 + 1 + 1, by omega, by omega, by go_num, HO9.out, Hl9.out, HR9.out, by omega, by omega, HE9.out⟩
          case measure => simp [RowKit.intOf]; omega
      · skip
        go_wp2_with fail
        refine (pick_c 40 HR6.out (by omega) (by omega)).mono ?_
        rintro e w7 ⟨v7, rfl, h70, h72, -, hR7, he7⟩
        have HO7 := Lib.hid (HO6.out.keepT (HR6.out.keepsT he7) (by decide) fun _ _ _ g => g)
        have HE7 := Lib.hid (HE6.out.trans he7)
        have HR7 := Lib.hid hR7
        have HI7 : Hid (Ints w.heap.size w7 (.slice Ao k co) bs) := Lib.hid (HO7.out.sl eint_ok (Nat.le_refl _) (by have := Hbl.out; unfold lim; omega))
        clear hR7 he7
        have hkn' : (k : Int) = z := by omega
        by_cases h70' : v7 = 0
        · subst h70'
          by_cases hpos : 0 < z
          · go_wp2_with fail
            refine (pick_c z HR7.out (by omega) (by omega)).mono ?_
            rintro e w8 ⟨v8, rfl, h80, h86, -, hR8, he8⟩
            have h86 := h86 (by omega)
            obtain ⟨m, rfl⟩ := Int.eq_ofNat_of_zero_le h80
            have hO8 := HO7.out.keepT (HR7.out.keepsT he8) (by decide) fun _ _ _ g => g
            have HE8 := Lib.hid (HE7.out.trans he8)
            have hR8' := Lib.hid hR8
            obtain ⟨g, c8, hv8, hg, ⟨uc, huc⟩, hfr, hkT, hOs⟩ := hO8.setI (k := m) (by have := Hbl.out; omega)
            rw [Hbl.out] at hv8
            injection hv8 with q1 _ q2'
            subst q1; subst q2'
            have HI8 : Hid (Ints w.heap.size _ (.slice (some ⟨g, 0, none⟩) k co) (bs.set m 256)) := Lib.hid (by
              have := hOs.sl eint_ok (Nat.le_refl _) (by have := Hbl.out; simp; unfold lim; omega)
              exact this)
            have HR9 := Lib.hid (hR8'.out.keepT hkT (by decide) (HE8.out.low (HE8.out.setNew (p := ⟨g, m, none⟩) hg _) hrb))
            have HE9 := Lib.hid (HE8.out.setNew (p := ⟨g, m, none⟩) hg (.int .i64 256))
            have hmk : m < k := by omega
            have hmk' : (m : Int) < (k : Int) := by omega
            clear hR8 he8 hO8 hkT hOs h86
            go_wp2
            go_ret
            exact ⟨_, bs.set m 256, _, rfl, HI8.out, by have := Hbl.out; simp; omega, HR9.out, by omega, by omega, HE9.out⟩
          · go_wp2
            go_ret
            exact ⟨_, bs, _, rfl, HI7.out, by have := Hbl.out; omega, HR7.out, by omega, by omega, HE7.out⟩
        · have e70 : (v7 == 0) = false := by rw [beq_eq_false_iff_ne]; exact h70'
          by_cases h71 : v7 = 1
          · subst h71
            have hmk := Hmk.out
            have HZ : Hid (Ints w.heap.size (w7.alloc (.cells (Array.replicate 33 (.int .i64 0)) 3)) (.slice (some ⟨w7.heap.size, 0, none⟩) 33 33) (List.replicate 33 0)) := Lib.hid ⟨_, 33, rfl, Nat.le_refl _, ⟨by unfold maxLen; omega, fun h => by cases h⟩, by unfold lim; simp, fun j x hx => ⟨w7.heap.size, 0, _, rfl, HE7.out.size, Blk.new _ _ _, by
              have hj := lt_of_get hx
              rw [List.length_replicate] at hj
              rw [List.getElem?_replicate, if_pos hj] at hx
              cases hx
              refine ⟨?_, by unfold inI; omega⟩
              rw [Array.getElem?_replicate, if_pos (by omega)]⟩⟩
            go_wp2
            go_ret
            exact ⟨_, List.replicate 33 0, _, rfl, HZ.out, by simp, HR7.out.ext ((Ext.refl _).alloc _), by omega, by omega, HE7.out.extend ((Ext.refl _).alloc _)⟩
          · have e71 : (v7 == 1) = false := by rw [beq_eq_false_iff_ne]; exact h71
            go_wp2
            go_ret
            exact ⟨_, bs, _, rfl, HI7.out, by have := Hbl.out; omega, HR7.out, by omega, by omega, HE7.out⟩
end Go.Sf

/-! A step with a volume is drawn. -/
namespace Go.Sf
open Go Go.RowKit Go.Proofs
/-- a drawn step: a volume, small, and a word -/
def DrewSt (rb : Nat) (w : World) (q : Int) (e : Ending) (w' : World) : Prop := ∃ us ut b s t q', e = .returned (.tuple #[.agg #[us, ut], .bool b]) ∧ OwnS w.heap.size 31 3 (EHd w.heap.size) w' us s ∧ Its w.heap.size w' ut t ∧ s.length ≤ 16 ∧ t.length ≤ 12 ∧ Rd rb w' q' ∧ q ≤ q' ∧ q' ≤ q + 110 ∧ ExtR rb w w'
theorem vol_small {s : List Hd} {t : List It} (h : volOk s t = true) : s.length ≤ 16 ∧ t.length ≤ 12 := by
  unfold volOk at h
  simp only [Bool.and_eq_true] at h
  exact ⟨(storeOk_iff.1 h.1).1, (treeOk_iff.1 h.2.1).1⟩
def Small2 (o : Option (List Hd × List It)) : Prop := (o.elim [] (·.1)).length ≤ 16 ∧ (o.elim [] (·.2)).length ≤ 12
theorem small_put (s : List Hd) (t : List It) (x : It) : Small2 (volPut s t x) := by
  unfold Small2 volPut
  split
  · next hv =>
    cases h : treePut t x with
    | none => simp
    | some t' =>
      unfold treePut at h
      split at h
      · next hc => cases h; exact ⟨(vol_small hv).1, (treeOk_iff.1 hc.2.2.2).1⟩
      · cases h
  · simp
theorem small_drop (s : List Hd) (t : List It) (p : ByteArray) : Small2 (volDrop s t p) := by
  unfold Small2 volDrop
  split
  · next hv =>
    cases h : treeDrop t p with
    | none => simp
    | some t' =>
      obtain ⟨_, _, _, _, _, _, _, h5⟩ := treeDrop_find h
      exact ⟨Nat.le_trans (freeAll_len _ _) (vol_small hv).1, (treeOk_iff.1 h5).1⟩
  · simp
theorem small_write (s : List Hd) (t : List It) (p : ByteArray) (bs : List Int) : Small2 (volWrite s t p bs) := by
  unfold Small2 volWrite
  split
  · cases h : writeT s t p bs with
    | none => simp
    | some q => obtain ⟨s', t'⟩ := q; exact ⟨writeT_store h, (writeT_tree h).1⟩
  · simp
set_option maxRecDepth 8000 in
set_option maxHeartbeats 4000000 in
theorem l91Step_c {rb B B' : Nat} {vs vt : Value} {s : List Hd} {t : List It} {w : World} {q : Int} (h : Rd rb w q) (hq : q ≤ 1000000000) (hs : Hds B w vs s) (ht : Its B' w vt t) : Calls Tryd.prog 19 #[.pointer (some ⟨rb, 0, none⟩), .agg #[vs, vt]] w (DrewSt rb w q) := by
  have H := Lib.hid h; have HS := Lib.hid hs; have HT := Lib.hid ht
  have hrb := h.lt
  obtain ⟨A, c, rfl, -⟩ := hs
  obtain ⟨A2, c2, rfl, -⟩ := ht
  clear h
  have hbk := Lib.hid ((Blk.new w 26 #[.slice A s.length c, .slice A2 t.length c2]).alloc (.cells #[.slice none 0 0, .slice none 0 0] 26))
  have hbr : Hid (Blk ((w.alloc (.cells #[.slice A s.length c, .slice A2 t.length c2] 26)).alloc (.cells #[.slice none 0 0, .slice none 0 0] 26)) (w.heap.size + 1) 26 #[.slice none 0 0, .slice none 0 0]) := Lib.hid (by
    have := Blk.new (w.alloc (.cells #[.slice A s.length c, .slice A2 t.length c2] 26)) 26 #[.slice none 0 0, .slice none 0 0]
    simpa using this)
  have e0 : Ext w ((w.alloc (.cells #[.slice A s.length c, .slice A2 t.length c2] 26)).alloc (.cells #[.slice none 0 0, .slice none 0 0] 26)) := ((Ext.refl w).alloc _).alloc _
  have hsz : w.heap.size + 2 ≤ ((w.alloc (.cells #[.slice A s.length c, .slice A2 t.length c2] 26)).alloc (.cells #[.slice none 0 0, .slice none 0 0] 26)).heap.size := by simp
  go_enter Tryd.func19, Tryd.ntmps19
  go_wp2_with fail
  generalize (w.alloc (.cells #[.slice A s.length c, .slice A2 t.length c2] 26)).alloc (.cells #[.slice none 0 0, .slice none 0 0] 26) = w2 at *
  have hR2 := H.out.ext e0
  refine (pick_c 7 hR2 (by omega) (by omega)).mono ?_
  rintro e w3 ⟨v3, rfl, h30, h37, -, hR3, he3⟩
  have HE3 := Lib.hid ((e0.toR rb).trans he3)
  have HR3 := Lib.hid hR3
  have hkT := hR2.keepsT he3
  have HS3 := Lib.hid ((HS.out.ext e0).keepT hkT (by decide) (by decide))
  have HT3 := Lib.hid ((HT.out.ext e0).keepT hkT (by decide) (by decide))
  have HK : Hid (∀ W, ExtR rb w3 W → W.cell? ⟨w.heap.size, 0, none⟩ = some (.slice A s.length c) ∧ W.cell? ⟨w.heap.size, 1, none⟩ = some (.slice A2 t.length c2) ∧ Blk W (w.heap.size + 1) 26 #[.slice none 0 0, .slice none 0 0]) := Lib.hid fun W e => by
    have h1 := (he3.trans e).blk hbk.out (by omega)
    have h2 := (he3.trans e).blk hbr.out (by omega)
    have c0 := h1.cell 0; have c1 := h1.cell 1
    simp at c0 c1
    exact ⟨c0, c1, h2⟩
  have HsT : Hid (∀ (W : World) (q' : Int) (B1 : Nat), ExtR rb w3 W → KeepsT 55 w3 W → True) := Lib.hid fun _ _ _ _ _ => trivial
  clear hR2 hR3 he3 hkT HsT h37
  by_cases h0 : v3 = 0
  · subst h0
    go_wp2
    refine wp_region_hold (fun W => W.cell? ⟨w.heap.size, 0, none⟩ = some (.slice A s.length c) ∧ W.cell? ⟨w.heap.size, 1, none⟩ = some (.slice A2 t.length c2)) 7 [(0, true), (1, true), (2, false), (3, false), (4, false), (5, true), (6, true)] (by kernel_rfl) (by kernel_rfl) ?_ ?_
    · exact ⟨(HK.out _ ((Ext.refl _).drew.toR rb)).1, (HK.out _ ((Ext.refl _).drew.toR rb)).2.1⟩
    (repeat (first | (apply hw_read (by rfl) (by rfl); (· (intro W hW; (try dsimp only at hW); go_simp; (first | done | rfl | (rw [if_pos] <;> first | omega | rfl)))); (try simp only [Act.put, List.setIfInBounds_toArray, List.set_cons_zero, List.set_cons_succ])) | (refine hw_skip (by rfl) (by rfl) ?_; (try simp only [Act.put, List.setIfInBounds_toArray, List.set_cons_zero, List.set_cons_succ]))))
    refine hw_step (by rfl) ?_
    go_wp2
    (try refine ⟨⟨(HK.out _ (((Ext.refl _).drew.alloc _).toR rb)).1, (HK.out _ (((Ext.refl _).drew.alloc _).toR rb)).2.1⟩, ?_⟩)
    refine hw_step (by rfl) ?_
    go_wp2_with (go_at_call 30; refine (of_c (HR3.out.ext ((Ext.refl _).drew.alloc _)) (by omega) (strs_lit (w := w3.drew) (ss := [⟨#[97]⟩, ⟨#[98]⟩, ⟨#[97, 47, 120]⟩]) (by decide) (by decide)) (by decide) (by decide)).mono ?_; rintro e wy ⟨pp, qy, rfl, hpp, hRy, hq1, hq2, hey⟩)
    have Ey : ExtR rb w3 wy := (((Ext.refl w3).drew.alloc _).toR rb).trans hey
    (try refine ⟨⟨(HK.out _ Ey).1, (HK.out _ Ey).2.1⟩, ?_⟩)
    have hky := HR3.out.keepsT Ey
    have HSy := Lib.hid (HS3.out.keepT hky (by decide) (by decide))
    have HTy := Lib.hid (HT3.out.keepT hky (by decide) (by decide))
    have HRy := Lib.hid hRy
    clear hRy hey hky
    (repeat (first | (apply hw_read (by rfl) (by rfl); (· (intro W hW; (try dsimp only at hW); go_simp; (first | done | rfl | (rw [if_pos] <;> first | omega | rfl)))); (try simp only [Act.put, List.setIfInBounds_toArray, List.set_cons_zero, List.set_cons_succ])) | (refine hw_skip (by rfl) (by rfl) ?_; (try simp only [Act.put, List.setIfInBounds_toArray, List.set_cons_zero, List.set_cons_succ]))))
    refine hw_step (by rfl) ?_
    go_wp2_with (go_at_call 29; refine (specVolumeDir_c _ HSy.out HTy.out hpp).mono ?_; rintro e wz ⟨uz, rfl, ⟨us, ut, rfl, hO, hT⟩, hez⟩)
    have EZ := Ey.extend hez
    (try refine ⟨⟨(HK.out _ EZ).1, (HK.out _ EZ).2.1⟩, ?_⟩)
    have hsm := Lib.hid (small_put s t (dirIt pp))
    obtain ⟨A8, c8, h8⟩ := hO.form
    obtain ⟨A9, c9, h9, -⟩ := id hT
    subst h8
    subst h9
    have hwy : w.heap.size ≤ wy.heap.size := (HE3.out.trans Ey).size
    have HOz := Lib.hid (hO.weak hwy fun _ _ _ gg => gg.keep hwy (fun _ _ _ => rfl))
    have HTz := Lib.hid (hT.keep hwy (fun _ _ _ => rfl))
    have HRz := Lib.hid (HRy.out.ext hez)
    clear hO hT hez
    unfold Small2 at hsm
    generalize (volPut s t (dirIt pp)).isSome = b9b at *
    generalize ((volPut s t (dirIt pp)).elim [] (·.1)) = s8 at *
    generalize ((volPut s t (dirIt pp)).elim [] (·.2)) = t8 at *
    generalize hn8 : s8.length = n8 at *
    generalize hn9 : t8.length = n9 at *
    have Hn8 := Lib.hid hn8
    have Hn9 := Lib.hid hn9
    clear hn8 hn9
    have b9 := (HK.out _ EZ).2.2
    have c90 := b9.cell 0; have c91 := b9.cell 1; have f90 := b9.frozen 0; have f91 := b9.frozen 1
    simp at c90 c91
    (repeat (first | (apply hw_read (by rfl) (by rfl); (· (intro W hW; (try dsimp only at hW); go_simp; (first | done | rfl | (rw [if_pos] <;> first | omega | rfl)))); (try simp only [Act.put, List.setIfInBounds_toArray, List.set_cons_zero, List.set_cons_succ])) | (refine hw_skip (by rfl) (by rfl) ?_; (try simp only [Act.put, List.setIfInBounds_toArray, List.set_cons_zero, List.set_cons_succ]))))
    (refine hw_nil ?_; (try simp only [List.drop_succ_cons, List.drop_zero]))
    go_wp2
    refine NoPanic.normal ?_
    (try dsimp only [Exit.then])
    go_wp2
    obtain ⟨p1, p2, -, -⟩ := put_two (a := .slice A8 n8 c8) (b := .slice A9 n9 c9) b9
    have z0 := p1.cell 0; have z1 := p1.cell 1
    simp at z0 z1
    have hES := ((HE3.out.trans EZ).setNew (p := ⟨w.heap.size + 1, 0, none⟩) (by show _ ≤ w.heap.size + 1; omega) (.slice A8 n8 c8)).setNew (p := ⟨w.heap.size + 1, 1, none⟩) (by show _ ≤ w.heap.size + 1; omega) (.slice A9 n9 c9)
    refine bodyPost_ret (v := .tuple #[.agg #[.slice A8 n8 c8, .slice A9 n9 c9], .bool b9b]) (by simp [results, Tryd.results19, go_sem, z0, z1]) rfl ⟨_, _, _, _, _, _, rfl, HOz.out.keepT p2 (by decide) (fun _ _ _ gg => gg.keepT p2 (by decide)), HTz.out.keepT p2 (by decide) (by decide), by rw [Hn8.out]; exact hsm.out.1, by rw [Hn9.out]; exact hsm.out.2, HRz.out.keepT p2 (by decide) ((HE3.out.trans EZ).low hES hrb), by omega, by omega, hES⟩
  · have e0 : (v3 == 0) = false := by rw [beq_eq_false_iff_ne]; exact h0
    by_cases h1 : v3 = 1
    · subst h1
      go_wp2
      refine wp_region_hold (fun W => W.cell? ⟨w.heap.size, 0, none⟩ = some (.slice A s.length c) ∧ W.cell? ⟨w.heap.size, 1, none⟩ = some (.slice A2 t.length c2)) 7 [(0, true), (1, true), (2, false), (3, false), (4, false), (5, true), (6, true)] (by kernel_rfl) (by kernel_rfl) ?_ ?_
      · exact ⟨(HK.out _ ((Ext.refl _).drew.toR rb)).1, (HK.out _ ((Ext.refl _).drew.toR rb)).2.1⟩
      (repeat (first | (apply hw_read (by rfl) (by rfl); (· (intro W hW; (try dsimp only at hW); go_simp; (first | done | rfl | (rw [if_pos] <;> first | omega | rfl)))); (try simp only [Act.put, List.setIfInBounds_toArray, List.set_cons_zero, List.set_cons_succ])) | (refine hw_skip (by rfl) (by rfl) ?_; (try simp only [Act.put, List.setIfInBounds_toArray, List.set_cons_zero, List.set_cons_succ]))))
      refine hw_step (by rfl) ?_
      go_wp2
      (try refine ⟨⟨(HK.out _ (((Ext.refl _).drew.alloc _).toR rb)).1, (HK.out _ (((Ext.refl _).drew.alloc _).toR rb)).2.1⟩, ?_⟩)
      refine hw_step (by rfl) ?_
      go_wp2_with (go_at_call 30; refine (of_c (HR3.out.ext ((Ext.refl _).drew.alloc _)) (by omega) (strs_lit (w := w3.drew) (ss := [⟨#[97]⟩, ⟨#[98]⟩, ⟨#[97, 47, 120]⟩]) (by decide) (by decide)) (by decide) (by decide)).mono ?_; rintro e wy ⟨pp, qy, rfl, hpp, hRy, hq1, hq2, hey⟩)
      have Ey : ExtR rb w3 wy := (((Ext.refl w3).drew.alloc _).toR rb).trans hey
      (try refine ⟨⟨(HK.out _ Ey).1, (HK.out _ Ey).2.1⟩, ?_⟩)
      have hky := HR3.out.keepsT Ey
      have HSy := Lib.hid (HS3.out.keepT hky (by decide) (by decide))
      have HTy := Lib.hid (HT3.out.keepT hky (by decide) (by decide))
      have HRy := Lib.hid hRy
      clear hRy hey hky
      (repeat (first | (apply hw_read (by rfl) (by rfl); (· (intro W hW; (try dsimp only at hW); go_simp; (first | done | rfl | (rw [if_pos] <;> first | omega | rfl)))); (try simp only [Act.put, List.setIfInBounds_toArray, List.set_cons_zero, List.set_cons_succ])) | (refine hw_skip (by rfl) (by rfl) ?_; (try simp only [Act.put, List.setIfInBounds_toArray, List.set_cons_zero, List.set_cons_succ]))))
      refine hw_step (by rfl) ?_
      go_wp2_with (go_at_call 29; refine (specVolumeDir_c _ HSy.out HTy.out hpp).mono ?_; rintro e wz ⟨uz, rfl, ⟨us, ut, rfl, hO, hT⟩, hez⟩)
      have EZ := Ey.extend hez
      (try refine ⟨⟨(HK.out _ EZ).1, (HK.out _ EZ).2.1⟩, ?_⟩)
      have hsm := Lib.hid (small_put s t (dirIt pp))
      obtain ⟨A8, c8, h8⟩ := hO.form
      obtain ⟨A9, c9, h9, -⟩ := id hT
      subst h8
      subst h9
      have hwy : w.heap.size ≤ wy.heap.size := (HE3.out.trans Ey).size
      have HOz := Lib.hid (hO.weak hwy fun _ _ _ gg => gg.keep hwy (fun _ _ _ => rfl))
      have HTz := Lib.hid (hT.keep hwy (fun _ _ _ => rfl))
      have HRz := Lib.hid (HRy.out.ext hez)
      clear hO hT hez
      unfold Small2 at hsm
      generalize (volPut s t (dirIt pp)).isSome = b9b at *
      generalize ((volPut s t (dirIt pp)).elim [] (·.1)) = s8 at *
      generalize ((volPut s t (dirIt pp)).elim [] (·.2)) = t8 at *
      generalize hn8 : s8.length = n8 at *
      generalize hn9 : t8.length = n9 at *
      have Hn8 := Lib.hid hn8
      have Hn9 := Lib.hid hn9
      clear hn8 hn9
      have b9 := (HK.out _ EZ).2.2
      have c90 := b9.cell 0; have c91 := b9.cell 1; have f90 := b9.frozen 0; have f91 := b9.frozen 1
      simp at c90 c91
      (repeat (first | (apply hw_read (by rfl) (by rfl); (· (intro W hW; (try dsimp only at hW); go_simp; (first | done | rfl | (rw [if_pos] <;> first | omega | rfl)))); (try simp only [Act.put, List.setIfInBounds_toArray, List.set_cons_zero, List.set_cons_succ])) | (refine hw_skip (by rfl) (by rfl) ?_; (try simp only [Act.put, List.setIfInBounds_toArray, List.set_cons_zero, List.set_cons_succ]))))
      (refine hw_nil ?_; (try simp only [List.drop_succ_cons, List.drop_zero]))
      go_wp2
      refine NoPanic.normal ?_
      (try dsimp only [Exit.then])
      go_wp2
      obtain ⟨p1, p2, -, -⟩ := put_two (a := .slice A8 n8 c8) (b := .slice A9 n9 c9) b9
      have z0 := p1.cell 0; have z1 := p1.cell 1
      simp at z0 z1
      have hES := ((HE3.out.trans EZ).setNew (p := ⟨w.heap.size + 1, 0, none⟩) (by show _ ≤ w.heap.size + 1; omega) (.slice A8 n8 c8)).setNew (p := ⟨w.heap.size + 1, 1, none⟩) (by show _ ≤ w.heap.size + 1; omega) (.slice A9 n9 c9)
      refine bodyPost_ret (v := .tuple #[.agg #[.slice A8 n8 c8, .slice A9 n9 c9], .bool b9b]) (by simp [results, Tryd.results19, go_sem, z0, z1]) rfl ⟨_, _, _, _, _, _, rfl, HOz.out.keepT p2 (by decide) (fun _ _ _ gg => gg.keepT p2 (by decide)), HTz.out.keepT p2 (by decide) (by decide), by rw [Hn8.out]; exact hsm.out.1, by rw [Hn9.out]; exact hsm.out.2, HRz.out.keepT p2 (by decide) ((HE3.out.trans EZ).low hES hrb), by omega, by omega, hES⟩
    · have e1 : (v3 == 1) = false := by rw [beq_eq_false_iff_ne]; exact h1
      by_cases h2 : v3 = 2
      · subst h2
        go_wp2
        refine wp_region_hold (fun W => W.cell? ⟨w.heap.size, 0, none⟩ = some (.slice A s.length c) ∧ W.cell? ⟨w.heap.size, 1, none⟩ = some (.slice A2 t.length c2)) 7 [(0, true), (1, true), (2, false), (3, false), (4, false), (5, true), (6, true)] (by kernel_rfl) (by kernel_rfl) ?_ ?_
        · exact ⟨(HK.out _ ((Ext.refl _).drew.toR rb)).1, (HK.out _ ((Ext.refl _).drew.toR rb)).2.1⟩
        (repeat (first | (apply hw_read (by rfl) (by rfl); (· (intro W hW; (try dsimp only at hW); go_simp; (first | done | rfl | (rw [if_pos] <;> first | omega | rfl)))); (try simp only [Act.put, List.setIfInBounds_toArray, List.set_cons_zero, List.set_cons_succ])) | (refine hw_skip (by rfl) (by rfl) ?_; (try simp only [Act.put, List.setIfInBounds_toArray, List.set_cons_zero, List.set_cons_succ]))))
        refine hw_step (by rfl) ?_
        go_wp2
        (try refine ⟨⟨(HK.out _ (((Ext.refl _).drew.alloc _).toR rb)).1, (HK.out _ (((Ext.refl _).drew.alloc _).toR rb)).2.1⟩, ?_⟩)
        refine hw_step (by rfl) ?_
        go_wp2_with (go_at_call 30; refine (of_c (HR3.out.ext ((Ext.refl _).drew.alloc _)) (by omega) (strs_lit (w := w3.drew) (ss := [⟨#[97]⟩, ⟨#[98]⟩, ⟨#[97, 47, 120]⟩]) (by decide) (by decide)) (by decide) (by decide)).mono ?_; rintro e wy ⟨pp, qy, rfl, hpp, hRy, hq1, hq2, hey⟩)
        have Ey : ExtR rb w3 wy := (((Ext.refl w3).drew.alloc _).toR rb).trans hey
        (try refine ⟨⟨(HK.out _ Ey).1, (HK.out _ Ey).2.1⟩, ?_⟩)
        have hky := HR3.out.keepsT Ey
        have HSy := Lib.hid (HS3.out.keepT hky (by decide) (by decide))
        have HTy := Lib.hid (HT3.out.keepT hky (by decide) (by decide))
        have HRy := Lib.hid hRy
        clear hRy hey hky
        (repeat (first | (apply hw_read (by rfl) (by rfl); (· (intro W hW; (try dsimp only at hW); go_simp; (first | done | rfl | (rw [if_pos] <;> first | omega | rfl)))); (try simp only [Act.put, List.setIfInBounds_toArray, List.set_cons_zero, List.set_cons_succ])) | (refine hw_skip (by rfl) (by rfl) ?_; (try simp only [Act.put, List.setIfInBounds_toArray, List.set_cons_zero, List.set_cons_succ]))))
        refine hw_step (by rfl) ?_
        go_wp2_with (go_at_call 29; refine (specVolumeDir_c _ HSy.out HTy.out hpp).mono ?_; rintro e wz ⟨uz, rfl, ⟨us, ut, rfl, hO, hT⟩, hez⟩)
        have EZ := Ey.extend hez
        (try refine ⟨⟨(HK.out _ EZ).1, (HK.out _ EZ).2.1⟩, ?_⟩)
        have hsm := Lib.hid (small_put s t (dirIt pp))
        obtain ⟨A8, c8, h8⟩ := hO.form
        obtain ⟨A9, c9, h9, -⟩ := id hT
        subst h8
        subst h9
        have hwy : w.heap.size ≤ wy.heap.size := (HE3.out.trans Ey).size
        have HOz := Lib.hid (hO.weak hwy fun _ _ _ gg => gg.keep hwy (fun _ _ _ => rfl))
        have HTz := Lib.hid (hT.keep hwy (fun _ _ _ => rfl))
        have HRz := Lib.hid (HRy.out.ext hez)
        clear hO hT hez
        unfold Small2 at hsm
        generalize (volPut s t (dirIt pp)).isSome = b9b at *
        generalize ((volPut s t (dirIt pp)).elim [] (·.1)) = s8 at *
        generalize ((volPut s t (dirIt pp)).elim [] (·.2)) = t8 at *
        generalize hn8 : s8.length = n8 at *
        generalize hn9 : t8.length = n9 at *
        have Hn8 := Lib.hid hn8
        have Hn9 := Lib.hid hn9
        clear hn8 hn9
        have b9 := (HK.out _ EZ).2.2
        have c90 := b9.cell 0; have c91 := b9.cell 1; have f90 := b9.frozen 0; have f91 := b9.frozen 1
        simp at c90 c91
        (repeat (first | (apply hw_read (by rfl) (by rfl); (· (intro W hW; (try dsimp only at hW); go_simp; (first | done | rfl | (rw [if_pos] <;> first | omega | rfl)))); (try simp only [Act.put, List.setIfInBounds_toArray, List.set_cons_zero, List.set_cons_succ])) | (refine hw_skip (by rfl) (by rfl) ?_; (try simp only [Act.put, List.setIfInBounds_toArray, List.set_cons_zero, List.set_cons_succ]))))
        (refine hw_nil ?_; (try simp only [List.drop_succ_cons, List.drop_zero]))
        go_wp2
        refine NoPanic.normal ?_
        (try dsimp only [Exit.then])
        go_wp2
        obtain ⟨p1, p2, -, -⟩ := put_two (a := .slice A8 n8 c8) (b := .slice A9 n9 c9) b9
        have z0 := p1.cell 0; have z1 := p1.cell 1
        simp at z0 z1
        have hES := ((HE3.out.trans EZ).setNew (p := ⟨w.heap.size + 1, 0, none⟩) (by show _ ≤ w.heap.size + 1; omega) (.slice A8 n8 c8)).setNew (p := ⟨w.heap.size + 1, 1, none⟩) (by show _ ≤ w.heap.size + 1; omega) (.slice A9 n9 c9)
        refine bodyPost_ret (v := .tuple #[.agg #[.slice A8 n8 c8, .slice A9 n9 c9], .bool b9b]) (by simp [results, Tryd.results19, go_sem, z0, z1]) rfl ⟨_, _, _, _, _, _, rfl, HOz.out.keepT p2 (by decide) (fun _ _ _ gg => gg.keepT p2 (by decide)), HTz.out.keepT p2 (by decide) (by decide), by rw [Hn8.out]; exact hsm.out.1, by rw [Hn9.out]; exact hsm.out.2, HRz.out.keepT p2 (by decide) ((HE3.out.trans EZ).low hES hrb), by omega, by omega, hES⟩
      · have e2 : (v3 == 2) = false := by rw [beq_eq_false_iff_ne]; exact h2
        by_cases h3 : v3 = 3
        · subst h3
          go_wp2
          refine wp_region_hold (fun W => W.cell? ⟨w.heap.size, 0, none⟩ = some (.slice A s.length c) ∧ W.cell? ⟨w.heap.size, 1, none⟩ = some (.slice A2 t.length c2)) 6 [(0, true), (1, true), (2, false), (3, false), (4, true), (5, true)] (by kernel_rfl) (by kernel_rfl) ?_ ?_
          · exact ⟨(HK.out _ ((Ext.refl _).drew.toR rb)).1, (HK.out _ ((Ext.refl _).drew.toR rb)).2.1⟩
          (repeat (first | (apply hw_read (by rfl) (by rfl); (· (intro W hW; (try dsimp only at hW); go_simp; (first | done | rfl | (rw [if_pos] <;> first | omega | rfl)))); (try simp only [Act.put, List.setIfInBounds_toArray, List.set_cons_zero, List.set_cons_succ])) | (refine hw_skip (by rfl) (by rfl) ?_; (try simp only [Act.put, List.setIfInBounds_toArray, List.set_cons_zero, List.set_cons_succ]))))
          refine hw_step (by rfl) ?_
          go_wp2_with (go_at_call 32; refine (l91Path_c (HR3.out.ext (Ext.refl _).drew) (by omega) (HR3.out.ext (Ext.refl _).drew).lt).mono ?_; rintro e wy ⟨pp, qy, rfl, hpp, hRy, hq1, hq2, hey⟩)
          have Ey : ExtR rb w3 wy := ((Ext.refl w3).drew.toR rb).trans hey
          (try refine ⟨⟨(HK.out _ Ey).1, (HK.out _ Ey).2.1⟩, ?_⟩)
          have hky := HR3.out.keepsT Ey
          have HSy := Lib.hid (HS3.out.keepT hky (by decide) (by decide))
          have HTy := Lib.hid (HT3.out.keepT hky (by decide) (by decide))
          have HRy := Lib.hid hRy
          clear hRy hey hky
          (repeat (first | (apply hw_read (by rfl) (by rfl); (· (intro W hW; (try dsimp only at hW); go_simp; (first | done | rfl | (rw [if_pos] <;> first | omega | rfl)))); (try simp only [Act.put, List.setIfInBounds_toArray, List.set_cons_zero, List.set_cons_succ])) | (refine hw_skip (by rfl) (by rfl) ?_; (try simp only [Act.put, List.setIfInBounds_toArray, List.set_cons_zero, List.set_cons_succ]))))
          refine hw_step (by rfl) ?_
          go_wp2_with (go_at_call 31; refine (specVolumeDrop_c _ HSy.out HTy.out).mono ?_; rintro e wz ⟨uz, rfl, ⟨us, ut, rfl, hO, hT⟩, hez⟩)
          have EZ := Ey.extend hez
          (try refine ⟨⟨(HK.out _ EZ).1, (HK.out _ EZ).2.1⟩, ?_⟩)
          have hsm := Lib.hid (small_drop s t pp)
          obtain ⟨A8, c8, h8⟩ := hO.form
          obtain ⟨A9, c9, h9, -⟩ := id hT
          subst h8
          subst h9
          have hwy : w.heap.size ≤ wy.heap.size := (HE3.out.trans Ey).size
          have HOz := Lib.hid (hO.weak hwy fun _ _ _ gg => gg.keep hwy (fun _ _ _ => rfl))
          have HTz := Lib.hid (hT.keep hwy (fun _ _ _ => rfl))
          have HRz := Lib.hid (HRy.out.ext hez)
          clear hO hT hez
          unfold Small2 at hsm
          generalize (volDrop s t pp).isSome = b9b at *
          generalize ((volDrop s t pp).elim [] (·.1)) = s8 at *
          generalize ((volDrop s t pp).elim [] (·.2)) = t8 at *
          generalize hn8 : s8.length = n8 at *
          generalize hn9 : t8.length = n9 at *
          have Hn8 := Lib.hid hn8
          have Hn9 := Lib.hid hn9
          clear hn8 hn9
          have b9 := (HK.out _ EZ).2.2
          have c90 := b9.cell 0; have c91 := b9.cell 1; have f90 := b9.frozen 0; have f91 := b9.frozen 1
          simp at c90 c91
          (repeat (first | (apply hw_read (by rfl) (by rfl); (· (intro W hW; (try dsimp only at hW); go_simp; (first | done | rfl | (rw [if_pos] <;> first | omega | rfl)))); (try simp only [Act.put, List.setIfInBounds_toArray, List.set_cons_zero, List.set_cons_succ])) | (refine hw_skip (by rfl) (by rfl) ?_; (try simp only [Act.put, List.setIfInBounds_toArray, List.set_cons_zero, List.set_cons_succ]))))
          (refine hw_nil ?_; (try simp only [List.drop_succ_cons, List.drop_zero]))
          go_wp2
          refine NoPanic.normal ?_
          (try dsimp only [Exit.then])
          go_wp2
          obtain ⟨p1, p2, -, -⟩ := put_two (a := .slice A8 n8 c8) (b := .slice A9 n9 c9) b9
          have z0 := p1.cell 0; have z1 := p1.cell 1
          simp at z0 z1
          have hES := ((HE3.out.trans EZ).setNew (p := ⟨w.heap.size + 1, 0, none⟩) (by show _ ≤ w.heap.size + 1; omega) (.slice A8 n8 c8)).setNew (p := ⟨w.heap.size + 1, 1, none⟩) (by show _ ≤ w.heap.size + 1; omega) (.slice A9 n9 c9)
          refine bodyPost_ret (v := .tuple #[.agg #[.slice A8 n8 c8, .slice A9 n9 c9], .bool b9b]) (by simp [results, Tryd.results19, go_sem, z0, z1]) rfl ⟨_, _, _, _, _, _, rfl, HOz.out.keepT p2 (by decide) (fun _ _ _ gg => gg.keepT p2 (by decide)), HTz.out.keepT p2 (by decide) (by decide), by rw [Hn8.out]; exact hsm.out.1, by rw [Hn9.out]; exact hsm.out.2, HRz.out.keepT p2 (by decide) ((HE3.out.trans EZ).low hES hrb), by omega, by omega, hES⟩
        · have e3 : (v3 == 3) = false := by rw [beq_eq_false_iff_ne]; exact h3
          go_wp2_with fail
          refine (of_c (HR3.out.ext ((Ext.refl _).alloc _)) (by omega) (strs_lit (w := w3) (ss := [⟨#[99]⟩, ⟨#[97, 47, 121]⟩, ⟨#[98, 47, 120]⟩, ⟨#[97, 47, 120, 47, 112]⟩, ⟨#[100]⟩]) (by decide) (by decide)) (by decide) (by decide)).mono ?_
          rintro e w4 ⟨pp, q4, rfl, hpp, hR4, hq41, hq42, he4⟩
          have E4 : ExtR rb w3 w4 := (((Ext.refl w3).alloc _).toR rb).trans he4
          have HR4 := Lib.hid hR4
          have hk4 := HR3.out.keepsT E4
          have HS4 := Lib.hid (HS3.out.keepT hk4 (by decide) (by decide))
          have HT4 := Lib.hid (HT3.out.keepT hk4 (by decide) (by decide))
          clear hR4 he4 hk4
          go_wp2
          refine wp_region_hold (fun W => W.cell? ⟨w.heap.size, 0, none⟩ = some (.slice A s.length c) ∧ W.cell? ⟨w.heap.size, 1, none⟩ = some (.slice A2 t.length c2)) 7 [(0, true), (1, true), (2, true), (3, false), (4, false), (5, true), (6, true)] (by kernel_rfl) (by kernel_rfl) ?_ ?_
          · exact ⟨(HK.out _ (E4.extend (Ext.refl _).drew)).1, (HK.out _ (E4.extend (Ext.refl _).drew)).2.1⟩
          (repeat (first | (apply hw_read (by rfl) (by rfl); (· (intro W hW; (try dsimp only at hW); go_simp; (first | done | rfl | (rw [if_pos] <;> first | omega | rfl)))); (try simp only [Act.put, List.setIfInBounds_toArray, List.set_cons_zero, List.set_cons_succ])) | (refine hw_skip (by rfl) (by rfl) ?_; (try simp only [Act.put, List.setIfInBounds_toArray, List.set_cons_zero, List.set_cons_succ]))))
          refine hw_step (by rfl) ?_
          go_wp2_with (go_at_call 34; refine (l91File_c (HR4.out.ext (Ext.refl _).drew) (by omega)).mono ?_; rintro e wy ⟨vb, bs, qy, rfl, hIb, hb33, hRy, hq1, hq2, hey⟩)
          have Ey4 : ExtR rb w4 wy := ((Ext.refl w4).drew.toR rb).trans hey
          have Ey := E4.trans Ey4
          (try refine ⟨⟨(HK.out _ Ey).1, (HK.out _ Ey).2.1⟩, ?_⟩)
          have hky := HR4.out.keepsT Ey4
          have HSy := Lib.hid (HS4.out.keepT hky (by decide) (by decide))
          have HTy := Lib.hid (HT4.out.keepT hky (by decide) (by decide))
          have HRy := Lib.hid hRy
          have HBy := Lib.hid hIb
          obtain ⟨Ab, cb, rfl, -⟩ := hIb
          clear hRy hey hky
          (repeat (first | (apply hw_read (by rfl) (by rfl); (· (intro W hW; (try dsimp only at hW); go_simp; (first | done | rfl | (rw [if_pos] <;> first | omega | rfl)))); (try simp only [Act.put, List.setIfInBounds_toArray, List.set_cons_zero, List.set_cons_succ])) | (refine hw_skip (by rfl) (by rfl) ?_; (try simp only [Act.put, List.setIfInBounds_toArray, List.set_cons_zero, List.set_cons_succ]))))
          refine hw_step (by rfl) ?_
          go_wp2_with (go_at_call 33; refine (specVolumeWrite_c _ HSy.out HTy.out HBy.out hpp).mono ?_; rintro e wz ⟨uz, rfl, ⟨us, ut, rfl, hO, hT⟩, hez⟩)
          have EZ := Ey.extend hez
          (try refine ⟨⟨(HK.out _ EZ).1, (HK.out _ EZ).2.1⟩, ?_⟩)
          have hsm := Lib.hid (small_write s t pp bs)
          obtain ⟨A8, c8, h8⟩ := hO.form
          obtain ⟨A9, c9, h9, -⟩ := id hT
          subst h8
          subst h9
          have hwy : w.heap.size ≤ wy.heap.size := (HE3.out.trans Ey).size
          have HOz := Lib.hid (hO.weak hwy fun _ _ _ gg => gg.keep hwy (fun _ _ _ => rfl))
          have HTz := Lib.hid (hT.keep hwy (fun _ _ _ => rfl))
          have HRz := Lib.hid (HRy.out.ext hez)
          clear hO hT hez
          unfold Small2 at hsm
          generalize (volWrite s t pp bs).isSome = b9b at *
          generalize ((volWrite s t pp bs).elim [] (·.1)) = s8 at *
          generalize ((volWrite s t pp bs).elim [] (·.2)) = t8 at *
          generalize hn8 : s8.length = n8 at *
          generalize hn9 : t8.length = n9 at *
          have Hn8 := Lib.hid hn8
          have Hn9 := Lib.hid hn9
          clear hn8 hn9
          have b9 := (HK.out _ EZ).2.2
          have c90 := b9.cell 0; have c91 := b9.cell 1; have f90 := b9.frozen 0; have f91 := b9.frozen 1
          simp at c90 c91
          (repeat (first | (apply hw_read (by rfl) (by rfl); (· (intro W hW; (try dsimp only at hW); go_simp; (first | done | rfl | (rw [if_pos] <;> first | omega | rfl)))); (try simp only [Act.put, List.setIfInBounds_toArray, List.set_cons_zero, List.set_cons_succ])) | (refine hw_skip (by rfl) (by rfl) ?_; (try simp only [Act.put, List.setIfInBounds_toArray, List.set_cons_zero, List.set_cons_succ]))))
          (refine hw_nil ?_; (try simp only [List.drop_succ_cons, List.drop_zero]))
          go_wp2
          refine NoPanic.normal ?_
          (try dsimp only [Exit.then])
          go_wp2
          obtain ⟨p1, p2, -, -⟩ := put_two (a := .slice A8 n8 c8) (b := .slice A9 n9 c9) b9
          have z0 := p1.cell 0; have z1 := p1.cell 1
          simp at z0 z1
          have hES := ((HE3.out.trans EZ).setNew (p := ⟨w.heap.size + 1, 0, none⟩) (by show _ ≤ w.heap.size + 1; omega) (.slice A8 n8 c8)).setNew (p := ⟨w.heap.size + 1, 1, none⟩) (by show _ ≤ w.heap.size + 1; omega) (.slice A9 n9 c9)
          refine bodyPost_ret (v := .tuple #[.agg #[.slice A8 n8 c8, .slice A9 n9 c9], .bool b9b]) (by simp [results, Tryd.results19, go_sem, z0, z1]) rfl ⟨_, _, _, _, _, _, rfl, HOz.out.keepT p2 (by decide) (fun _ _ _ gg => gg.keepT p2 (by decide)), HTz.out.keepT p2 (by decide) (by decide), by rw [Hn8.out]; exact hsm.out.1, by rw [Hn9.out]; exact hsm.out.2, HRz.out.keepT p2 (by decide) ((HE3.out.trans EZ).low hES hrb), by omega, by omega, hES⟩
end Go.Sf

/-! A volume is drawn. -/
namespace Go.Sf
open Go Go.RowKit Go.Proofs
/-- a drawn volume, small -/
def DrewV (rb : Nat) (w : World) (q : Int) (e : Ending) (w' : World) : Prop := ∃ us ut s t q', e = .returned (.agg #[us, ut]) ∧ Hds w.heap.size w' us s ∧ Its w.heap.size w' ut t ∧ s.length ≤ 16 ∧ t.length ≤ 12 ∧ Rd rb w' q' ∧ q ≤ q' ∧ q' ≤ q + 2000 ∧ ExtR rb w w'
set_option maxRecDepth 8000 in
set_option maxHeartbeats 4000000 in
theorem l91Volume_c {rb : Nat} {w : World} {q : Int} (h : Rd rb w q) (hq : q ≤ 100000000) : Calls Tryd.prog 9 #[.pointer (some ⟨rb, 0, none⟩)] w (DrewV rb w q) := by
  have H := Lib.hid h
  have hrb := h.lt
  clear h
  have hbr := Lib.hid ((Blk.new w 26 #[.slice none 0 0, .slice none 0 0]).alloc (.cells #[.slice none 0 0, .slice none 0 0] 26))
  have hbv : Hid (Blk ((w.alloc (.cells #[.slice none 0 0, .slice none 0 0] 26)).alloc (.cells #[.slice none 0 0, .slice none 0 0] 26)) (w.heap.size + 1) 26 #[.slice none 0 0, .slice none 0 0]) := Lib.hid (by
    have := Blk.new (w.alloc (.cells #[.slice none 0 0, .slice none 0 0] 26)) 26 #[.slice none 0 0, .slice none 0 0]
    simpa using this)
  have e0 : Ext w ((w.alloc (.cells #[.slice none 0 0, .slice none 0 0] 26)).alloc (.cells #[.slice none 0 0, .slice none 0 0] 26)) := ((Ext.refl w).alloc _).alloc _
  have hsz : w.heap.size + 2 ≤ ((w.alloc (.cells #[.slice none 0 0, .slice none 0 0] 26)).alloc (.cells #[.slice none 0 0, .slice none 0 0] 26)).heap.size := by simp
  go_enter Tryd.func9, Tryd.ntmps9
  go_wp2_with fail
  generalize (w.alloc (.cells #[.slice none 0 0, .slice none 0 0] 26)).alloc (.cells #[.slice none 0 0, .slice none 0 0] 26) = w2 at *
  have hR2 := H.out.ext e0
  refine (pick_c 7 hR2 (by omega) (by omega)).mono ?_
  rintro e w3 ⟨v3, rfl, h30, h37, -, hR3, he3⟩
  have h37 := h37 (by omega)
  have HE3 := Lib.hid ((e0.toR rb).trans he3)
  have HR3 := Lib.hid hR3
  have HV3 := Lib.hid (he3.blk hbv.out (by omega))
  have HZ3 := Lib.hid (he3.blk hbr.out (by omega))
  have hw1 : IntKind.i64.wrap (2 + v3) = 2 + v3 := IntWalk.i64_in _ (by omega)
  obtain ⟨v3, rfl⟩ := Int.eq_ofNat_of_zero_le h30
  have hsz3 : w.heap.size + 2 ≤ w3.heap.size := by have := he3.size; omega
  clear hR2 hR3 he3 e0 hbr hbv
  go_wp2
  go_loopw [5] (fun i wr => ∃ (k : Nat) (us ut : Value) (s : List Hd) (t : List It) (q' : Int), k ≤ 8 ∧ i = .int .i64 k ∧ Hid (Blk wr (w.heap.size + 1) 26 #[us, ut]) ∧ Hid (Blk wr w.heap.size 26 #[.slice none 0 0, .slice none 0 0]) ∧ OwnS w.heap.size 31 3 (EHd w.heap.size) wr us s ∧ Its w.heap.size wr ut t ∧ s.length ≤ 16 ∧ t.length ≤ 12 ∧ Rd rb wr q' ∧ q ≤ q' ∧ q' ≤ q + 1 + 110 * k ∧ ExtR rb w wr) (fun i _ => 9 - (RowKit.intOf i).toNat)
  case atStart => exact ⟨0, _, _, [], [], q + 1, by omega, rfl, HV3, HZ3, OwnS.nil _ _ _ _ _, SlOf.nil _ _ _ _ _, by simp, by simp, HR3.out, by omega, by omega, HE3.out⟩
  case round =>
    obtain ⟨k, us, ut, s, t, q', hk, rfl, hV, hZ, hO, hT, hs16, ht12, hR, hqa, hqb, hE⟩ := hrel
    have HO := Lib.hid hO; have HT := Lib.hid hT; have HR := Lib.hid hR; have HE := Lib.hid hE
    obtain ⟨Au, cu, rfl⟩ := hO.form
    obtain ⟨At, ct, rfl, -⟩ := hT
    have hHs := HO.out.isHds (by unfold lim; omega)
    have HHs := Lib.hid hHs
    have c0 := hV.out.cell 0; have c1 := hV.out.cell 1
    simp at c0 c1
    clear hO hR hE hHs
    by_cases hlt : (k : Int) < 2 + (v3 : Int)
    · go_wp2_with fail
      refine (l91Step_c HR.out (by omega) HHs.out HT.out).mono ?_
      rintro e w5 ⟨us5, ut5, b5, s5, t5, q5, rfl, hO5, hT5, hs5, ht5, hR5, hq51, hq52, hE5⟩
      obtain ⟨A5, c5, rfl⟩ := hO5.form
      obtain ⟨A6, c6, rfl, -⟩ := id hT5
      have hwr := HE.out.size
      have hkT := HR.out.keepsT hE5
      have eX := (Ext.refl w5).alloc (.cells #[.slice A5 s5.length c5, .slice A6 t5.length c6] 26)
      have HO5 := Lib.hid ((hO5.weak hwr fun _ _ _ gg => gg.keep hwr (fun _ _ _ => rfl)).ext (EHd_ok _) eX)
      have HT5 := Lib.hid ((hT5.keep hwr (fun _ _ _ => rfl)).ext eX)
      have HOo := Lib.hid ((HO.out.keepT hkT (by decide) fun _ _ _ gg => gg.keepT hkT (by decide)).ext (EHd_ok _) eX)
      have HTo := Lib.hid ((HT.out.keepT hkT (by decide) (by decide)).ext eX)
      have hV5 := (hE5.blk hV.out (by omega)).ext eX
      have hZ5 := (hE5.blk hZ.out (by omega)).ext eX
      have HV5 := Lib.hid hV5
      have HZ5 := Lib.hid hZ5
      have HR5 := Lib.hid (hR5.ext eX)
      have HE5 := Lib.hid ((HE.out.trans hE5).extend eX)
      have hxb := Blk.new w5 26 #[.slice A5 s5.length c5, .slice A6 t5.length c6]
      have x0 := hxb.cell 0; have x1 := hxb.cell 1
      have v0 := hV5.cell 0; have v1 := hV5.cell 1; have f0 := hV5.frozen 0; have f1 := hV5.frozen 1
      simp at x0 x1 v0 v1
      clear hO5 hT5 hkT hR5 hE5 eX hxb hV5 hZ5 c0 c1
      cases b5 with
      | true =>
        go_wp2_with fail
        obtain ⟨p1, p2, -, p4⟩ := put_two (a := .slice A5 s5.length c5) (b := .slice A6 t5.length c6) HV5.out
        have hz6 := Lib.hid ((p4 w.heap.size (by omega)).trans HZ5.out)
        have HES := Lib.hid ((HE5.out.setNew (p := ⟨w.heap.size + 1, 0, none⟩) (by show _ ≤ w.heap.size + 1; omega) (.slice A5 s5.length c5)).setNew (p := ⟨w.heap.size + 1, 1, none⟩) (by show _ ≤ w.heap.size + 1; omega) (.slice A6 t5.length c6))
        have HP1 := Lib.hid p1
        have HO6 := Lib.hid (HO5.out.keepT p2 (by decide) (fun _ _ _ gg => gg.keepT p2 (by decide)))
        have HT6 := Lib.hid (HT5.out.keepT p2 (by decide) (by decide))
        have HR6 := Lib.hid (HR5.out.keepT p2 (by decide) (HE5.out.low HES.out hrb))
        clear p1 p2 p4
        go_roundw
        case rel => exact ⟨k + 1, _, _, s5, t5, q5, by omega, by go_num, HP1, hz6, HO6.out, HT6.out, hs5, ht5, HR6.out, by omega, by omega, HES.out⟩
        case measure => simp [RowKit.intOf]; omega
      | false =>
        go_wp2_with fail
        go_roundw
        case rel => exact ⟨k + 1, _, _, s, t, q5, by omega, by go_num, HV5, HZ5, HOo.out, HTo.out, hs16, ht12, HR5.out, by omega, by omega, HE5.out⟩
        case measure => simp [RowKit.intOf]; omega
    · by_cases h0 : 0 < s.length
      · have h0' : (0 : Int) < (s.length : Int) := by omega
        go_wp2_with fail
        refine (pick_c 30 HR.out (by omega) (by omega)).mono ?_
        rintro e w5 ⟨v5, rfl, h50, h53, -, hR5, he5⟩
        have hkT := HR.out.keepsT he5
        have HO5 := Lib.hid (HO.out.keepT hkT (by decide) fun _ _ _ gg => gg.keepT hkT (by decide))
        have HT5 := Lib.hid (HT.out.keepT hkT (by decide) (by decide))
        have hV5 := he5.blk hV.out (by omega)
        have HV5 := Lib.hid hV5
        have HZ5 := Lib.hid (he5.blk hZ.out (by omega))
        have HE5 := Lib.hid (HE.out.trans he5)
        have HR5 := Lib.hid hR5
        have v0 := hV5.cell 0; have v1 := hV5.cell 1
        simp at v0 v1
        clear hkT hR5 he5 hV5 c0 c1
        by_cases h5 : v5 = 0
        · subst h5
          go_wp2
          refine wp_region_hold (fun W => W.cell? ⟨w.heap.size + 1, 0, none⟩ = some (.slice Au s.length cu)) 7 [(0, true), (1, true), (2, true), (3, true), (4, true), (5, true), (6, false)] (by kernel_rfl) (by kernel_rfl) ?_ ?_
          · exact v0
          (repeat (first | (apply hw_read (by rfl) (by rfl); (· (intro W hW; (try dsimp only at hW); go_simp; (first | done | rfl | (rw [if_pos] <;> first | omega | rfl)))); (try simp only [Act.put, List.setIfInBounds_toArray, List.set_cons_zero, List.set_cons_succ])) | (refine hw_skip (by rfl) (by rfl) ?_; (try simp only [Act.put, List.setIfInBounds_toArray, List.set_cons_zero, List.set_cons_succ]))))
          refine hw_step (by rfl) ?_
          go_wp2_with (go_at_call 18; refine (pick_c (s.length : Int) (HR5.out.ext (Ext.refl _).drew) (by omega) (by omega)).mono ?_; rintro e w7 ⟨v7, rfl, h70, h73, -, hR7, he7⟩)
          have h73 := h73 (by omega)
          obtain ⟨m, rfl⟩ := Int.eq_ofNat_of_zero_le h70
          have hE57 : ExtR rb w5 w7 := ((Ext.refl w5).drew.toR rb).trans he7
          have hV7 := hE57.blk HV5.out (by omega)
          have hvc := hV7.cell 0
          simp at hvc
          (try refine ⟨hvc, ?_⟩)
          have hkT := HR5.out.keepsT hE57
          have hO7 := HO5.out.keepT hkT (by decide) fun _ _ _ gg => gg.keepT hkT (by decide)
          have hT7 := HT5.out.keepT hkT (by decide) (by decide)
          have hZ7 := hE57.blk HZ5.out (by omega)
          have hE7 := HE5.out.trans hE57
          have hml : m < s.length := by omega
          obtain ⟨x, hx⟩ := get_of_lt hml
          obtain ⟨g, c7, hv7, hnc, hg, hcx, hfr, hq⟩ := hO7.setUses hx
          injection hv7 with q1 _ q2
          subst q1; subst q2
          obtain ⟨-, csx, hbx⟩ := hO7.block (g := g) rfl
          have hkS := KeepsT.set (i := m * 3 + 2) hbx (.int .i64 5) rfl
          have HO8 := Lib.hid ((hq 5 (by unfold inI; omega)).isHds (by simp; unfold lim; omega))
          have HT8 := Lib.hid (hT7.keepT hkS (by decide) (by decide))
          have HV8 := hkS _ _ _ (by decide) hV7
          have HZ8 := Lib.hid (hkS _ _ _ (by decide) hZ7)
          have HE8 := Lib.hid (hE7.setNew (p := ⟨g, m * 3 + 2, none⟩) hg (.int .i64 5))
          have HR8 := Lib.hid (hR7.keepT hkS (by decide) (hE7.low HE8.out hrb))
          have y0 := HV8.cell 0; have y1 := HV8.cell 1
          simp at y0 y1
          have hml' : (m : Int) < (s.length : Int) := by omega
          clear hR7 he7 hE57 hV7 hvc hkT hO7 hT7 hZ7 hE7 hq hkS hbx h73 v0 v1
          (repeat (first | (apply hw_read (by rfl) (by rfl); (· (intro W hW; (try dsimp only at hW); go_simp; (first | done | rfl | (rw [if_pos] <;> first | omega | rfl)))); (try simp only [Act.put, List.setIfInBounds_toArray, List.set_cons_zero, List.set_cons_succ])) | (refine hw_skip (by rfl) (by rfl) ?_; (try simp only [Act.put, List.setIfInBounds_toArray, List.set_cons_zero, List.set_cons_succ]))))
          (refine hw_nil ?_; (try simp only [List.drop_succ_cons, List.drop_zero]))
          go_wp2
          refine NoPanic.normal ?_
          (try dsimp only [Exit.then])
          generalize w7.setCell ⟨g, m * 3 + 2, none⟩ (.int .i64 5) = w8 at *
          have hz9 := HZ8.out
          have c90 := hz9.cell 0; have c91 := hz9.cell 1; have f90 := hz9.frozen 0; have f91 := hz9.frozen 1
          simp at c90 c91
          go_wp2
          obtain ⟨p1, p2, -, -⟩ := put_two (a := .slice (some ⟨g, 0, none⟩) s.length cu) (b := .slice At t.length ct) hz9
          have z0 := p1.cell 0; have z1 := p1.cell 1
          simp at z0 z1
          have hES := (HE8.out.setNew (p := ⟨w.heap.size, 0, none⟩) (by show _ ≤ w.heap.size; omega) (.slice (some ⟨g, 0, none⟩) s.length cu)).setNew (p := ⟨w.heap.size, 1, none⟩) (by show _ ≤ w.heap.size; omega) (.slice At t.length ct)
          refine bodyPost_ret (v := .agg #[.slice (some ⟨g, 0, none⟩) s.length cu, .slice At t.length ct]) (by simp [results, Tryd.results9, go_sem, z0, z1]) rfl ⟨.slice (some ⟨g, 0, none⟩) s.length cu, .slice At t.length ct, s.set m { x with uses := 5 }, t, _, rfl, HO8.out.keepT p2 (by decide) (by decide), HT8.out.keepT p2 (by decide) (by decide), by simpa using hs16, ht12, HR8.out.keepT p2 (by decide) (HE8.out.low hES hrb), by omega, by omega, hES⟩
        · have e5 : (v5 == 0) = false := by rw [beq_eq_false_iff_ne]; exact h5
          have HHs5 := Lib.hid (HO5.out.isHds (by unfold lim; omega))
          have hz9 := HZ5.out
          have c90 := hz9.cell 0; have c91 := hz9.cell 1; have f90 := hz9.frozen 0; have f91 := hz9.frozen 1
          simp at c90 c91
          go_wp2
          obtain ⟨p1, p2, -, -⟩ := put_two (a := .slice Au s.length cu) (b := .slice At t.length ct) hz9
          have z0 := p1.cell 0; have z1 := p1.cell 1
          simp at z0 z1
          have hES := (HE5.out.setNew (p := ⟨w.heap.size, 0, none⟩) (by show _ ≤ w.heap.size; omega) (.slice Au s.length cu)).setNew (p := ⟨w.heap.size, 1, none⟩) (by show _ ≤ w.heap.size; omega) (.slice At t.length ct)
          refine bodyPost_ret (v := .agg #[.slice Au s.length cu, .slice At t.length ct]) (by simp [results, Tryd.results9, go_sem, z0, z1]) rfl ⟨_, _, s, t, _, rfl, HHs5.out.keepT p2 (by decide) (by decide), HT5.out.keepT p2 (by decide) (by decide), by simpa using hs16, ht12, HR5.out.keepT p2 (by decide) (HE5.out.low hES hrb), by omega, by omega, hES⟩
      · have h0' : ¬ (0 : Int) < (s.length : Int) := by omega
        have hz9 := hZ.out
        have c90 := hz9.cell 0; have c91 := hz9.cell 1; have f90 := hz9.frozen 0; have f91 := hz9.frozen 1
        simp at c90 c91
        go_wp2
        obtain ⟨p1, p2, -, -⟩ := put_two (a := .slice Au s.length cu) (b := .slice At t.length ct) hz9
        have z0 := p1.cell 0; have z1 := p1.cell 1
        simp at z0 z1
        have hES := (HE.out.setNew (p := ⟨w.heap.size, 0, none⟩) (by show _ ≤ w.heap.size; omega) (.slice Au s.length cu)).setNew (p := ⟨w.heap.size, 1, none⟩) (by show _ ≤ w.heap.size; omega) (.slice At t.length ct)
        refine bodyPost_ret (v := .agg #[.slice Au s.length cu, .slice At t.length ct]) (by simp [results, Tryd.results9, go_sem, z0, z1]) rfl ⟨_, _, s, t, _, rfl, HHs.out.keepT p2 (by decide) (by decide), HT.out.keepT p2 (by decide) (by decide), by simpa using hs16, ht12, HR.out.keepT p2 (by decide) (HE.out.low hES hrb), by omega, by omega, hES⟩
end Go.Sf

/-! Volumes are drawn, with a path. -/
namespace Go.Sf
open Go Go.RowKit Go.Proofs
theorem Bys.ext {w w' : World} {v : Value} {xs : List Int} (h : Bys w v xs) (e : Ext w w') : Bys w' v xs := by
  obtain ⟨A, c, rfl, h1, h2, h3, h4⟩ := h
  exact ⟨A, c, rfl, h1, h2, h3, fun k x hx => let ⟨b, o, q1, q2, q3, q4⟩ := h4 k x hx; ⟨b, o, q1, Nat.lt_of_lt_of_le q2 e.size, e.cell q3, q4⟩⟩
/-- a drawn volume -/
def DrewVV (w : World) (e : Ending) (w' : World) : Prop := ∃ us ut s t, e = .returned (.agg #[us, ut]) ∧ Hds w.heap.size w' us s ∧ Its w.heap.size w' ut t ∧ s.length ≤ 16 ∧ t.length ≤ 12 ∧ Ext w w'
set_option maxRecDepth 8000 in
set_option maxHeartbeats 2000000 in
theorem DrawVolumeValid_c {v : Value} {xs : List Int} (w : World) (h : Bys w v xs) : Calls Tryd.prog 5 #[v] w (DrewVV w) := by
  have hbr := Lib.hid (Blk.new w 26 #[.slice none 0 0, .slice none 0 0])
  have e0 : Ext w (w.alloc (.cells #[.slice none 0 0, .slice none 0 0] 26)) := (Ext.refl w).alloc _
  have hsz : w.heap.size + 1 ≤ (w.alloc (.cells #[.slice none 0 0, .slice none 0 0] 26)).heap.size := by simp
  go_enter Tryd.func5, Tryd.ntmps5
  go_wp2_with fail
  generalize w.alloc (.cells #[.slice none 0 0, .slice none 0 0] 26) = w1 at *
  refine (l6Open_c w1 (h.ext e0)).mono ?_
  rintro e w2 ⟨rb, rfl, hrb, hrb1, hR, he2⟩
  have E2 := e0.trans he2
  have HR := Lib.hid hR
  have HZ := Lib.hid (hbr.out.ext he2)
  clear hR h hbr
  go_wp2_with fail
  refine (l91Volume_c HR.out (by omega)).mono ?_
  rintro e w3 ⟨us, ut, s, t, q3, rfl, hS, hT, hs16, ht12, hR3, hq1, hq2, hE3⟩
  obtain ⟨Au, cu, rfl, -⟩ := id hS
  obtain ⟨At, ct, rfl, -⟩ := id hT
  have hw2 := E2.size
  have HS := Lib.hid (hS.keep hw2 (fun _ _ _ => rfl)); have HT := Lib.hid (hT.keep hw2 (fun _ _ _ => rfl)); have HR3 := Lib.hid hR3
  have HZ3 := Lib.hid (hE3.blk HZ.out (by omega))
  have HE3 := Lib.hid hE3
  clear hS hT hR3 hE3 HR HZ
  have hz9 := HZ3.out
  have c90 := hz9.cell 0; have c91 := hz9.cell 1; have f90 := hz9.frozen 0; have f91 := hz9.frozen 1
  simp at c90 c91
  go_wp2
  obtain ⟨p1, p2, p3, -⟩ := put_two (a := .slice Au s.length cu) (b := .slice At t.length ct) hz9
  have z0 := p1.cell 0; have z1 := p1.cell 1
  simp at z0 z1
  refine bodyPost_ret (v := .agg #[.slice Au s.length cu, .slice At t.length ct]) (by simp [results, Tryd.results5, go_sem, z0, z1]) rfl ⟨_, _, s, t, rfl, HS.out.keepT p2 (by decide) (by decide), HT.out.keepT p2 (by decide) (by decide), hs16, ht12, p3 w (HE3.out.ext E2 (by omega)) (Nat.le_refl _)⟩
end Go.Sf
