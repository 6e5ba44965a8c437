/- Laws of drawn volumes: each block is used as often as files have it. -/
import Derived.Test.YtpldhlpegpgmcaaDoorHB
import Derived.Test.YtpldhlpegpgmcaaDoorHC
import Derived.Test.YtpldhlpegpgmcaaDoorGS
namespace Go.Sf
open Go Go.RowKit Go.Proofs
theorem vol_store {s : List Hd} {t : List It} (h : volOk s t = true) : ∀ x, x ∈ s → 1 ≤ x.uses ∧ x.uses ≤ 999 := fun x hx => by
  obtain ⟨h1, -, -, -⟩ := volOk_iff.1 h
  obtain ⟨k, hk⟩ := List.mem_iff_getElem?.1 hx
  have := hd_ok ((storeOk_iff.1 h1).2 k x hk).1
  omega
theorem vol_sum_k {s : List Hd} {t : List It} (h : volOk s t = true) (k : Nat) : 0 ≤ usesSum (s.take k) ∧ usesSum (s.take k) ≤ 15984 := by
  have h1 := usesSum_low (s := s.take k) fun x hx => vol_store h x (List.mem_of_mem_take hx)
  have h2 := (vol_small h).1
  have h3 : (s.take k).length ≤ s.length := by rw [List.length_take]; omega
  omega
theorem vol_ids {s : List Hd} {t : List It} (h : volOk s t = true) : ∀ x, x ∈ t → x.ids.length ≤ 4 := fun x hx => by
  obtain ⟨-, -, h1, -⟩ := volOk_iff.1 h
  exact (filesFit_iff.1 h1 x hx).1
theorem vol_len_k {s : List Hd} {t : List It} (h : volOk s t = true) (k : Nat) : idsLen (t.take k) ≤ 48 := by
  have h1 := idsLen_low (t := t.take k) fun x hx => vol_ids h x (List.mem_of_mem_take hx)
  have h2 := (vol_small h).2
  have h3 : (t.take k).length ≤ t.length := by rw [List.length_take]; omega
  omega
set_option maxHeartbeats 1000000 in
theorem FnVolumeUses_big {A : Option Addr} {n c : Nat} (w : World) (hn : 1048576 < n) (hm : n ≤ maxLen) : Calls Tryd.prog 4 #[.slice A n c] w (Ret (.bool true) w) := by
  unfold maxLen at hm
  have h : (1048576 : Int) < (n : Int) := by omega
  go_enter Tryd.func4, Tryd.ntmps4
  go_wp2
  go_ret
  exact ⟨rfl, Ext.refl w⟩
set_option maxRecDepth 8000 in
set_option maxHeartbeats 4000000 in
theorem FnVolumeUses_c {v : Value} {xs : List Int} (w : World) (h : Bys w v xs) (hm : ML w) (hl : xs.length ≤ 1048576) : Calls Tryd.prog 4 #[v] w (Ret (.bool true) w) := by
  have H := Lib.hid h
  obtain ⟨A0, c0, rfl, -⟩ := h
  have HM := Lib.hid hm; clear hm
  have hn : ¬ (1048576 : Int) < (xs.length : Int) := by omega
  go_enter Tryd.func4, Tryd.ntmps4
  go_wp2_with fail
  refine (DrawVolumeValid_c _ H.out).mono ?_
  rintro e w1 ⟨us, ut, s, t, rfl, hS, hT, hs16, ht12, he1⟩
  obtain ⟨A1, c1, rfl, hSs⟩ := id hS
  obtain ⟨A2, c2, rfl, hTs⟩ := id hT
  have HM1 := Lib.hid (HM.out.ext he1)
  have HS0 := Lib.hid hS
  obtain ⟨m, hm⟩ : ∃ n, s.length = n := ⟨_, rfl⟩
  obtain ⟨n, hn⟩ : ∃ n, t.length = n := ⟨_, rfl⟩
  have Hm := Lib.hid hm; have Hn := Lib.hid hn
  have hS2 : Hds w.heap.size w1 (.slice A1 m c1) s := by rw [← hm]; exact hS
  have hT2 : Its w.heap.size w1 (.slice A2 n c2) t := by rw [← hn]; exact hT
  rw [hm] at hs16; rw [hn] at ht12
  have HS := Lib.hid hS2; have HT := Lib.hid hT2; have HTs := Lib.hid hTs; have HSs := Lib.hid hSs
  clear hS hT hT2 hS2 hTs hSs HS0
  rw [hm, hn]
  clear hm hn
  go_wp2_with fail
  have hbx := Blk.new w1 26 #[.slice A1 m c1, .slice A2 n c2]
  have e1b : Ext w1 (w1.alloc (.cells #[.slice A1 m c1, .slice A2 n c2] 26)) := (Ext.refl _).alloc _
  obtain ⟨g1, hg1⟩ : ∃ g, w1.heap.size = g := ⟨_, rfl⟩
  rw [hg1] at hbx
  generalize hb1 : w1.alloc (.cells #[.slice A1 m c1, .slice A2 n c2] 26) = b1 at *
  have X1_0 := Lib.hid fun W (e : Ext b1 W) => hbx.at_ (i := 0) (u := .slice A1 m c1) rfl W e
  have X1_1 := Lib.hid fun W (e : Ext b1 W) => hbx.at_ (i := 1) (u := .slice A2 n c2) rfl W e
  clear hbx hb1
  have E1 := he1.trans e1b
  have CV : Hid (∀ W, Ext w1 W → Calls Tryd.prog 6 #[.agg #[.slice A1 m c1, .slice A2 n c2]] W (Ret (.bool (volOk s t)) W)) := Lib.hid fun W e => VolumeValid_c W (HS.out.ext e) (HT.out.ext e) (HM1.out.ext e)
  have CS : Hid (∀ W, Ext w1 W → Calls Tryd.prog 7 #[.agg #[.slice A1 m c1, .slice A2 n c2]] W (Ret (.bool (volOk s t)) W)) := Lib.hid fun W e => specVolumeValid_c W (HS.out.ext e) (HT.out.ext e)
  refine (CV.out b1 e1b).mono ?_
  rintro e w2 ⟨rfl, he2⟩
  have E2 := E1.trans he2
  have q0 := X1_0.out w2 he2; have q1 := X1_1.out w2 he2
  go_wp2_with fail
  refine (CS.out w2 (e1b.trans he2)).mono ?_
  rintro e w3 ⟨rfl, he3⟩
  have E3 := E2.trans he3
  have e13 := (e1b.trans he2).trans he3
  have X0 := Lib.hid fun W (e : Ext w3 W) => X1_0.out W ((he2.trans he3).trans e); have X1 := Lib.hid fun W (e : Ext w3 W) => X1_1.out W ((he2.trans he3).trans e)
  clear q0 q1 X1_0 X1_1 CV CS
  obtain ⟨b9, hb9⟩ : ∃ b, volOk s t = b := ⟨_, rfl⟩
  rw [hb9]
  have HB := Lib.hid hb9
  clear hb9
  cases b9 with
  | false =>
    (try (have x0 := X0.out w3 (Ext.refl _)))
    go_wp2
    go_ret
    exact ⟨rfl, E3⟩
  | true =>
    go_wp2_with fail
    go_loopw [6, 7] (fun v i wr => ∃ k : Nat, k ≤ m ∧ v = .int .i64 (usesSum (s.take k)) ∧ i = .int .i64 k ∧ Ext w3 wr) (fun _ i _ => m - (RowKit.intOf i).toNat)
    case atStart => exact ⟨0, by omega, rfl, rfl, Ext.refl _⟩
    case round =>
      obtain ⟨k, hk, rfl, rfl, he⟩ := hrel
      have x0 := X0.out wr he
      by_cases hlt : k < m
      · obtain ⟨x, hx⟩ := get_of_lt (l := s) (k := k) (by rw [Hm.out]; exact hlt)
        obtain ⟨b, o, u, rfl, -, -, -, -, hxu, -, -, q2⟩ := Hds.at_ HSs.out hx
        have p2 := q2 wr (e13.trans he)
        have hw : IntKind.i64.wrap (usesSum (s.take k) + x.uses) = usesSum (s.take (k + 1)) := by
          have h1 := vol_sum_k HB.out (k + 1)
          rw [usesSum_take hx] at h1 ⊢
          exact IntWalk.i64_in _ (by omega)
        have Hw := Lib.hid hw
        clear q2 hx hxu hw
        generalize hy : usesSum (s.take (k + 1)) = y at *
        have hw := Hw.out
        have Hy := Lib.hid hy
        clear hy Hw
        go_wp2
        go_roundw
        case rel => exact ⟨k + 1, by omega, by rw [Hy.out], by go_num, he⟩
        case measure => simp [RowKit.intOf]; omega
      · obtain rfl : k = m := by omega
        obtain ⟨y, hy⟩ : ∃ y, usesSum (s.take k) = y := ⟨_, rfl⟩
        rw [hy]
        have Hy : Hid (usesSum s = y) := Lib.hid (by rw [← hy, List.take_of_length_le (by rw [Hm.out]; exact Nat.le_refl _)])
        have Hy2 := Lib.hid (vol_sum_k HB.out k)
        rw [hy] at Hy2
        clear hy
        go_wp2
        go_loopw [6, 8] (fun v i wr' => ∃ j : Nat, j ≤ n ∧ v = .int .i64 (y - (idsLen (t.take j) : Int)) ∧ i = .int .i64 j ∧ Ext w3 wr') (fun _ i _ => n - (RowKit.intOf i).toNat)
        case atStart => exact ⟨0, by omega, by simp [idsLen], rfl, he⟩
        case round =>
          obtain ⟨j, hj, rfl, rfl, he'⟩ := hrel
          have x1 := X1.out _ he'
          by_cases hlt2 : j < n
          · obtain ⟨x, hx⟩ := get_of_lt (l := t) (k := j) (by rw [Hn.out]; exact hlt2)
            obtain ⟨b, o, u, rfl, -, -, -, hxi, -, -, q2⟩ := Its.at_ HTs.out hx
            obtain ⟨Ax, cx, rfl, -⟩ := hxi
            have p2 := q2 _ (e13.trans he')
            have hw : IntKind.i64.wrap (y - (idsLen (t.take j) : Int) - (x.ids.length : Int)) = y - (idsLen (t.take (j + 1)) : Int) := by
              have h1 := vol_len_k HB.out (j + 1)
              have h2 := Hy2.out
              rw [idsLen_take hx] at h1 ⊢
              rw [IntWalk.i64_in _ (by omega)]
              omega
            clear q2 hx
            go_wp2
            go_roundw
            case rel => exact ⟨j + 1, by omega, by first | rfl | rw [hw], by go_num, he'⟩
            case measure => simp [RowKit.intOf]; omega
          · obtain rfl : j = n := by omega
            have hz : y - (idsLen (t.take j) : Int) = 0 := by
              rw [List.take_of_length_le (by rw [Hn.out]; exact Nat.le_refl _), ← Hy.out, vol_sum HB.out]
              omega
            rw [hz]
            have x0 := X0.out _ he'
            have Cv := implStoreValid_c _ (HS.out.ext (e13.trans he'))
            rw [(volOk_iff.1 HB.out).1] at Cv
            go_wp2_with fail
            refine Cv.mono ?_
            rintro e w5 ⟨rfl, he5⟩
            go_wp2
            go_ret
            exact ⟨rfl, (E3.trans he').trans he5⟩
end Go.Sf
