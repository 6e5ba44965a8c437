/- Laws of drawn disks: each block is used as often as all trees have it. -/
import Derived.Test.YtdnnojghjnjnfaaGreatDoorHD
import Derived.Test.YtdnnojghjnjnfaaGreatDoorHK
import Derived.Test.YtdnnojghjnjnfaaGreatDoorGR
namespace Go.Sf
open Go Go.RowKit Go.Proofs
theorem disk_store {s : List Hd} {t : List It} {l : List Sn} (h : diskOk s t l = true) : ∀ x, x ∈ s → 1 ≤ x.uses ∧ x.uses ≤ 999 := fun x hx => by
  have hS := (disk_parts h).1
  obtain ⟨k, hk⟩ := List.mem_iff_getElem?.1 hx
  have := hd_ok (hS.2 k x hk).1
  omega
theorem disk_sum_k {s : List Hd} {t : List It} {l : List Sn} (h : diskOk s t l = true) (k : Nat) : 0 ≤ usesSum (s.take k) ∧ usesSum (s.take k) ≤ 15984 := by
  have h1 := usesSum_low (s := s.take k) fun x hx => disk_store h x (List.mem_of_mem_take hx)
  have h2 := (disk_small h).1
  have h3 : (s.take k).length ≤ s.length := by rw [List.length_take]; omega
  omega
theorem ids_take {t : List It} (ht : t.length ≤ 12) (h : ∀ x, x ∈ t → x.ids.length ≤ 4) (k : Nat) : idsLen (t.take k) ≤ 48 := by
  have h1 := idsLen_low (t := t.take k) fun x hx => h x (List.mem_of_mem_take hx)
  have h3 : (t.take k).length ≤ t.length := by rw [List.length_take]; omega
  omega
theorem disk_len_k {s : List Hd} {t : List It} {l : List Sn} (h : diskOk s t l = true) (k : Nat) : idsLen (t.take k) ≤ 48 :=
  ids_take (disk_small h).2.1 (fun x hx => ((disk_parts h).2.2.1 x hx).1) k
theorem disk_len_s {s : List Hd} {t : List It} {l : List Sn} (h : diskOk s t l = true) {y : Sn} (hy : y ∈ l) (k : Nat) : idsLen (y.tree.take k) ≤ 48 :=
  ids_take ((disk_small h).2.2.2 y hy) (fun x hx => (((disk_parts h).2.2.2.2 y hy).2.2 x hx).1) k
theorem disk_snaps_k {s : List Hd} {t : List It} {l : List Sn} (h : diskOk s t l = true) (k : Nat) : snapsLen (l.take k) ≤ 288 := by
  have h1 := snapsLen_low (l := l.take k) fun y hy => by
    have := disk_len_s h (List.mem_of_mem_take hy) y.tree.length
    rwa [List.take_of_length_le (Nat.le_refl _)] at this
  have h2 := (disk_small h).2.2.1
  have h3 : (l.take k).length ≤ l.length := by rw [List.length_take]; omega
  omega
set_option maxHeartbeats 1000000 in
theorem FnDiskUses_big {A : Option Addr} {n c : Nat} (w : World) (hn : 1048576 < n) (hm : n ≤ maxLen) : Calls Tryz.prog 4 #[.slice A n c] w (Ret (.bool true) w) := by
  unfold maxLen at hm
  have h : (1048576 : Int) < (n : Int) := by omega
  go_enter Tryz.func4, Tryz.ntmps4
  go_wp2
  go_ret
  exact ⟨rfl, Ext.refl w⟩
set_option maxRecDepth 8000 in
set_option maxHeartbeats 4000000 in
theorem FnDiskUses_c {v : Value} {xs : List Int} (w : World) (h : Bys w v xs) (hm : ML w) (hl : xs.length ≤ 1048576) : Calls Tryz.prog 4 #[v] w (Ret (.bool true) w) := by
  have H := Lib.hid h
  obtain ⟨A0, c0, rfl, -⟩ := h
  have HM := Lib.hid hm; clear hm
  have hn : ¬ (1048576 : Int) < (xs.length : Int) := by omega
  go_enter Tryz.func4, Tryz.ntmps4
  go_wp2_with fail
  refine (DrawDiskValid_c _ H.out).mono ?_
  rintro e w1 ⟨us, ut, un, rfl, ⟨s, t, l, hS, hT, hN, ht12, hl7, hlt12⟩, he1⟩
  obtain ⟨A1, c1, rfl, hSs⟩ := id hS
  obtain ⟨A2, c2, rfl, hTs⟩ := id hT
  obtain ⟨A3, c3, rfl, hNs⟩ := id hN
  have HM1 := Lib.hid (HM.out.ext he1)
  obtain ⟨m, hm⟩ : ∃ n, s.length = n := ⟨_, rfl⟩
  obtain ⟨n, hn⟩ : ∃ n, t.length = n := ⟨_, rfl⟩
  obtain ⟨q, hq⟩ : ∃ n, l.length = n := ⟨_, rfl⟩
  have Hm := Lib.hid hm; have Hn := Lib.hid hn; have Hq := Lib.hid hq
  have hS2 : Hds w.heap.size w1 (.slice A1 m c1) s := by rw [← hm]; exact hS
  have hT2 : Its w.heap.size w1 (.slice A2 n c2) t := by rw [← hn]; exact hT
  have hN2 : Sns w.heap.size w1 (.slice A3 q c3) l := by rw [← hq]; exact hN
  rw [hn] at ht12; rw [hq] at hl7
  have hmb : m ≤ lim := by have := hSs.2.2.1; omega
  unfold lim at hmb
  have HS := Lib.hid hS2; have HT := Lib.hid hT2; have HN := Lib.hid hN2; have HTs := Lib.hid hTs; have HSs := Lib.hid hSs; have HNs := Lib.hid hNs; have HLT := Lib.hid hlt12
  clear hS hT hN hT2 hS2 hN2 hTs hSs hNs hlt12
  rw [hm, hn, hq]
  clear hm hn hq
  go_wp2_with fail
  have hbx := Blk.new w1 40 #[.slice A1 m c1, .slice A2 n c2, .slice A3 q c3]
  have e1b : Ext w1 (w1.alloc (.cells #[.slice A1 m c1, .slice A2 n c2, .slice A3 q c3] 40)) := (Ext.refl _).alloc _
  obtain ⟨g1, hg1⟩ : ∃ g, w1.heap.size = g := ⟨_, rfl⟩
  rw [hg1] at hbx
  generalize hb1 : w1.alloc (.cells #[.slice A1 m c1, .slice A2 n c2, .slice A3 q c3] 40) = b1 at *
  have X1_0 := Lib.hid fun W (e : Ext b1 W) => hbx.at_ (i := 0) (u := .slice A1 m c1) rfl W e
  have X1_1 := Lib.hid fun W (e : Ext b1 W) => hbx.at_ (i := 1) (u := .slice A2 n c2) rfl W e
  have X1_2 := Lib.hid fun W (e : Ext b1 W) => hbx.at_ (i := 2) (u := .slice A3 q c3) rfl W e
  clear hbx hb1
  have E1 := he1.trans e1b
  have CV : Hid (∀ W, Ext w1 W → Calls Tryz.prog 23 #[.agg #[.slice A1 m c1, .slice A2 n c2, .slice A3 q c3]] W (Ret (.bool (diskOk s t l)) W)) := Lib.hid fun W e => DiskValid_c W (HS.out.ext e) (HT.out.ext e) (HN.out.ext e) (HM1.out.ext e)
  have CS : Hid (∀ W, Ext w1 W → Calls Tryz.prog 24 #[.agg #[.slice A1 m c1, .slice A2 n c2, .slice A3 q c3]] W (Ret (.bool (diskOk s t l)) W)) := Lib.hid fun W e => specDiskValid_c W (HS.out.ext e) (HT.out.ext e) (HN.out.ext e)
  refine (CV.out b1 e1b).mono ?_
  rintro e w2 ⟨rfl, he2⟩
  have E2 := E1.trans he2
  have q0 := X1_0.out w2 he2; have q1 := X1_1.out w2 he2; have q2 := X1_2.out w2 he2
  go_wp2_with fail
  refine (CS.out w2 (e1b.trans he2)).mono ?_
  rintro e w3 ⟨rfl, he3⟩
  have E3 := E2.trans he3
  have e13 := (e1b.trans he2).trans he3
  have X0 := Lib.hid fun W (e : Ext w3 W) => X1_0.out W ((he2.trans he3).trans e); have X1 := Lib.hid fun W (e : Ext w3 W) => X1_1.out W ((he2.trans he3).trans e); have X2 := Lib.hid fun W (e : Ext w3 W) => X1_2.out W ((he2.trans he3).trans e)
  clear q0 q1 q2 X1_0 X1_1 X1_2 CV CS
  obtain ⟨b9, hb9⟩ : ∃ b, diskOk s t l = b := ⟨_, rfl⟩
  rw [hb9]
  have HB := Lib.hid hb9
  clear hb9
  cases b9 with
  | false =>
    go_wp2
    go_ret
    exact ⟨rfl, E3⟩
  | true =>
    have hm16 : m ≤ 16 := by have := (disk_small HB.out).1; rw [Hm.out] at this; exact this
    have hq6 : q ≤ 6 := by have := (disk_small HB.out).2.2.1; rw [Hq.out] at this; exact this
    go_wp2_with fail
    go_loopw [6, 7] (fun v i wr => ∃ k : Nat, k ≤ m ∧ v = .int .i64 (usesSum (s.take k)) ∧ i = .int .i64 k ∧ Ext w3 wr) (fun _ i _ => m - (RowKit.intOf i).toNat)
    case atStart => exact ⟨0, by omega, rfl, rfl, Ext.refl _⟩
    case round =>
      obtain ⟨k, hk, rfl, rfl, he⟩ := hrel
      have x0 := X0.out wr he
      by_cases hlt : k < m
      · obtain ⟨x, hx⟩ := get_of_lt (l := s) (k := k) (by rw [Hm.out]; exact hlt)
        obtain ⟨b, o, u, rfl, -, -, -, -, hxu, -, -, q2⟩ := Hds.at_ HSs.out hx
        have p2 := q2 wr (e13.trans he)
        have hw : IntKind.i64.wrap (usesSum (s.take k) + x.uses) = usesSum (s.take (k + 1)) := by
          have h1 := disk_sum_k HB.out (k + 1)
          rw [usesSum_take hx] at h1 ⊢
          exact IntWalk.i64_in _ (by omega)
        have Hw := Lib.hid hw
        clear q2 hx hxu hw
        generalize hy : usesSum (s.take (k + 1)) = y at *
        have hw := Hw.out
        have Hy := Lib.hid hy
        clear hy Hw
        go_wp2
        go_roundw
        case rel => exact ⟨k + 1, by omega, by rw [Hy.out], by go_num, he⟩
        case measure => simp [RowKit.intOf]; omega
      · obtain rfl : k = m := by omega
        obtain ⟨y, hy⟩ : ∃ y, usesSum (s.take k) = y := ⟨_, rfl⟩
        rw [hy]
        have Hy : Hid (usesSum s = y) := Lib.hid (by rw [← hy, List.take_of_length_le (by rw [Hm.out]; exact Nat.le_refl _)])
        have Hy2 := Lib.hid (disk_sum_k HB.out k)
        rw [hy] at Hy2
        clear hy
        go_wp2
        go_loopw [6, 8] (fun v i wr' => ∃ j : Nat, j ≤ n ∧ v = .int .i64 (y - (idsLen (t.take j) : Int)) ∧ i = .int .i64 j ∧ Ext w3 wr') (fun _ i _ => n - (RowKit.intOf i).toNat)
        case atStart => exact ⟨0, by omega, by simp [idsLen], rfl, he⟩
        case round =>
          obtain ⟨j, hj, rfl, rfl, he'⟩ := hrel
          have x1 := X1.out _ he'
          by_cases hlt2 : j < n
          · obtain ⟨x, hx⟩ := get_of_lt (l := t) (k := j) (by rw [Hn.out]; exact hlt2)
            obtain ⟨b, o, u, rfl, -, -, -, hxi, -, -, q2⟩ := Its.at_ HTs.out hx
            obtain ⟨Ax, cx, rfl, -⟩ := hxi
            have p2 := q2 _ (e13.trans he')
            have hw : IntKind.i64.wrap (y - (idsLen (t.take j) : Int) - (x.ids.length : Int)) = y - (idsLen (t.take (j + 1)) : Int) := by
              have h1 := disk_len_k HB.out (j + 1)
              have h2 := Hy2.out
              rw [idsLen_take hx] at h1 ⊢
              rw [IntWalk.i64_in _ (by omega)]
              omega
            clear q2 hx
            go_wp2
            go_roundw
            case rel => exact ⟨j + 1, by omega, by first | rfl | rw [hw], by go_num, he'⟩
            case measure => simp [RowKit.intOf]; omega
          · obtain rfl : j = n := by omega
            obtain ⟨z, hz⟩ : ∃ z, y - (idsLen (t.take j) : Int) = z := ⟨_, rfl⟩
            rw [hz]
            have Hz : Hid (z = (snapsLen l : Int)) := Lib.hid (by
              rw [← hz, List.take_of_length_le (by rw [Hn.out]; exact Nat.le_refl _), ← Hy.out, disk_sum HB.out]
              omega)
            clear hz
            go_wp2
            go_loopw [6, 9] (fun v i wr2 => ∃ k3 : Nat, k3 ≤ q ∧ v = .int .i64 (z - (snapsLen (l.take k3) : Int)) ∧ i = .int .i64 k3 ∧ Ext w3 wr2) (fun _ i _ => q - (RowKit.intOf i).toNat)
            case atStart => exact ⟨0, by omega, by simp [snapsLen], rfl, he'⟩
            case round =>
              obtain ⟨k3, hk3, rfl, rfl, he2⟩ := hrel
              have x2 := X2.out _ he2
              by_cases hlt3 : k3 < q
              · obtain ⟨y3, hy3⟩ := get_of_lt (l := l) (k := k3) (by rw [Hq.out]; exact hlt3)
                obtain ⟨b3, o3, u3, rfl, -, -, -, hxt, -, g1⟩ := Sns.at_ HNs.out hy3
                obtain ⟨A4, c4, rfl, hT4⟩ := hxt
                obtain ⟨n4, hn4⟩ : ∃ n, y3.tree.length = n := ⟨_, rfl⟩
                have Hn4 := Lib.hid hn4
                rw [hn4] at g1
                have hl12 : n4 ≤ 12 := by rw [← hn4]; exact HLT.out _ (List.mem_of_getElem? hy3)
                have HG := Lib.hid g1
                have HT4 := Lib.hid hT4
                have Hy3 := Lib.hid hy3
                obtain ⟨z3, hz3⟩ : ∃ z3, z - (snapsLen (l.take k3) : Int) = z3 := ⟨_, rfl⟩
                have Hz3 := Lib.hid hz3
                rw [hz3]
                clear g1 hT4 hn4 hy3 hz3
                go_wp2
                go_loopw [6, 10] (fun v i wr3 => ∃ j4 : Nat, j4 ≤ n4 ∧ v = .int .i64 (z3 - (idsLen (y3.tree.take j4) : Int)) ∧ i = .int .i64 j4 ∧ Ext w3 wr3) (fun _ i _ => n4 - (RowKit.intOf i).toNat)
                case atStart => exact ⟨0, by omega, by simp [idsLen], rfl, he2⟩
                case round =>
                  obtain ⟨j4, hj4, rfl, rfl, he3⟩ := hrel
                  have x2 := X2.out _ he3
                  have x3 := HG.out _ (e13.trans he3)
                  by_cases hlt4 : j4 < n4
                  · obtain ⟨x, hx⟩ := get_of_lt (l := y3.tree) (k := j4) (by rw [Hn4.out]; exact hlt4)
                    obtain ⟨b, o, u, rfl, -, -, -, hxi, -, -, q2⟩ := Its.at_ HT4.out hx
                    obtain ⟨Ax, cx, rfl, -⟩ := hxi
                    have p2 := q2 _ (e13.trans he3)
                    have hw : IntKind.i64.wrap (z3 - (idsLen (y3.tree.take j4) : Int) - (x.ids.length : Int)) = z3 - (idsLen (y3.tree.take (j4 + 1)) : Int) := by
                      have h1 := disk_len_s HB.out (List.mem_of_getElem? Hy3.out) (j4 + 1)
                      have h2 := disk_snaps_k HB.out k3
                      have h3 := disk_snaps_k HB.out l.length
                      rw [List.take_of_length_le (Nat.le_refl _)] at h3
                      have h4 := Hz3.out
                      rw [Hz.out] at h4
                      rw [idsLen_take hx] at h1 ⊢
                      rw [IntWalk.i64_in _ (by omega)]
                      omega
                    clear q2 hx
                    go_wp2
                    go_roundw
                    case rel => exact ⟨j4 + 1, by omega, by first | rfl | rw [hw], by go_num, he3⟩
                    case measure => simp [RowKit.intOf]; omega
                  · obtain rfl : j4 = n4 := by omega
                    have hz4 : z3 - (idsLen (y3.tree.take j4) : Int) = z - (snapsLen (l.take (k3 + 1)) : Int) := by
                      rw [List.take_of_length_le (by rw [Hn4.out]; exact Nat.le_refl _), snapsLen_take Hy3.out, ← Hz3.out]
                      omega
                    rw [hz4]
                    go_wp2
                    go_roundw
                    case rel => exact ⟨k3 + 1, by omega, rfl, by go_num, he3⟩
                    case measure => simp [RowKit.intOf]; omega
              · obtain rfl : k3 = q := by omega
                have hz : z - (snapsLen (l.take k3) : Int) = 0 := by
                  rw [List.take_of_length_le (by rw [Hq.out]; exact Nat.le_refl _), Hz.out]
                  omega
                rw [hz]
                have hq6' : ((k3 : Nat) : Int) ≤ 6 := by omega
                go_wp2
                go_ret
                exact ⟨rfl, E3.trans he2⟩
end Go.Sf
