/- Laws of texts: each item has a line; a disk is its tree and its snapshots. -/
import Derived.Test.YtoljibhdakacjaaGreatDoorT170
import Derived.Test.YtoljibhdakacjaaGreatDoorT100
import Derived.Test.YtoljibhdakacjaaGreatDoorT101
import Derived.Test.YtoljibhdakacjaaGreatDoorP34
namespace Go.Sf
open Go Go.RowKit Go.Proofs
set_option maxRecDepth 4000 in
set_option maxHeartbeats 2000000 in
theorem ItemText_c {B B' : Nat} {v xv : Value} {s : List Hd} {x : It} (w : World) (h : Hds B w v s) (hx : ItV B' w xv x) (hs : storeOk s = true) (hio : itemOk x = true) (hf : IdsFit s x.ids) (hm : ML w) : Calls Tryz.prog 28 #[v, xv] w (Ret (.string (lineB s x)) w) := by
  have H := Lib.hid h
  have HX := Lib.hid hx; have HM := Lib.hid hm; have HF := Lib.hid hf; have HS := Lib.hid hs
  have hp := itemOk_path hio
  have HIO := Lib.hid hio; have HPO := Lib.hid hp
  obtain ⟨A, c, rfl, -⟩ := h
  obtain ⟨ux, rfl, -, hu⟩ := hx
  obtain ⟨Ax, cx, rfl, -⟩ := hu
  have e0 : Ext w (w.alloc (.cells #[.string x.path, .bool x.dir, .slice Ax x.ids.length cx] 57)) := (Ext.refl w).alloc _
  have hbk := Blk.new w 57 #[.string x.path, .bool x.dir, .slice Ax x.ids.length cx]
  have D0 := Lib.hid fun W (e : Ext (w.alloc (.cells #[.string x.path, .bool x.dir, .slice Ax x.ids.length cx] 57)) W) => hbk.at_ (i := 0) (u := .string x.path) rfl W e
  have D1 := Lib.hid fun W (e : Ext (w.alloc (.cells #[.string x.path, .bool x.dir, .slice Ax x.ids.length cx] 57)) W) => hbk.at_ (i := 1) (u := .bool x.dir) rfl W e
  have D2 := Lib.hid fun W (e : Ext (w.alloc (.cells #[.string x.path, .bool x.dir, .slice Ax x.ids.length cx] 57)) W) => hbk.at_ (i := 2) (u := .slice Ax x.ids.length cx) rfl W e
  have Co := openStore_c _ (H.out.ext e0)
  clear hm hf hs hio hp hbk
  go_enter Tryz.func28, Tryz.ntmps28
  go_wp2_with fail
  refine Co.mono ?_
  rintro e w1 ⟨he1, ⟨hf, -⟩ | ⟨-, b, rfl, hSt, -⟩⟩
  · have := HS.out; rw [hf] at this; cases this
  have E1 := e0.trans he1
  have Ci := itemValid_c w1 (HX.out.ext E1) (HM.out.ext E1)
  rw [HIO.out] at Ci
  have Ct := fun W (e : Ext w1 W) => text_c W (hSt.ext e) (HX.out.ext (E1.trans e)) (storeOk_iff.1 HS.out) HF.out HPO.out
  have d0 := D0.out w1 he1; have d1 := D1.out w1 he1; have d2 := D2.out w1 he1
  clear hSt Co
  generalize lineB s x = ln at *
  go_wp2_with fail
  refine Ci.mono ?_
  rintro e w2 ⟨rfl, he2⟩
  have y0 := D0.out w2 (he1.trans he2); have y1 := D1.out w2 (he1.trans he2); have y2 := D2.out w2 (he1.trans he2)
  clear d0 d1 d2
  go_wp2_with fail
  refine (Ct w2 he2).mono ?_
  rintro e w3 ⟨rfl, he3⟩
  go_wp2
  go_ret
  exact ⟨rfl, (E1.trans he2).trans he3⟩
set_option maxHeartbeats 1000000 in
theorem FnTreeText_big {A : Option Addr} {n c : Nat} (w : World) (hn : 1048576 < n) (hm : n ≤ maxLen) : Calls Tryz.prog 6 #[.slice A n c] w (Ret (.bool true) w) := by
  unfold maxLen at hm
  have h : (1048576 : Int) < (n : Int) := by omega
  go_enter Tryz.func6, Tryz.ntmps6
  go_wp2
  go_ret
  exact ⟨rfl, Ext.refl w⟩
set_option maxRecDepth 8000 in
set_option maxHeartbeats 4000000 in
theorem FnTreeText_c {v : Value} {xs : List Int} (w : World) (h : Bys w v xs) (hm : ML w) (hl : xs.length ≤ 1048576) : Calls Tryz.prog 6 #[v] w (Ret (.bool true) w) := by
  have H := Lib.hid h
  obtain ⟨A0, c0, rfl, -⟩ := h
  have HM := Lib.hid hm; clear hm
  have hn : ¬ (1048576 : Int) < (xs.length : Int) := by omega
  go_enter Tryz.func6, Tryz.ntmps6
  go_wp2_with fail
  refine (DrawTreeText_c _ H.out).mono ?_
  rintro e w1 ⟨us, ut, s, t, rfl, hS, hT, ht12, he1⟩
  obtain ⟨A1, c1, rfl, hSs⟩ := id hS
  obtain ⟨A2, c2, rfl, hTs⟩ := id hT
  have HM1 := Lib.hid (HM.out.ext he1)
  obtain ⟨m, hm⟩ : ∃ n, s.length = n := ⟨_, rfl⟩
  obtain ⟨n, hn⟩ : ∃ n, t.length = n := ⟨_, rfl⟩
  have Hm := Lib.hid hm; have Hn := Lib.hid hn
  have hS2 : Hds w.heap.size w1 (.slice A1 m c1) s := by rw [← hm]; exact hS
  have hT2 : Its w.heap.size w1 (.slice A2 n c2) t := by rw [← hn]; exact hT
  rw [hn] at ht12
  have HS := Lib.hid hS2; have HT := Lib.hid hT2; have HTs := Lib.hid hTs
  clear hS hT hT2 hS2 hTs hSs
  rw [hm, hn]
  clear hm hn
  have Hsm : Hid ((treeTextOf s t).toList ≠ [] → storeOk s = true ∧ treeOk t = true ∧ filesFit s t = true ∧ treeTextOf s t = textB s t) := Lib.hid fun h => treeText_some h
  have Ci := TreeText_c w1 HS.out HT.out HM1.out
  have Cr := fun W (e : Ext w1 W) => specTreeText_c W (HS.out.ext e) (HT.out.ext e)
  obtain ⟨o, ho⟩ : ∃ o, treeTextOf s t = o := ⟨_, rfl⟩
  rw [ho] at Ci Hsm
  simp only [ho] at Cr
  clear ho
  go_wp2_with fail
  refine Ci.mono ?_
  rintro e w2 ⟨rfl, he2⟩
  go_wp2_with fail
  refine (Cr w2 he2).mono ?_
  rintro e w3 ⟨rfl, he3⟩
  have e13 := he2.trans he3
  have E3 := he1.trans e13
  clear Ci Cr
  by_cases ho : o = ⟨#[]⟩
  · subst ho
    go_wp2
    go_ret
    exact ⟨rfl, E3⟩
  · have hoe : o.toList.isEmpty = false := emp_false fun e => ho (bl_inj (e.trans (by decide)))
    obtain ⟨k1, k2, k3, k4⟩ := Hsm.out (fun h => by rw [List.isEmpty_eq_false_iff] at hoe; exact hoe h)
    have HK := Lib.hid (And.intro k1 (And.intro k2 k3)); have HK4 := Lib.hid k4
    clear k1 k2 k3 k4 Hsm
    have Hbd := Lib.hid (take_size (storeOk_iff.1 HK.out.1) (tree_ok_paths HK.out.2.1 (fits_all HK.out.2.2)) (by rw [Hn.out]; exact ht12))
    go_wp2
    go_loopw [7, 8] (fun v i wr => ∃ k : Nat, k ≤ n ∧ v = .string ((t.take k).foldl (textStep s) ⟨#[]⟩) ∧ i = .int .i64 k ∧ Ext w3 wr) (fun _ i _ => n - (RowKit.intOf i).toNat)
    case atStart => exact ⟨0, by omega, rfl, rfl, Ext.refl _⟩
    case round =>
      obtain ⟨k, hk, rfl, rfl, he⟩ := hrel
      by_cases hlt : k < n
      · obtain ⟨x, hx⟩ := get_of_lt (l := t) (k := k) (by rw [Hn.out]; exact hlt)
        obtain ⟨b2, o9, u, rfl, -, -, hps, hu, hc0, hc1, hc2⟩ := Its.at_ HTs.out hx
        have hxm := List.mem_of_getElem? hx
        obtain ⟨hfit, hpok⟩ := tree_ok_paths HK.out.2.1 (fits_all HK.out.2.2) x hxm
        have hio := ((treeOk_iff'.1 HK.out.2.1).2.fits hxm).1
        have e1r := e13.trans he
        have Ci := ItemText_c wr (HS.out.ext e1r) (⟨_, rfl, hps, hu.ext e1r⟩ : ItV _ wr (.agg #[.string x.path, .bool x.dir, u]) x) HK.out.1 hio hfit (HM1.out.ext e1r)
        obtain ⟨Au, cu, rfl, -⟩ := hu
        have a0 := hc0 wr e1r; have a1 := hc1 wr e1r; have a2 := hc2 wr e1r
        have hst := foldl_take (textStep s) ⟨#[]⟩ hx
        have hb0 := Hbd.out k
        have hls := line_size (storeOk_iff.1 HK.out.1) hfit hpok
        generalize (t.take k).foldl (textStep s) ⟨#[]⟩ = acc at *
        have hst2 : textStep s acc x = acc ++ lineB s x ++ ⟨#[10]⟩ := rfl
        rw [hst2] at hst
        generalize lineB s x = ln at *
        have Hst := Lib.hid hst
        have e1 : (acc ++ ln).size = acc.size + ln.size := ByteArray.size_append
        have hs1 : ¬ 9223372036854775807 < acc.size + ln.size := by omega
        have hs2 : ¬ 9223372036854775807 < (acc ++ ln).size + 1 := by omega
        clear hst hst2 hx hc0 hc1 hc2 hxm hfit hpok hio
        go_wp2_with (go_at_call 28; refine Ci.mono ?_; rintro e w5 ⟨rfl, he5⟩)
        go_roundw
        case rel => exact ⟨k + 1, by omega, by rw [Hst.out], by go_num, he.trans he5⟩
        case measure => simp [RowKit.intOf]; omega
      · obtain rfl : k = n := by omega
        have Hf : Hid ((t.take k).foldl (textStep s) ⟨#[]⟩ = o) := Lib.hid (by rw [List.take_of_length_le (by rw [Hn.out]; exact Nat.le_refl _), HK4.out]; rfl)
        rw [Hf.out]
        go_wp2
        go_ret
        exact ⟨rfl, E3.trans he⟩
set_option maxHeartbeats 1000000 in
theorem FnTreeTextLines_big {A : Option Addr} {n c : Nat} (w : World) (hn : 1048576 < n) (hm : n ≤ maxLen) : Calls Tryz.prog 7 #[.slice A n c] w (Ret (.bool true) w) := by
  unfold maxLen at hm
  have h : (1048576 : Int) < (n : Int) := by omega
  go_enter Tryz.func7, Tryz.ntmps7
  go_wp2
  go_ret
  exact ⟨rfl, Ext.refl w⟩
set_option maxRecDepth 8000 in
set_option maxHeartbeats 4000000 in
theorem FnTreeTextLines_c {v : Value} {xs : List Int} (w : World) (h : Bys w v xs) (hm : ML w) (hl : xs.length ≤ 1048576) : Calls Tryz.prog 7 #[v] w (Ret (.bool true) w) := by
  have H := Lib.hid h
  obtain ⟨A0, c0, rfl, -⟩ := h
  have HM := Lib.hid hm; clear hm
  have hn : ¬ (1048576 : Int) < (xs.length : Int) := by omega
  go_enter Tryz.func7, Tryz.ntmps7
  go_wp2_with fail
  refine (DrawTreeText_c _ H.out).mono ?_
  rintro e w1 ⟨us, ut, s, t, rfl, hS, hT, ht12, he1⟩
  obtain ⟨A1, c1, rfl, hSs⟩ := id hS
  obtain ⟨A2, c2, rfl, hTs⟩ := id hT
  have HM1 := Lib.hid (HM.out.ext he1)
  obtain ⟨m, hm⟩ : ∃ n, s.length = n := ⟨_, rfl⟩
  obtain ⟨n, hn⟩ : ∃ n, t.length = n := ⟨_, rfl⟩
  have Hm := Lib.hid hm; have Hn := Lib.hid hn
  have hS2 : Hds w.heap.size w1 (.slice A1 m c1) s := by rw [← hm]; exact hS
  have hT2 : Its w.heap.size w1 (.slice A2 n c2) t := by rw [← hn]; exact hT
  rw [hn] at ht12
  have HS := Lib.hid hS2; have HT := Lib.hid hT2; have HTs := Lib.hid hTs
  clear hS hT hT2 hS2 hTs hSs
  rw [hm, hn]
  clear hm hn
  have Hsm : Hid ((treeTextOf s t).toList ≠ [] → storeOk s = true ∧ treeOk t = true ∧ filesFit s t = true ∧ treeTextOf s t = textB s t) := Lib.hid fun h => treeText_some h
  have Ci := TreeText_c w1 HS.out HT.out HM1.out
  have Cr := fun W (e : Ext w1 W) => specTreeText_c W (HS.out.ext e) (HT.out.ext e)
  obtain ⟨o, ho⟩ : ∃ o, treeTextOf s t = o := ⟨_, rfl⟩
  rw [ho] at Ci Hsm
  simp only [ho] at Cr
  clear ho
  go_wp2_with fail
  refine Ci.mono ?_
  rintro e w2 ⟨rfl, he2⟩
  go_wp2_with fail
  refine (Cr w2 he2).mono ?_
  rintro e w3 ⟨rfl, he3⟩
  have e13 := he2.trans he3
  have E3 := he1.trans e13
  clear Ci Cr
  by_cases ho : o = ⟨#[]⟩
  · subst ho
    go_wp2
    go_ret
    exact ⟨rfl, E3⟩
  · have hoe : o.toList.isEmpty = false := emp_false fun e => ho (bl_inj (e.trans (by decide)))
    obtain ⟨k1, k2, k3, k4⟩ := Hsm.out (fun h => by rw [List.isEmpty_eq_false_iff] at hoe; exact hoe h)
    have HK := Lib.hid (And.intro k1 (And.intro k2 k3)); have HK4 := Lib.hid k4
    clear k1 k2 k3 k4 Hsm
    have hnl := text_nls (s := s) (t := t) fun x hx => (tree_ok_paths HK.out.2.1 (fits_all HK.out.2.2) x hx).2
    have hbz := take_size (storeOk_iff.1 HK.out.1) (tree_ok_paths HK.out.2.1 (fits_all HK.out.2.2)) (by rw [Hn.out]; exact ht12) t.length
    rw [List.take_length] at hbz
    have hz : o.size ≤ 372 := by rw [HK4.out]; exact hbz
    rw [← HK4.out, Hn.out] at hnl
    have Hnl := Lib.hid hnl
    obtain ⟨z, hzz⟩ : ∃ z, o.size = z := ⟨_, rfl⟩
    have Hzz := Lib.hid hzz
    rw [hzz] at hz
    have hbl : Hid ((bl o).length = z) := Lib.hid (by rw [← Hzz.out]; rfl)
    clear hnl hbz hzz
    go_wp2
    go_loopw [7, 8] (fun v i wr => ∃ k : Nat, k ≤ z ∧ v = .int .i64 (nls ((bl o).take k) : Nat) ∧ i = .int .i64 k ∧ Ext w3 wr) (fun _ i _ => z - (RowKit.intOf i).toNat)
    case atStart => exact ⟨0, by omega, rfl, rfl, Ext.refl _⟩
    case round =>
      obtain ⟨k, hk, rfl, rfl, he⟩ := hrel
      have hzo := Hzz.out
      by_cases hlt : k < z
      · obtain ⟨c, hc⟩ := get_of_lt (l := bl o) (k := k) (by rw [hbl.out]; exact hlt)
        have hnt := nls_take hc
        have hle : nls ((bl o).take k) ≤ k := by
          unfold nls
          have := List.length_filter_le (fun c => c == 10) ((bl o).take k)
          rw [List.length_take] at this
          omega
        have hod : o.data[k]? = some c := by
          have : (bl o)[k]? = some c := hc
          unfold bl at this
          simpa using this
        have Hnt := Lib.hid hnt
        clear hnt hc
        generalize nls ((bl o).take k) = y at *
        have hw1 : IntKind.i64.wrap ((y : Int) + 1) = (y : Int) + 1 := IntWalk.i64_in _ (by omega)
        have hkz : k < o.size := by omega
        have hok : o[k]'hkz = c := by
          obtain ⟨h9, h9e⟩ := Array.getElem?_eq_some_iff.1 hod
          exact h9e
        by_cases h10 : c = 10
        · have hb : (((o[k]'hkz).toNat : Int) == 10) = true := by rw [hok, h10]; rfl
          have Hn2 : nls ((bl o).take (k + 1)) = y + 1 := by rw [Hnt.out, if_pos h10]
          clear hod hok h10 Hnt
          have HN2 := Lib.hid Hn2
          clear Hn2
          go_wp2
          go_roundw
          case rel => exact ⟨k + 1, by omega, by rw [HN2.out]; rfl, by go_num, he⟩
          case measure => simp [RowKit.intOf]; omega
        · have hb : (((o[k]'hkz).toNat : Int) == 10) = false := by
            rw [hok, beq_eq_false_iff_ne]; intro e; exact h10 (UInt8.toNat_inj.1 (show c.toNat = 10 by omega))
          have Hn2 : nls ((bl o).take (k + 1)) = y := by rw [Hnt.out, if_neg h10]; rfl
          clear hod hok h10 Hnt
          have HN2 := Lib.hid Hn2
          clear Hn2
          go_wp2
          go_roundw
          case rel => exact ⟨k + 1, by omega, by rw [HN2.out], by go_num, he⟩
          case measure => simp [RowKit.intOf]; omega
      · obtain rfl : k = z := by omega
        have Hf : Hid (nls ((bl o).take k) = n) := Lib.hid (by rw [List.take_of_length_le (by rw [hbl.out]; exact Nat.le_refl _)]; exact Hnl.out)
        rw [Hf.out]
        go_wp2
        go_ret
        exact ⟨rfl, E3.trans he⟩
set_option maxHeartbeats 1000000 in
theorem FnDiskText_big {A : Option Addr} {n c : Nat} (w : World) (hn : 1048576 < n) (hm : n ≤ maxLen) : Calls Tryz.prog 8 #[.slice A n c] w (Ret (.bool true) w) := by
  unfold maxLen at hm
  have h : (1048576 : Int) < (n : Int) := by omega
  go_enter Tryz.func8, Tryz.ntmps8
  go_wp2
  go_ret
  exact ⟨rfl, Ext.refl w⟩
set_option maxRecDepth 8000 in
set_option maxHeartbeats 4000000 in
theorem FnDiskText_c {v : Value} {xs : List Int} (w : World) (h : Bys w v xs) (hm : ML w) (hl : xs.length ≤ 1048576) : Calls Tryz.prog 8 #[v] w (Ret (.bool true) w) := by
  have H := Lib.hid h
  obtain ⟨A0, c0, rfl, -⟩ := h
  have HM := Lib.hid hm; clear hm
  have hn : ¬ (1048576 : Int) < (xs.length : Int) := by omega
  go_enter Tryz.func8, Tryz.ntmps8
  go_wp2_with fail
  refine (DrawDiskText_c _ H.out).mono ?_
  rintro e w1 ⟨us, ut, un, rfl, ⟨s, t, l, hS, hT, hN, ht12, hl7, hlt12⟩, he1⟩
  obtain ⟨A1, c1, rfl, hSs⟩ := id hS
  obtain ⟨A2, c2, rfl, hTs⟩ := id hT
  obtain ⟨A3, c3, rfl, hNs⟩ := id hN
  have HM1 := Lib.hid (HM.out.ext he1)
  obtain ⟨m, hm⟩ : ∃ n, s.length = n := ⟨_, rfl⟩
  obtain ⟨n, hn⟩ : ∃ n, t.length = n := ⟨_, rfl⟩
  obtain ⟨q, hq⟩ : ∃ n, l.length = n := ⟨_, rfl⟩
  have Hm := Lib.hid hm; have Hn := Lib.hid hn; have Hq := Lib.hid hq
  have hS2 : Hds w.heap.size w1 (.slice A1 m c1) s := by rw [← hm]; exact hS
  have hT2 : Its w.heap.size w1 (.slice A2 n c2) t := by rw [← hn]; exact hT
  have hN2 : Sns w.heap.size w1 (.slice A3 q c3) l := by rw [← hq]; exact hN
  rw [hn] at ht12; rw [hq] at hl7
  have HS := Lib.hid hS2; have HT := Lib.hid hT2; have HN := Lib.hid hN2; have HNs := Lib.hid hNs
  clear hS hT hN hT2 hS2 hN2 hTs hSs hNs hlt12
  rw [hm, hn, hq]
  clear hm hn hq
  go_wp2_with fail
  have hbx := Blk.new w1 27 #[.slice A1 m c1, .slice A2 n c2, .slice A3 q c3]
  have e1b : Ext w1 (w1.alloc (.cells #[.slice A1 m c1, .slice A2 n c2, .slice A3 q c3] 27)) := (Ext.refl _).alloc _
  obtain ⟨g1, hg1⟩ : ∃ g, w1.heap.size = g := ⟨_, rfl⟩
  rw [hg1] at hbx
  generalize hb1 : w1.alloc (.cells #[.slice A1 m c1, .slice A2 n c2, .slice A3 q c3] 27) = b1 at *
  have X1_0 := Lib.hid fun W (e : Ext b1 W) => hbx.at_ (i := 0) (u := .slice A1 m c1) rfl W e
  have X1_1 := Lib.hid fun W (e : Ext b1 W) => hbx.at_ (i := 1) (u := .slice A2 n c2) rfl W e
  have X1_2 := Lib.hid fun W (e : Ext b1 W) => hbx.at_ (i := 2) (u := .slice A3 q c3) rfl W e
  clear hbx hb1
  have E1 := he1.trans e1b
  have Ci := DiskText_c b1 (HS.out.ext e1b) (HT.out.ext e1b) (HN.out.ext e1b) (HM1.out.ext e1b)
  have Cr := fun W (e : Ext w1 W) => specDiskText_c W (HS.out.ext e) (HT.out.ext e) (HN.out.ext e)
  have Ho : Hid (diskOk s t l = true → l.foldl (snStep s) (textB s t) = diskTextOf s t l) := Lib.hid fun h => by unfold diskTextOf; rw [if_pos h]
  obtain ⟨o, ho⟩ : ∃ o, diskTextOf s t l = o := ⟨_, rfl⟩
  rw [ho] at Ci Ho
  simp only [ho] at Cr
  clear ho
  refine Ci.mono ?_
  rintro e w2 ⟨rfl, he2⟩
  have E2 := E1.trans he2
  have e12 := e1b.trans he2
  have q0 := X1_0.out w2 he2; have q1 := X1_1.out w2 he2; have q2 := X1_2.out w2 he2
  clear Ci
  go_wp2_with fail
  refine (Cr w2 e12).mono ?_
  rintro e w3 ⟨rfl, he3⟩
  have e13 := e12.trans he3
  have E3 := E2.trans he3
  have XO0 := Lib.hid fun W (e : Ext w3 W) => X1_0.out W ((he2.trans he3).trans e); have XO1 := Lib.hid fun W (e : Ext w3 W) => X1_1.out W ((he2.trans he3).trans e); have XO2 := Lib.hid fun W (e : Ext w3 W) => X1_2.out W ((he2.trans he3).trans e)
  clear q0 q1 q2 X1_0 X1_1 X1_2 Cr
  have x0 := XO0.out w3 (Ext.refl _); have x1 := XO1.out w3 (Ext.refl _); have x2 := XO2.out w3 (Ext.refl _)
  have CV := specDiskValid_c w3 (HS.out.ext e13) (HT.out.ext e13) (HN.out.ext e13)
  obtain ⟨dv, hdv⟩ : ∃ b, diskOk s t l = b := ⟨_, rfl⟩
  rw [hdv] at CV
  have Hdv := Lib.hid hdv; clear hdv
  go_wp2_with fail
  refine CV.mono ?_
  rintro e w4 ⟨rfl, he4⟩
  have e14 := e13.trans he4
  clear CV x0 x1 x2
  cases dv with
  | false =>
    go_wp2
    go_ret
    exact ⟨rfl, E3.trans he4⟩
  | true =>
    obtain ⟨hso, hto, h6, hsn⟩ := disk_txt Hdv.out
    have hsok := storeOk_iff.2 hso
    have htx : ∀ tr, TxtOk s tr → treeTextOf s tr = textB s tr := fun tr h => by
      unfold treeTextOf
      rw [if_pos]
      simp only [Bool.and_eq_true]
      exact ⟨hsok, h.1, filesFit_iff.2 h.2⟩
    have Ct := TreeText_c w4 (HS.out.ext e14) (HT.out.ext e14) (HM1.out.ext e14)
    rw [htx t hto] at Ct
    have Htx := Lib.hid htx
    have Hsz := Lib.hid (fold_take_size h6 (fun a x hx => (sn_size hso (hsn x hx).1 (hsn x hx).2 a).1) (textB s t))
    have Ht := Lib.hid (hto.size hso)
    have HSO := Lib.hid hso; have HSN := Lib.hid hsn
    have HO := Lib.hid (Ho.out Hdv.out)
    rw [Hq.out] at h6
    clear hso hto hsn hsok htx
    generalize textB s t = T0 at *
    have x0 := XO0.out w4 he4; have x1 := XO1.out w4 he4
    go_wp2_with fail
    refine Ct.mono ?_
    rintro e w5 ⟨rfl, he5⟩
    have e15 := e14.trans he5
    have e35 := he4.trans he5
    clear x0 x1 Ct
    go_wp2
    go_loopw [6, 7] (fun o i wr => ∃ k : Nat, k ≤ q ∧ o = .string ((l.take k).foldl (snStep s) T0) ∧ i = .int .i64 k ∧ Ext w5 wr) (fun _ i _ => q - (RowKit.intOf i).toNat)
    case atStart => exact ⟨0, by omega, rfl, rfl, Ext.refl _⟩
    case round =>
      obtain ⟨k, hk, rfl, rfl, he⟩ := hrel
      have x2 := XO2.out wr (e35.trans he)
      by_cases hlt : k < q
      · obtain ⟨x, hx⟩ := get_of_lt (l := l) (k := k) (by rw [Hq.out]; exact hlt)
        obtain ⟨b, o9, u, rfl, -, -, -, hu, hc0, hc1⟩ := Sns.at_ HNs.out hx
        obtain ⟨hw5, htx⟩ := HSN.out x (List.mem_of_getElem? hx)
        have HU := Lib.hid hu
        obtain ⟨Au, cu, rfl, -⟩ := hu
        have e1r := e15.trans he
        have a0 := fun W (e : Ext wr W) => hc0 W (e1r.trans e)
        have a1 := fun W (e : Ext wr W) => hc1 W (e1r.trans e)
        have D0 := fun W (e : Ext wr W) => XO0.out W ((e35.trans he).trans e)
        have D2 := fun W (e : Ext wr W) => XO2.out W ((e35.trans he).trans e)
        have Cx := fun W (e : Ext wr W) => TreeText_c W (HS.out.ext (e1r.trans e)) (HU.out.ext (e1r.trans e)) (HM1.out.ext (e1r.trans e))
        simp only [Htx.out _ htx] at Cx
        have hb0 := Hsz.out k
        have ht0 := Ht.out
        have hx5 := word_size hw5
        have hx7 := htx.size HSO.out
        have hst := foldl_take (snStep s) T0 hx
        generalize (l.take k).foldl (snStep s) T0 = acc at *
        have hst2 : snStep s acc x = acc ++ ⟨#[64]⟩ ++ x.name ++ ⟨#[10]⟩ ++ textB s x.tree := rfl
        rw [hst2] at hst
        have Hst := Lib.hid hst
        have e1 : (acc ++ (⟨#[64]⟩ : ByteArray)).size = acc.size + 1 := by rw [ByteArray.size_append]; rfl
        have e2 : (acc ++ (⟨#[64]⟩ : ByteArray) ++ x.name).size = acc.size + 1 + x.name.size := by rw [ByteArray.size_append, e1]
        have e3 : (acc ++ (⟨#[64]⟩ : ByteArray) ++ x.name ++ (⟨#[10]⟩ : ByteArray)).size = acc.size + 1 + x.name.size + 1 := by rw [ByteArray.size_append, e2]; rfl
        generalize textB s x.tree = T1 at *
        have hs1 : ¬ 9223372036854775807 < acc.size + 1 := by omega
        have hs2 : ¬ 9223372036854775807 < acc.size + 1 + x.name.size := by omega
        have hs3 : ¬ 9223372036854775807 < acc.size + 1 + x.name.size + 1 := by omega
        have hs4 : ¬ 9223372036854775807 < acc.size + 1 + x.name.size + 1 + T1.size := by omega
        have Z := Lib.hid (And.intro e1 (And.intro e2 e3))
        clear hst hst2 hc0 hc1 hx x2 e1 e2 e3 hw5 htx
        go_wp2
        refine wp_region_hold (fun W => Ext wr W ∧ W.cell? ⟨g1, 0, none⟩ = some (.slice A1 m c1) ∧ W.cell? ⟨g1, 2, none⟩ = some (.slice (some ⟨b, o9, none⟩) q c3) ∧ W.cell? ⟨b, o9 + k * 2, none⟩ = some (.string x.name) ∧ W.cell? ⟨b, o9 + k * 2 + 1, none⟩ = some (.slice Au x.tree.length cu)) 19 [(0, true), (1, true), (2, true), (3, true), (4, true), (5, true), (6, true), (7, true), (8, true), (9, true), (10, true), (11, true), (12, true), (13, true), (14, true), (15, true), (16, true), (17, true), (18, false)] (by kernel_rfl) (by kernel_rfl) ?_ ?_
        · have e := (Ext.refl wr).drew
          exact ⟨e, D0 _ e, D2 _ e, a0 _ e, a1 _ e⟩
        (repeat (first | (apply hw_read (by rfl) (by rfl); (· (intro W hW; (try dsimp only at hW); go_simp; (first | done | rfl | (rw [if_pos] <;> first | omega | rfl)))); (try simp only [Act.put, List.setIfInBounds_toArray, List.set_cons_zero, List.set_cons_succ])) | (refine hw_skip (by rfl) (by rfl) ?_; (try simp only [Act.put, List.setIfInBounds_toArray, List.set_cons_zero, List.set_cons_succ]))))
        refine hw_step (by rfl) ?_
        go_wp2_with (go_at_call 26; refine (Cx _ (Ext.refl _).drew).mono ?_; rintro e w6 ⟨rfl, he6⟩)
        have he7 := (Ext.refl wr).drew.trans he6
        refine ⟨⟨he7, D0 _ he7, D2 _ he7, a0 _ he7, a1 _ he7⟩, ?_⟩
        clear a0 a1 D0 D2
        (try (repeat (first | (apply hw_read (by rfl) (by rfl); (· (intro W hW; (try dsimp only at hW); go_simp; (first | done | rfl | (rw [if_pos] <;> first | omega | rfl)))); (try simp only [Act.put, List.setIfInBounds_toArray, List.set_cons_zero, List.set_cons_succ])) | (refine hw_skip (by rfl) (by rfl) ?_; (try simp only [Act.put, List.setIfInBounds_toArray, List.set_cons_zero, List.set_cons_succ])))))
        (refine hw_nil ?_; (try simp only [List.drop_succ_cons, List.drop_zero]))
        go_wp2
        refine NoPanic.normal ?_
        (try dsimp only [Exit.then])
        (try go_wp2)
        go_roundw
        case rel => exact ⟨k + 1, by omega, by rw [Hst.out], by go_num, he.trans he7⟩
        case measure => simp [RowKit.intOf]; omega
      · obtain rfl : k = q := by omega
        have Hf : Hid ((l.take k).foldl (snStep s) T0 = o) := Lib.hid (by rw [← HO.out, List.take_of_length_le (by rw [Hq.out]; exact Nat.le_refl _)])
        rw [Hf.out]
        go_wp2
        go_ret
        exact ⟨rfl, (E3.trans e35).trans he⟩
end Go.Sf
