/- Laws of drawn disks: the bytes of a directory. -/
import Derived.Test.YtdnnojghjnjnfaaGreatDoorHD
import Derived.Test.YtdnnojghjnjnfaaGreatDoorHL
import Derived.Test.YtdnnojghjnjnfaaGreatDoorGK
import Derived.Test.YtdnnojghjnjnfaaGreatDoorHG
import Derived.Test.YtdnnojghjnjnfaaGreatDoorTVRead
namespace Go.Sf
open Go Go.RowKit Go.Proofs
theorem root_path {l : List It} (_hg : Grow l) {x : It} (hx : x ∈ kidsOf l []) : nameOf (key x) = x.path := by
  have h := kid_path hx
  have e : mkB (startOf ([] : Key)) = ⟨#[]⟩ := rfl
  rw [e] at h
  rw [← h]
  exact bl_inj (by rw [bl_append]; rfl)
set_option maxRecDepth 4000 in
set_option maxHeartbeats 4000000 in
/-- all that lies at the top -/
theorem TreeList_root_c {B : Nat} {v : Value} {l : List It} (w : World) (h : Its B w v l) (ht : treeOk l = true) (hm : ML w) :
    Calls Tryz.prog 19 #[v, .string ⟨#[]⟩] w (RetP (fun r w' => ∃ u, r = .tuple #[u, .bool true] ∧ Strs w.heap.size w' u ((kidsOf l []).map (·.path))) w) := by
  have H := Lib.hid h; have Ht := Lib.hid ht; have HM := Lib.hid hm
  obtain ⟨A, c, rfl, -⟩ := id h
  clear h ht hm
  obtain ⟨hl, hg⟩ := treeOk_iff'.1 Ht.out
  have HG := Lib.hid hg; have HL := Lib.hid hl; clear hg hl
  go_enter Tryz.func19, Tryz.ntmps19
  go_wp2_with fail
  refine (openTree_c w H.out HM.out).mono ?_
  rintro e w1 ⟨he1, (⟨hf, -⟩ | ⟨-, adr, kv, rfl, hT⟩)⟩
  · rw [Ht.out] at hf; cases hf
  have HT := Lib.hid hT
  obtain ⟨A3, c3, hkv, hP⟩ := hT.kids (k := []) (.inl rfl)
  obtain ⟨hB, hO, u, hnb, -⟩ := hT.root
  rw [hkv] at hnb
  have HP := Lib.hid hP
  have hnl := namesOf_le l []
  have hlen : (namesOf l []).length = (kidsOf l []).length := by simp [namesOf]
  have Hlen := Lib.hid hlen
  have N1 := Lib.hid (fun W (e : Ext w1 W) => hnb.at_ (i := 1) (u := .bool true) rfl W e)
  have N3 := Lib.hid (fun W (e : Ext w1 W) => hnb.at_ (i := 3) (u := .slice A3 (namesOf l []).length c3) rfl W e)
  obtain ⟨ks, hks⟩ : ∃ ks : List ByteArray, (kidsOf l []).map (·.path) = ks := ⟨_, rfl⟩
  have Hks := Lib.hid hks
  generalize hn : (namesOf l []).length = n at *
  have Hn := Lib.hid hn
  have Hkl : Hid (ks.length = n) := Lib.hid (by rw [← hks, List.length_map, ← hlen])
  have hn12 : n ≤ 12 := by have := HL.out; omega
  have Hn12 := Lib.hid hn12
  clear hT hkv hP hB hO hnb hlen hn hks hnl
  have n1 := N1.out w1 (Ext.refl _); have n3 := N3.out w1 (Ext.refl _)
  generalize adr [] = ad at *
  go_wp2
  go_loopw [10, 42] (fun v i wr => ∃ j : Nat, j ≤ n ∧ i = .int .i64 j ∧ Ext w1 wr ∧ OwnS w1.heap.size 9 1 EStr wr v (ks.take j)) (fun _ i _ => n - (RowKit.intOf i).toNat)
  case atStart => exact ⟨0, by omega, rfl, Ext.refl _, OwnS.nil _ _ _ _ _⟩
  case round =>
    obtain ⟨j, hj, rfl, he', hO⟩ := hrel
    by_cases hlt : j < n
    · obtain ⟨x, hx⟩ := get_of_lt (l := kidsOf l []) (k := j) (by rw [← Hlen.out]; exact hlt)
      have hnm : (namesOf l [])[j]? = some (nameOf (key x)) := by unfold namesOf; rw [List.getElem?_map, hx]; rfl
      obtain ⟨ab, ao, pb, hpb, hAe, h1, h2⟩ := HP.out j _ hnm
      subst hAe
      have hxk : x ∈ kidsOf l [] := List.mem_of_getElem? hx
      have hxl := (mem_kids.1 hxk).1
      have hpe : pb = adr (key x) := by
        rw [List.getElem?_map, hx] at hpb; exact (Option.some.inj hpb).symm
      subst hpe
      obtain ⟨-, -, ux, hbx, -⟩ := HT.out.nodes x hxl
      have q0 := h1 wr he'
      have q1 := hbx.at_ (i := 0) (u := .string (nameOf (key x))) rfl wr he'
      rw [root_path HG.out hxk] at q1
      have hp23 := pathOk_len (itemOk_path (HG.out.fits hxl).1)
      have hs2 : ¬ 9223372036854775807 < x.path.size := by omega
      have hps : x.path.size < lim := by unfold lim; omega
      have hcat : (⟨#[]⟩ : ByteArray) ++ x.path = x.path := bl_inj (by rw [bl_append]; rfl)
      have hst : ks.take (j + 1) = ks.take j ++ [x.path] := by
        rw [List.take_add_one, ← Hks.out, List.getElem?_map, hx]; rfl
      have hpl : (ks.take j).length ≤ 12 := by rw [List.length_take]; omega
      have Hst := Lib.hid hst; have Hpl := Lib.hid hpl
      generalize ks.take j = ps at *
      clear h1 h2 hbx hx hnm hpb hxk hxl hst hp23
      have HO := Lib.hid hO
      clear hO
      go_wp2_with (at_builtin; go_must (refine wp_ap1 (w0 := w1) (by rfl) _ _ (by rfl) el_string estr_ok he' _ ps [x.path] (by rfl) HO.out 1 1 rfl #[.string x.path] _ (by rfl) (by first | rfl | simp) rfl (one_cells rfl) (one_E ⟨rfl, hps⟩) ?_ ?_))
      · have := Hpl.out; simp; unfold lim; omega
      · intro v' w' hO' he2 hg2
        have HO' := Lib.hid hO'
        have HE2 := Lib.hid he2
        clear hO' he2
        go_wp2
        go_roundw
        case rel => exact ⟨j + 1, by omega, by go_num, HE2.out, by rw [Hst.out]; exact HO'.out⟩
        case measure => simp [RowKit.intOf]; omega
    · obtain rfl : j = n := by omega
      have e : ks.take j = ks := List.take_of_length_le (by rw [Hkl.out]; exact Nat.le_refl _)
      rw [e] at hO
      obtain ⟨A9, c9, hv9⟩ := hO.form
      rw [Hkl.out] at hv9
      subst hv9
      have HS : Hid (Strs w.heap.size wr (.slice A9 j c9) ks) := Lib.hid (hO.sl estr_ok he1.size (by rw [Hkl.out]; unfold lim; omega))
      clear hO e
      go_wp2
      go_ret2
      exact ⟨_, rfl, ⟨_, rfl, by rw [Hks.out]; exact HS.out⟩, he1.trans he'⟩
set_option maxHeartbeats 1000000 in
theorem FnUsedAll_big {A : Option Addr} {n c : Nat} (w : World) (hn : 1048576 < n) (hm : n ≤ maxLen) : Calls Tryz.prog 9 #[.slice A n c] w (Ret (.bool true) w) := by
  unfold maxLen at hm
  have h : (1048576 : Int) < (n : Int) := by omega
  go_enter Tryz.func9, Tryz.ntmps9
  go_wp2
  go_ret
  exact ⟨rfl, Ext.refl w⟩
set_option maxRecDepth 8000 in
set_option maxHeartbeats 4000000 in
theorem FnUsedAll_c {v : Value} {xs : List Int} (w : World) (h : Bys w v xs) (hm : ML w) (hl : xs.length ≤ 1048576) : Calls Tryz.prog 9 #[v] w (Ret (.bool true) w) := by
  have H := Lib.hid h
  obtain ⟨A0, c0, rfl, -⟩ := h
  have HM := Lib.hid hm; clear hm
  have hn : ¬ (1048576 : Int) < (xs.length : Int) := by omega
  go_enter Tryz.func9, Tryz.ntmps9
  go_wp2_with fail
  refine (DrawQuotaUsed_c _ H.out).mono ?_
  rintro e w1 ⟨us, ut, un, p, rfl, ⟨s, t, l, hS, hT, hN, ht12, hl7, hlt12⟩, hp, he1⟩
  obtain ⟨A1, c1, rfl, hSs⟩ := id hS
  obtain ⟨A2, c2, rfl, hTs⟩ := id hT
  obtain ⟨A3, c3, rfl, hNs⟩ := id hN
  have HM1 := Lib.hid (HM.out.ext he1)
  obtain ⟨m, hm⟩ : ∃ n, s.length = n := ⟨_, rfl⟩
  obtain ⟨n, hn⟩ : ∃ n, t.length = n := ⟨_, rfl⟩
  obtain ⟨q, hq⟩ : ∃ n, l.length = n := ⟨_, rfl⟩
  have Hm := Lib.hid hm; have Hn := Lib.hid hn; have Hq := Lib.hid hq
  have hS2 : Hds w.heap.size w1 (.slice A1 m c1) s := by rw [← hm]; exact hS
  have hT2 : Its w.heap.size w1 (.slice A2 n c2) t := by rw [← hn]; exact hT
  have hN2 : Sns w.heap.size w1 (.slice A3 q c3) l := by rw [← hq]; exact hN
  rw [hn] at ht12; rw [hq] at hl7
  have HS := Lib.hid hS2; have HT := Lib.hid hT2; have HN := Lib.hid hN2; have HNs := Lib.hid hNs; have HTs := Lib.hid hTs; have HLT := Lib.hid hlt12; have HP := Lib.hid hp
  clear hS hT hN hT2 hS2 hN2 hTs hSs hNs hlt12 hp
  rw [hm, hn, hq]
  clear hm hn hq
  go_wp2_with fail
  have hbx := Blk.new w1 40 #[.slice A1 m c1, .slice A2 n c2, .slice A3 q c3]
  have e1b : Ext w1 (w1.alloc (.cells #[.slice A1 m c1, .slice A2 n c2, .slice A3 q c3] 40)) := (Ext.refl _).alloc _
  obtain ⟨g1, hg1⟩ : ∃ g, w1.heap.size = g := ⟨_, rfl⟩
  rw [hg1] at hbx
  generalize hb1 : w1.alloc (.cells #[.slice A1 m c1, .slice A2 n c2, .slice A3 q c3] 40) = b1 at *
  have X1_0 := Lib.hid fun W (e : Ext b1 W) => hbx.at_ (i := 0) (u := .slice A1 m c1) rfl W e
  have X1_1 := Lib.hid fun W (e : Ext b1 W) => hbx.at_ (i := 1) (u := .slice A2 n c2) rfl W e
  have X1_2 := Lib.hid fun W (e : Ext b1 W) => hbx.at_ (i := 2) (u := .slice A3 q c3) rfl W e
  clear hbx hb1
  have E1 := he1.trans e1b
  obtain ⟨x, hx⟩ : ∃ x, quotaU s t l p = x := ⟨_, rfl⟩
  have Ci := QuotaUsed_c p b1 (HS.out.ext e1b) (HT.out.ext e1b) (HN.out.ext e1b) HP.out (HM1.out.ext e1b)
  rw [hx] at Ci
  refine Ci.mono ?_
  rintro e w2 ⟨rfl, he2⟩
  have E2 := E1.trans he2
  have e12 := e1b.trans he2
  have q0 := X1_0.out w2 he2; have q1 := X1_1.out w2 he2; have q2 := X1_2.out w2 he2
  have Cs := specQuotaUsed_c p w2 (HS.out.ext e12) (HT.out.ext e12) (HN.out.ext e12) HP.out
  rw [hx] at Cs
  have HX := Lib.hid hx
  clear hx Ci
  go_wp2_with fail
  refine Cs.mono ?_
  rintro e w3 ⟨rfl, he3⟩
  have E3 := E2.trans he3
  have e13 := e12.trans he3
  have x0 := X1_0.out w3 (he2.trans he3); have x1 := X1_1.out w3 (he2.trans he3); have x2 := X1_2.out w3 (he2.trans he3)
  clear Cs q0 q1 q2
  by_cases h0 : x < 0
  · go_wp2
    go_ret
    exact ⟨rfl, E3⟩
  · have Ca := QuotaUsed_c ⟨#[]⟩ w3 (HS.out.ext e13) (HT.out.ext e13) (HN.out.ext e13) (by decide) (HM1.out.ext e13)
    obtain ⟨y, hy⟩ : ∃ y, quotaU s t l ⟨#[]⟩ = y := ⟨_, rfl⟩
    have hxy : x ≤ y := by
      obtain ⟨h1, h2, h3⟩ := quota_dir (s := s) (t := t) (l := l) (d := p) (by rw [HX.out]; omega)
      have h4 := quota_of (s := s) (t := t) (l := l) h1 dirOk_nil
      have h5 := used_all s t p
      rw [← HX.out, ← hy, h3, h4]
      omega
    rw [hy] at Ca
    clear hy
    go_wp2_with fail
    refine Ca.mono ?_
    rintro e w4 ⟨rfl, he4⟩
    go_wp2
    go_ret
    exact ⟨rfl, E3.trans he4⟩
set_option maxHeartbeats 1000000 in
theorem FnUsedParts_big {A : Option Addr} {n c : Nat} (w : World) (hn : 1048576 < n) (hm : n ≤ maxLen) : Calls Tryz.prog 10 #[.slice A n c] w (Ret (.bool true) w) := by
  unfold maxLen at hm
  have h : (1048576 : Int) < (n : Int) := by omega
  go_enter Tryz.func10, Tryz.ntmps10
  go_wp2
  go_ret
  exact ⟨rfl, Ext.refl w⟩
set_option maxRecDepth 8000 in
set_option maxHeartbeats 4000000 in
theorem FnUsedParts_c {v : Value} {xs : List Int} (w : World) (h : Bys w v xs) (hm : ML w) (hl : xs.length ≤ 1048576) : Calls Tryz.prog 10 #[v] w (Ret (.bool true) w) := by
  have H := Lib.hid h
  obtain ⟨A0, c0, rfl, -⟩ := h
  have HM := Lib.hid hm; clear hm
  have hn : ¬ (1048576 : Int) < (xs.length : Int) := by omega
  go_enter Tryz.func10, Tryz.ntmps10
  go_wp2_with fail
  refine (DrawQuotaUsed_c _ H.out).mono ?_
  rintro e w1 ⟨us, ut, un, p, rfl, ⟨s, t, l, hS, hT, hN, ht12, hl7, hlt12⟩, hp, he1⟩
  obtain ⟨A1, c1, rfl, hSs⟩ := id hS
  obtain ⟨A2, c2, rfl, hTs⟩ := id hT
  obtain ⟨A3, c3, rfl, hNs⟩ := id hN
  have HM1 := Lib.hid (HM.out.ext he1)
  obtain ⟨m, hm⟩ : ∃ n, s.length = n := ⟨_, rfl⟩
  obtain ⟨n, hn⟩ : ∃ n, t.length = n := ⟨_, rfl⟩
  obtain ⟨q, hq⟩ : ∃ n, l.length = n := ⟨_, rfl⟩
  have Hm := Lib.hid hm; have Hn := Lib.hid hn; have Hq := Lib.hid hq
  have hS2 : Hds w.heap.size w1 (.slice A1 m c1) s := by rw [← hm]; exact hS
  have hT2 : Its w.heap.size w1 (.slice A2 n c2) t := by rw [← hn]; exact hT
  have hN2 : Sns w.heap.size w1 (.slice A3 q c3) l := by rw [← hq]; exact hN
  rw [hn] at ht12; rw [hq] at hl7
  have HS := Lib.hid hS2; have HT := Lib.hid hT2; have HN := Lib.hid hN2; have HNs := Lib.hid hNs; have HTs := Lib.hid hTs; have HLT := Lib.hid hlt12; have HP := Lib.hid hp
  clear hS hT hN hT2 hS2 hN2 hTs hSs hNs hlt12 hp
  rw [hm, hn, hq]
  clear hm hn hq
  go_wp2_with fail
  have hbx := Blk.new w1 40 #[.slice A1 m c1, .slice A2 n c2, .slice A3 q c3]
  have e1b : Ext w1 (w1.alloc (.cells #[.slice A1 m c1, .slice A2 n c2, .slice A3 q c3] 40)) := (Ext.refl _).alloc _
  obtain ⟨g1, hg1⟩ : ∃ g, w1.heap.size = g := ⟨_, rfl⟩
  rw [hg1] at hbx
  generalize hb1 : w1.alloc (.cells #[.slice A1 m c1, .slice A2 n c2, .slice A3 q c3] 40) = b1 at *
  have X1_0 := Lib.hid fun W (e : Ext b1 W) => hbx.at_ (i := 0) (u := .slice A1 m c1) rfl W e
  have X1_1 := Lib.hid fun W (e : Ext b1 W) => hbx.at_ (i := 1) (u := .slice A2 n c2) rfl W e
  have X1_2 := Lib.hid fun W (e : Ext b1 W) => hbx.at_ (i := 2) (u := .slice A3 q c3) rfl W e
  clear hbx hb1
  have E1 := he1.trans e1b
  obtain ⟨x, hx⟩ : ∃ x, quotaU s t l p = x := ⟨_, rfl⟩
  have CQ : Hid (∀ W d, Ext w1 W → d.size < lim → Calls Tryz.prog 37 #[.agg #[.slice A1 m c1, .slice A2 n c2, .slice A3 q c3], .string d] W (Ret (.int .i64 (quotaU s t l d)) W)) := Lib.hid fun W d e hd => QuotaUsed_c d W (HS.out.ext e) (HT.out.ext e) (HN.out.ext e) hd (HM1.out.ext e)
  have Ci := CQ.out b1 p e1b HP.out
  rw [hx] at Ci
  refine Ci.mono ?_
  rintro e w2 ⟨rfl, he2⟩
  have E2 := E1.trans he2
  have e12 := e1b.trans he2
  have q0 := X1_0.out w2 he2; have q1 := X1_1.out w2 he2; have q2 := X1_2.out w2 he2
  have Cs := specQuotaUsed_c p w2 (HS.out.ext e12) (HT.out.ext e12) (HN.out.ext e12) HP.out
  rw [hx] at Cs
  have HX := Lib.hid hx
  clear hx Ci
  go_wp2_with fail
  refine Cs.mono ?_
  rintro e w3 ⟨rfl, he3⟩
  have E3 := E2.trans he3
  have e13 := e12.trans he3
  have XO0 := Lib.hid fun W (e : Ext w3 W) => X1_0.out W ((he2.trans he3).trans e); have XO1 := Lib.hid fun W (e : Ext w3 W) => X1_1.out W ((he2.trans he3).trans e); have XO2 := Lib.hid fun W (e : Ext w3 W) => X1_2.out W ((he2.trans he3).trans e)
  clear Cs q0 q1 q2 X1_0 X1_1 X1_2
  by_cases h0 : x < 0
  · go_wp2
    go_ret
    exact ⟨rfl, E3⟩
  · obtain ⟨hd, hdo, hxu⟩ := quota_dir (s := s) (t := t) (l := l) (d := p) (by rw [HX.out]; omega)
    rw [HX.out] at hxu
    have HD := Lib.hid hd; have HXU := Lib.hid hxu; have HDO := Lib.hid hdo
    obtain ⟨hso, hto, hfit, h6, hsn⟩ := disk_parts hd
    have HSO := Lib.hid hso; have HTO := Lib.hid hto; have HFit := Lib.hid hfit
    have h12 := (treeOk_iff'.1 hto).1
    rw [Hn.out] at h12
    clear hd hdo hxu hso hto hfit h6 hsn
    have x1 := XO1.out w3 (Ext.refl _)
    go_wp2_with fail
    refine (TreeList_root_c w3 (HT.out.ext e13) HTO.out (HM1.out.ext e13)).mono ?_
    rintro e w4 ⟨u4, rfl, ⟨u5, rfl, hL⟩, he4⟩
    obtain ⟨A5, c5, rfl, hLs⟩ := id hL
    obtain ⟨ks, hks⟩ : ∃ ks, (kidsOf t []).map (·.path) = ks := ⟨_, rfl⟩
    rw [hks] at hL hLs ⊢
    obtain ⟨r, hr⟩ : ∃ n, ks.length = n := ⟨_, rfl⟩
    have HKs := Lib.hid hks; have Hr := Lib.hid hr; have HLs := Lib.hid hLs
    rw [hr]
    have hr12 : r ≤ 12 := by
      rw [← hr, ← hks, List.length_map]
      have : (kidsOf t []).length ≤ t.length := List.length_filter_le _ _
      rw [Hn.out] at this
      omega
    have hqd : ∀ y, y ∈ kidsOf t [] → quotaU s t l y.path = (usedT s t y.path : Nat) := fun y hy => quota_of HD.out (dirOk_path (tree_path HTO.out (mem_kids.1 hy).1))
    have hbd : ∀ d, usedT s t d ≤ 384 := fun d => by
      have := used_take_le HSO.out HFit.out (by rw [Hn.out]; exact h12) d t.length
      rwa [List.take_of_length_le (Nat.le_refl _)] at this
    have hsum := used_parts s HTO.out
    have hall := used_all s t p
    have Hqd := Lib.hid hqd; have Hbd := Lib.hid hbd; have Hsum := Lib.hid hsum; have Hall := Lib.hid hall
    clear hL hLs hks hr hqd hbd hsum hall x1
    obtain ⟨sm, hsm⟩ : ∃ sm : Nat → Nat, ∀ k, sm k = (((kidsOf t []).take k).map fun y => usedT s t y.path).sum := ⟨_, fun _ => rfl⟩
    have Hsm := Lib.hid hsm
    have hs0 : sm 0 = 0 := by rw [hsm]; rfl
    clear hsm
    go_wp2
    go_loopw [9, 10] (fun v i wr => ∃ k : Nat, k ≤ r ∧ v = .int .i64 (sm k : Nat) ∧ i = .int .i64 k ∧ Ext w4 wr) (fun _ i _ => r - (RowKit.intOf i).toNat)
    case atStart => exact ⟨0, by omega, by rw [hs0]; rfl, rfl, Ext.refl _⟩
    case round =>
      obtain ⟨k, hk, rfl, rfl, he⟩ := hrel
      have e3r := he4.trans he
      by_cases hlt : k < r
      · obtain ⟨y, hy⟩ := get_of_lt (l := kidsOf t []) (k := k) (by have := Hr.out; rw [← HKs.out, List.length_map] at this; omega)
        have hky : ks[k]? = some y.path := by rw [← HKs.out, List.getElem?_map, hy]; rfl
        obtain ⟨b5, o5, rfl, -, -, hps, hc0⟩ := Strs.at_ HLs.out hky
        have a0 := fun W (e : Ext wr W) => hc0 W (he.trans e)
        have hym := List.mem_of_getElem? hy
        have Cq := fun W (e : Ext wr W) => CQ.out W y.path ((e13.trans e3r).trans e) hps
        simp only [Hqd.out y hym] at Cq
        have hsk : sm (k + 1) = sm k + usedT s t y.path := by
          rw [Hsm.out, Hsm.out, List.take_add_one, hy, Option.toList_some, List.map_append, List.sum_append]; simp
        have hub := Hbd.out y.path
        have hsb : sm k ≤ 12 * 384 := by
          rw [Hsm.out]
          have := sum_le2 (fun y : It => usedT s t y.path) 384 ((kidsOf t []).take k) fun y _ => Hbd.out y.path
          have h2 : ((kidsOf t []).take k).length ≤ k := by rw [List.length_take]; omega
          have h3 : ((kidsOf t []).take k).length * 384 ≤ 12 * 384 := Nat.mul_le_mul_right _ (by omega)
          omega
        have Hsk := Lib.hid hsk
        generalize usedT s t y.path = uy at *
        have hw : IntKind.i64.wrap ((sm k : Int) + (uy : Int)) = (sm k : Int) + (uy : Int) := IntWalk.i64_in _ (by omega)
        have x0 := fun W (e : Ext wr W) => XO0.out W (e3r.trans e); have x1 := fun W (e : Ext wr W) => XO1.out W (e3r.trans e); have x2 := fun W (e : Ext wr W) => XO2.out W (e3r.trans e)
        generalize sm k = sk at *
        clear hky hc0 hym hy hsk
        go_wp2
        refine wp_region_hold (fun W => (W.cell? ⟨g1, 0, none⟩ = some (.slice A1 m c1) ∧ W.cell? ⟨g1, 1, none⟩ = some (.slice A2 n c2) ∧ W.cell? ⟨g1, 2, none⟩ = some (.slice A3 q c3)) ∧ W.cell? ⟨b5, o5 + k, none⟩ = some (.string y.path)) 7 [(0, true), (1, true), (2, true), (3, true), (4, true), (5, true), (6, false)] (by kernel_rfl) (by kernel_rfl) ?_ ?_
        · have e := (Ext.refl wr).drew
          exact ⟨⟨x0 _ e, x1 _ e, x2 _ e⟩, a0 _ e⟩
        (repeat (first | (apply hw_read (by rfl) (by rfl); (· (intro W hW; (try dsimp only at hW); go_simp; (first | done | rfl | (rw [if_pos] <;> first | omega | rfl)))); (try simp only [Act.put, List.setIfInBounds_toArray, List.set_cons_zero, List.set_cons_succ])) | (refine hw_skip (by rfl) (by rfl) ?_; (try simp only [Act.put, List.setIfInBounds_toArray, List.set_cons_zero, List.set_cons_succ]))))
        refine hw_step (by rfl) ?_
        go_wp2_with (go_at_call 37; refine (Cq _ (Ext.refl _).drew).mono ?_; rintro e w6 ⟨rfl, he60⟩)
        have he6 := (Ext.refl wr).drew.trans he60
        (try refine ⟨⟨⟨x0 _ he6, x1 _ he6, x2 _ he6⟩, a0 _ he6⟩, ?_⟩)
        clear x0 x1 x2 a0
        (try (repeat (first | (apply hw_read (by rfl) (by rfl); (· (intro W hW; (try dsimp only at hW); go_simp; (first | done | rfl | (rw [if_pos] <;> first | omega | rfl)))); (try simp only [Act.put, List.setIfInBounds_toArray, List.set_cons_zero, List.set_cons_succ])) | (refine hw_skip (by rfl) (by rfl) ?_; (try simp only [Act.put, List.setIfInBounds_toArray, List.set_cons_zero, List.set_cons_succ])))))
        (refine hw_nil ?_; (try simp only [List.drop_succ_cons, List.drop_zero]))
        go_wp2
        refine NoPanic.normal ?_
        (try dsimp only [Exit.then])
        (try go_wp2)
        go_roundw
        case rel => exact ⟨k + 1, by omega, by rw [Hsk.out]; simp, by go_num, he.trans he6⟩
        case measure => simp [RowKit.intOf]; omega
      · obtain rfl : k = r := by omega
        have hsr : sm k = usedT s t ⟨#[]⟩ := by
          rw [Hsm.out, List.take_of_length_le, Hsum.out]
          have := Hr.out
          rw [← HKs.out, List.length_map] at this
          omega
        rw [hsr]
        have Cq := CQ.out wr ⟨#[]⟩ (e13.trans e3r) (by decide)
        rw [quota_of HD.out dirOk_nil] at Cq
        have hxu := HXU.out
        have hall := Hall.out
        generalize usedT s t ⟨#[]⟩ = ua at *
        generalize usedT s t p = up at *
        subst hxu
        have hle : (up : Int) ≤ (ua : Int) := by omega
        have x0 := XO0.out wr e3r; have x1 := XO1.out wr e3r; have x2 := XO2.out wr e3r
        clear hall hsr
        go_wp2_with fail
        refine Cq.mono ?_
        rintro e w6 ⟨rfl, he6⟩
        go_wp2
        go_ret
        exact ⟨rfl, (E3.trans e3r).trans he6⟩
theorem noids_dir {x : It} (h : itemOk x = true) (hd : x.dir = true) : x.ids = [] := by
  unfold itemOk idsOk at h
  simp only [Bool.and_eq_true, List.all_eq_true] at h
  cases hi : x.ids with
  | nil => rfl
  | cons i r =>
    have := h.1 i (by rw [hi]; simp)
    rw [hd] at this
    simp at this
set_option maxRecDepth 4000 in
set_option maxHeartbeats 4000000 in
theorem readTree_c {B B' B2 : Nat} {vs vt vn : Value} {s : List Hd} {t : List It} {l : List Sn} {x : It} (w : World) (hs : Hds B w vs s) (ht : Its B' w vt t) (hn : Sns B2 w vn l) (hso : StoreOk s) (hto : treeOk t = true) (hx : x ∈ t) (hf : IdsFit s x.ids) (hp : x.path.size < lim) (hm : ML w) :
    Calls Tryz.prog 39 #[.agg #[vs, vt, vn], .string x.path] w (RetP (fun r _ => ∃ A c n, r = .tuple #[.slice A n c, .bool (!x.dir)] ∧ (x.dir = false → n = (loadOf s x.ids).length)) w) := by
  have HS := Lib.hid hs; have HT := Lib.hid ht; have HM := Lib.hid hm; have HF := Lib.hid hf; have HSO := Lib.hid hso; have HTO := Lib.hid hto; have HXm := Lib.hid hx
  obtain ⟨A, c, rfl, -⟩ := hs
  obtain ⟨A2, c2, rfl, -⟩ := ht
  obtain ⟨A3, c3, rfl, -⟩ := hn
  have e0 : Ext w (w.alloc (.cells #[.slice A s.length c, .slice A2 t.length c2, .slice A3 l.length c3] 40)) := (Ext.refl w).alloc _
  have hbk := Blk.new w 40 #[.slice A s.length c, .slice A2 t.length c2, .slice A3 l.length c3]
  have d0 := fun W (e : Ext (w.alloc (.cells #[.slice A s.length c, .slice A2 t.length c2, .slice A3 l.length c3] 40)) W) => hbk.at_ (i := 0) (u := .slice A s.length c) rfl W e
  have CF := TreeFind_c _ (HT.out.ext e0) HTO.out x.path hp (HM.out.ext e0)
  rw [tree_find HTO.out HXm.out] at CF
  clear hbk hm hf hso hto hx
  go_enter Tryz.func39, Tryz.ntmps39
  go_wp2_with fail
  refine CF.mono ?_
  rintro e w5 ⟨u5, rfl, he5, hV5⟩
  simp only [Option.isSome_some, Option.getD_some] at hV5 ⊢
  obtain ⟨u6, rfl, -, hI6⟩ := hV5
  obtain ⟨A7, c7, rfl, -⟩ := id hI6
  have HI6 := Lib.hid hI6
  have E5 := e0.trans he5
  have y0 := fun o => d0 (w5.alloc o) (he5.alloc o)
  clear CF hI6
  cases hxd : x.dir with
  | true =>
    go_wp2
    go_ret2
    exact ⟨_, rfl, ⟨_, _, _, by rw [hxd]; rfl, fun h => by rw [hxd] at h; cases h⟩, by first | exact (E5.alloc _).alloc _ | exact E5.alloc _⟩
  | false =>
    go_wp2_with fail
    have e5b := (Ext.refl w5).alloc (.cells #[.string x.path, .bool false, .slice A7 x.ids.length c7] 47)
    have CL := FileLoad_c _ (HS.out.ext (E5.trans e5b)) (HI6.out.ext e5b) (storeOk_iff.2 HSO.out)
    rw [show loadIf s x.ids = some (loadOf s x.ids) by unfold loadIf; rw [if_pos (idsFit_iff.2 HF.out)]] at CL
    refine CL.mono ?_
    rintro e w6 ⟨u7, rfl, ⟨u8, rfl, hI8⟩, he6⟩
    simp only [Option.isSome_some, Option.getD_some] at hI8 ⊢
    obtain ⟨A8, c8, rfl, -⟩ := id hI8
    clear hI8 CL
    go_wp2
    go_ret2
    exact ⟨_, rfl, ⟨_, _, _, by rw [hxd]; rfl, fun _ => rfl⟩, (E5.trans e5b).trans he6⟩
set_option maxHeartbeats 1000000 in
theorem FnUsed_big {A : Option Addr} {n c : Nat} (w : World) (hn : 1048576 < n) (hm : n ≤ maxLen) : Calls Tryz.prog 11 #[.slice A n c] w (Ret (.bool true) w) := by
  unfold maxLen at hm
  have h : (1048576 : Int) < (n : Int) := by omega
  go_enter Tryz.func11, Tryz.ntmps11
  go_wp2
  go_ret
  exact ⟨rfl, Ext.refl w⟩
set_option maxRecDepth 8000 in
set_option maxHeartbeats 4000000 in
theorem FnUsed_c {v : Value} {xs : List Int} (w : World) (h : Bys w v xs) (hm : ML w) (hl : xs.length ≤ 1048576) : Calls Tryz.prog 11 #[v] w (Ret (.bool true) w) := by
  have H := Lib.hid h
  obtain ⟨A0, c0, rfl, -⟩ := h
  have HM := Lib.hid hm; clear hm
  have hn : ¬ (1048576 : Int) < (xs.length : Int) := by omega
  go_enter Tryz.func11, Tryz.ntmps11
  go_wp2_with fail
  refine (DrawQuotaUsed_c _ H.out).mono ?_
  rintro e w1 ⟨us, ut, un, p, rfl, ⟨s, t, l, hS, hT, hN, ht12, hl7, hlt12⟩, hp, he1⟩
  obtain ⟨A1, c1, rfl, hSs⟩ := id hS
  obtain ⟨A2, c2, rfl, hTs⟩ := id hT
  obtain ⟨A3, c3, rfl, hNs⟩ := id hN
  have HM1 := Lib.hid (HM.out.ext he1)
  obtain ⟨m, hm⟩ : ∃ n, s.length = n := ⟨_, rfl⟩
  obtain ⟨n, hn⟩ : ∃ n, t.length = n := ⟨_, rfl⟩
  obtain ⟨q, hq⟩ : ∃ n, l.length = n := ⟨_, rfl⟩
  have Hm := Lib.hid hm; have Hn := Lib.hid hn; have Hq := Lib.hid hq
  have hS2 : Hds w.heap.size w1 (.slice A1 m c1) s := by rw [← hm]; exact hS
  have hT2 : Its w.heap.size w1 (.slice A2 n c2) t := by rw [← hn]; exact hT
  have hN2 : Sns w.heap.size w1 (.slice A3 q c3) l := by rw [← hq]; exact hN
  rw [hn] at ht12; rw [hq] at hl7
  have HS := Lib.hid hS2; have HT := Lib.hid hT2; have HN := Lib.hid hN2; have HNs := Lib.hid hNs; have HTs := Lib.hid hTs; have HLT := Lib.hid hlt12; have HP := Lib.hid hp
  clear hS hT hN hT2 hS2 hN2 hTs hSs hNs hlt12 hp
  rw [hm, hn, hq]
  clear hm hn hq
  go_wp2_with fail
  have hbx := Blk.new w1 40 #[.slice A1 m c1, .slice A2 n c2, .slice A3 q c3]
  have e1b : Ext w1 (w1.alloc (.cells #[.slice A1 m c1, .slice A2 n c2, .slice A3 q c3] 40)) := (Ext.refl _).alloc _
  obtain ⟨g1, hg1⟩ : ∃ g, w1.heap.size = g := ⟨_, rfl⟩
  rw [hg1] at hbx
  generalize hb1 : w1.alloc (.cells #[.slice A1 m c1, .slice A2 n c2, .slice A3 q c3] 40) = b1 at *
  have X1_0 := Lib.hid fun W (e : Ext b1 W) => hbx.at_ (i := 0) (u := .slice A1 m c1) rfl W e
  have X1_1 := Lib.hid fun W (e : Ext b1 W) => hbx.at_ (i := 1) (u := .slice A2 n c2) rfl W e
  have X1_2 := Lib.hid fun W (e : Ext b1 W) => hbx.at_ (i := 2) (u := .slice A3 q c3) rfl W e
  clear hbx hb1
  have E1 := he1.trans e1b
  obtain ⟨x, hx⟩ : ∃ x, quotaU s t l p = x := ⟨_, rfl⟩
  have CQ : Hid (∀ W d, Ext w1 W → d.size < lim → Calls Tryz.prog 37 #[.agg #[.slice A1 m c1, .slice A2 n c2, .slice A3 q c3], .string d] W (Ret (.int .i64 (quotaU s t l d)) W)) := Lib.hid fun W d e hd => QuotaUsed_c d W (HS.out.ext e) (HT.out.ext e) (HN.out.ext e) hd (HM1.out.ext e)
  have Ci := CQ.out b1 p e1b HP.out
  rw [hx] at Ci
  refine Ci.mono ?_
  rintro e w2 ⟨rfl, he2⟩
  have E2 := E1.trans he2
  have e12 := e1b.trans he2
  have q0 := X1_0.out w2 he2; have q1 := X1_1.out w2 he2; have q2 := X1_2.out w2 he2
  have Cs := specQuotaUsed_c p w2 (HS.out.ext e12) (HT.out.ext e12) (HN.out.ext e12) HP.out
  rw [hx] at Cs
  have HX := Lib.hid hx
  clear hx Ci
  go_wp2_with fail
  refine Cs.mono ?_
  rintro e w3 ⟨rfl, he3⟩
  have E3 := E2.trans he3
  have e13 := e12.trans he3
  have XO0 := Lib.hid fun W (e : Ext w3 W) => X1_0.out W ((he2.trans he3).trans e); have XO1 := Lib.hid fun W (e : Ext w3 W) => X1_1.out W ((he2.trans he3).trans e); have XO2 := Lib.hid fun W (e : Ext w3 W) => X1_2.out W ((he2.trans he3).trans e)
  clear Cs q0 q1 q2 X1_0 X1_1 X1_2
  by_cases h0 : x < 0
  · go_wp2
    go_ret
    exact ⟨rfl, E3⟩
  · obtain ⟨hd, hdo, hxu⟩ := quota_dir (s := s) (t := t) (l := l) (d := p) (by rw [HX.out]; omega)
    rw [HX.out] at hxu
    have HD := Lib.hid hd; have HXU := Lib.hid hxu; have HDO := Lib.hid hdo
    obtain ⟨hso, hto, hfit, h6, hsn⟩ := disk_parts hd
    have HSO := Lib.hid hso; have HTO := Lib.hid hto; have HFit := Lib.hid hfit
    have h12 := (treeOk_iff'.1 hto).1
    rw [Hn.out] at h12
    clear hd hdo hxu hso hto hfit h6 hsn
    have hbd : ∀ k, ((t.take k).map (useOf s p)).sum ≤ 384 := fun k => used_take_le HSO.out HFit.out (by rw [Hn.out]; exact h12) p k
    have Hbd := Lib.hid hbd
    obtain ⟨sm, hsm⟩ : ∃ sm : Nat → Nat, ∀ k, sm k = ((t.take k).map (useOf s p)).sum := ⟨_, fun _ => rfl⟩
    have Hsm := Lib.hid hsm
    have hs0 : sm 0 = 0 := by rw [hsm]; rfl
    clear hsm hbd
    go_wp2
    go_loopw [7, 8] (fun v i wr => ∃ k : Nat, k ≤ n ∧ v = .int .i64 (sm k : Nat) ∧ i = .int .i64 k ∧ Ext w3 wr) (fun _ i _ => n - (RowKit.intOf i).toNat)
    case atStart => exact ⟨0, by omega, by rw [hs0]; rfl, rfl, Ext.refl _⟩
    case round =>
      obtain ⟨k, hk, rfl, rfl, he⟩ := hrel
      have x0 := XO0.out wr he; have x1 := XO1.out wr he; have x2 := XO2.out wr he
      by_cases hlt : k < n
      · obtain ⟨y, hy⟩ := get_of_lt (l := t) (k := k) (by rw [Hn.out]; exact hlt)
        obtain ⟨b5, o5, u5, rfl, -, -, hps, -, hc0, -, -⟩ := Its.at_ HTs.out hy
        have hym := List.mem_of_getElem? hy
        have a0 := hc0 wr (e13.trans he)
        have A0 := Lib.hid fun W (e : Ext wr W) => hc0 W ((e13.trans he).trans e)
        have X0 := Lib.hid fun W (e : Ext wr W) => XO0.out W (he.trans e); have X1 := Lib.hid fun W (e : Ext wr W) => XO1.out W (he.trans e); have X2 := Lib.hid fun W (e : Ext wr W) => XO2.out W (he.trans e)
        have hpo := tree_path HTO.out hym
        have hfx := HFit.out y hym
        have hsk : sm (k + 1) = sm k + useOf s p y := by
          rw [Hsm.out, Hsm.out, sum_take _ hy]
        have hsb : sm (k + 1) ≤ 384 := by rw [Hsm.out]; exact Hbd.out _
        have huo : useOf s p y = if within y.path p = true then (loadOf s y.ids).length else 0 := rfl
        have hdi : y.dir = true → (loadOf s y.ids).length = 0 := fun hd => by
          have := noids_dir ((treeOk_iff'.1 HTO.out).2.fits hym).1 hd
          rw [this]; rfl
        have CR0 := fun W (e : Ext wr W) => readTree_c W (HS.out.ext ((e13.trans he).trans e)) (HT.out.ext ((e13.trans he).trans e)) (HN.out.ext ((e13.trans he).trans e)) HSO.out HTO.out hym hfx hps (HM1.out.ext ((e13.trans he).trans e))
        have Hsk := Lib.hid hsk
        have Hhy := Lib.hid (And.intro hpo (And.intro huo hdi))
        clear hc0 hy hym hpo hfx hsk huo hdi
        go_wp2
        refine wp_region_hold (fun W => (W.cell? ⟨g1, 0, none⟩ = some (.slice A1 m c1) ∧ W.cell? ⟨g1, 1, none⟩ = some (.slice (some ⟨b5, o5, none⟩) n c2) ∧ W.cell? ⟨g1, 2, none⟩ = some (.slice A3 q c3)) ∧ W.cell? ⟨b5, o5 + k * 3, none⟩ = some (.string y.path)) 12 [(0, true), (1, true), (2, true), (3, true), (4, true), (5, true), (6, true), (7, false), (8, true), (9, true), (10, true), (11, true)] (by kernel_rfl) (by kernel_rfl) ?_ ?_
        · have e := (Ext.refl wr).drew
          exact ⟨⟨X0.out _ e, X1.out _ e, X2.out _ e⟩, A0.out _ e⟩
        (repeat (first | (apply hw_read (by rfl) (by rfl); (· (intro W hW; (try dsimp only at hW); go_simp; (first | done | rfl | (rw [if_pos] <;> first | omega | rfl)))); (try simp only [Act.put, List.setIfInBounds_toArray, List.set_cons_zero, List.set_cons_succ])) | (refine hw_skip (by rfl) (by rfl) ?_; (try simp only [Act.put, List.setIfInBounds_toArray, List.set_cons_zero, List.set_cons_succ]))))
        refine hw_step (by rfl) ?_
        have CR := CR0 _ (Ext.refl wr).drew
        go_wp2_with (go_at_call 39; refine CR.mono ?_; rintro e w6 ⟨u6, rfl, ⟨A6, c6, n6, rfl, hn6⟩, he60⟩)
        have he6 := (Ext.refl wr).drew.trans he60
        (try refine ⟨⟨⟨X0.out _ he6, X1.out _ he6, X2.out _ he6⟩, A0.out _ he6⟩, ?_⟩)
        (try (repeat (first | (apply hw_read (by rfl) (by rfl); (· (intro W hW; (try dsimp only at hW); go_simp; (first | done | rfl | (rw [if_pos] <;> first | omega | rfl)))); (try simp only [Act.put, List.setIfInBounds_toArray, List.set_cons_zero, List.set_cons_succ])) | (refine hw_skip (by rfl) (by rfl) ?_; (try simp only [Act.put, List.setIfInBounds_toArray, List.set_cons_zero, List.set_cons_succ])))))
        (refine hw_nil ?_; (try simp only [List.drop_succ_cons, List.drop_zero]))
        go_wp2
        refine NoPanic.normal ?_
        (try dsimp only [Exit.then])
        have e36 := he.trans he6
        have p1 := X1.out w6 he6; have p0 := A0.out w6 he6
        clear x0 x1 x2 a0 CR CR0
        obtain ⟨yd, hyd⟩ : ∃ b, y.dir = b := ⟨_, rfl⟩
        rw [hyd] at hn6 ⊢
        have Hyd := Lib.hid hyd
        cases yd with
        | true =>
          have h9 : useOf s p y = 0 := by rw [Hhy.out.2.1, Hhy.out.2.2 Hyd.out]; simp
          have h10 : sm (k + 1) = sm k := by rw [Hsk.out, h9]; rfl
          have H10 := Lib.hid h10
          clear h9 h10 hn6 hyd
          go_wp2
          go_roundw
          case rel => exact ⟨k + 1, by omega, by rw [H10.out], by go_num, e36⟩
          case measure => simp [RowKit.intOf]; omega
        | false =>
          obtain rfl := hn6 rfl
          have CW := PathWithin_c y.path p w6 hps HP.out (HM1.out.ext (e13.trans e36))
          rw [Hhy.out.1, Bool.true_and] at CW
          obtain ⟨wi, hwi⟩ : ∃ b, within y.path p = b := ⟨_, rfl⟩
          rw [hwi] at CW
          have h10 : sm (k + 1) = sm k + if wi = true then (loadOf s y.ids).length else 0 := by rw [Hsk.out, Hhy.out.2.1, hwi]
          generalize (loadOf s y.ids).length = n6 at *
          have H10 := Lib.hid h10
          rw [h10] at hsb
          generalize sm k = sk at *
          clear h10 hwi hyd
          cases wi with
          | true =>
            simp only [if_true] at hsb H10
            have hw : IntKind.i64.wrap ((sk : Int) + (n6 : Int)) = (sk : Int) + (n6 : Int) := IntWalk.i64_in _ (by omega)
            go_wp2_with (go_at_call 40; refine CW.mono ?_; rintro e w7 ⟨rfl, he7⟩)
            go_roundw
            case rel => exact ⟨k + 1, by omega, by rw [H10.out]; simp, by go_num, e36.trans he7⟩
            case measure => simp [RowKit.intOf]; omega
          | false =>
            simp only [Bool.false_eq_true, if_false, Nat.add_zero] at H10
            go_wp2_with (go_at_call 40; refine CW.mono ?_; rintro e w7 ⟨rfl, he7⟩)
            go_roundw
            case rel => exact ⟨k + 1, by omega, by rw [H10.out], by go_num, e36.trans he7⟩
            case measure => simp [RowKit.intOf]; omega
      · obtain rfl : k = n := by omega
        have hsr : sm k = usedT s t p := by
          rw [Hsm.out, List.take_of_length_le (by rw [Hn.out]; exact Nat.le_refl _)]; rfl
        rw [hsr]
        have hxu := HXU.out
        generalize usedT s t p = up at *
        subst hxu
        clear x0 x2
        go_wp2
        go_ret
        exact ⟨rfl, E3.trans he⟩
end Go.Sf
