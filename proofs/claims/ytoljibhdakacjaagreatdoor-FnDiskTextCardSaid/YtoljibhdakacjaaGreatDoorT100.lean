/- Trees as text: the program's way. -/
import Derived.Test.YtoljibhdakacjaaGreatDoorT99
import Derived.Test.YtoljibhdakacjaaGreatDoorShelfB
namespace Go.Sf
open Go Go.RowKit Go.Proofs Go.Maps
theorem bl_str (s : ByteArray) : Lib.strCells s = Lib.byteCells (bl s) := by
  rw [Lib.strCells_eq]; rfl
set_option maxRecDepth 4000 in
set_option maxHeartbeats 2000000 in
theorem text_c {B B' b n : Nat} {xv : Value} {s : List Hd} {x : It} (w : World) (h : StoreAt B b n s w) (hx : ItV B' w xv x) (hs : StoreOk s) (hf : IdsFit s x.ids) (hp : pathOk x.path = true) :
    Calls Tryz.prog 72 #[.map (some b), xv] w (Ret (.string (lineB s x)) w) := by
  have H := Lib.hid h
  obtain ⟨u, rfl, hps, hu⟩ := hx
  have HU := Lib.hid hu
  obtain ⟨Au, cu, rfl, -⟩ := hu
  have hp23 := pathOk_len hp
  have h32 := load32 hs hf
  obtain ⟨xp, xd, xi⟩ := x
  simp only at hps hf hp23 h32 HU
  have e0 : Ext w (w.alloc (.cells #[.string xp, .bool xd, .slice Au xi.length cu] 57)) := (Ext.refl w).alloc _
  have hbk := Blk.new w 57 #[.string xp, .bool xd, .slice Au xi.length cu]
  have d0 := fun W (e : Ext _ W) => hbk.at_ (i := 0) (u := .string xp) rfl W e
  have d2 := fun W (e : Ext _ W) => hbk.at_ (i := 2) (u := .slice Au xi.length cu) rfl W e
  have HS := Lib.hid hs; have HF := Lib.hid hf
  clear hbk hs hf hp h
  cases xd with
  | true =>
    have Hr := Lib.hid (line_dir (s := s) (x := ⟨xp, true, xi⟩) rfl)
    have hs1 : ¬ 9223372036854775807 < xp.size + 1 := by omega
    go_enter Tryz.func72, Tryz.ntmps72
    go_wp2
    go_ret
    exact ⟨ret_s Hr.out.symm, e0⟩
  | false =>
    have Hr := Lib.hid (line_file (s := s) (x := ⟨xp, false, xi⟩) rfl)
    have Cf := fileIds_c _ HS.out (H.out.ext e0) (HU.out.ext e0)
    rw [idsFit_iff.2 HF.out] at Cf
    have Cz := fun W (e : Ext w W) => sizeOf_c W HS.out (H.out.ext e) (HU.out.ext e) HF.out
    have hd2 : (decB (loadOf s xi).length).size ≤ 2 := decB_size (by omega)
    have Cd := fun W => Tryz.strconv_Itoa_small (loadOf s xi).length (by omega) W
    rw [show (⟨(Lib.decDigits (loadOf s xi).length).toArray⟩ : ByteArray) = decB (loadOf s xi).length from rfl] at Cd
    simp only at Hr
    have hs1 : ¬ 9223372036854775807 < xp.size + 1 := by omega
    have e1 : (xp ++ (⟨#[32]⟩ : ByteArray)).size = xp.size + 1 := by rw [ByteArray.size_append]; rfl
    generalize decB (loadOf s xi).length = dd at *
    have hs2 : ¬ 9223372036854775807 < (xp ++ (⟨#[32]⟩ : ByteArray)).size + dd.size := by omega
    generalize (loadOf s xi).length = ll at *
    go_enter Tryz.func72, Tryz.ntmps72
    go_wp2_with (go_at_call 67; refine Cf.mono ?_; rintro e w2 ⟨rfl, he2⟩)
    refine wp_region_hold (fun W => W.cell? ⟨w.heap.size, 0, none⟩ = some (.string xp) ∧ W.cell? ⟨w.heap.size, 2, none⟩ = some (.slice Au xi.length cu)) 8 [(0, true), (1, true), (2, true), (3, true), (4, true), (5, true), (6, false), (7, false)] (by kernel_rfl) (by kernel_rfl) ?_ ?_
    · exact ⟨d0 _ he2.drew, d2 _ he2.drew⟩
    (repeat (first | (apply hw_read (by rfl) (by rfl); (· (intro W hW; (try dsimp only at hW); go_simp; (first | done | rfl | (rw [if_pos] <;> first | omega | rfl)))); (try simp only [Act.put, List.setIfInBounds_toArray, List.set_cons_zero, List.set_cons_succ])) | (refine hw_skip (by rfl) (by rfl) ?_; (try simp only [Act.put, List.setIfInBounds_toArray, List.set_cons_zero, List.set_cons_succ]))))
    refine hw_step (by rfl) ?_
    go_wp2_with (go_at_call 62; refine (Cz _ (e0.trans he2.drew)).mono ?_; rintro e w4 ⟨rfl, he4⟩)
    have he5 := he2.drew.trans he4
    refine ⟨⟨d0 _ he5, d2 _ he5⟩, ?_⟩
    (try (repeat (first | (apply hw_read (by rfl) (by rfl); (· (intro W hW; (try dsimp only at hW); go_simp; (first | done | rfl | (rw [if_pos] <;> first | omega | rfl)))); (try simp only [Act.put, List.setIfInBounds_toArray, List.set_cons_zero, List.set_cons_succ])) | (refine hw_skip (by rfl) (by rfl) ?_; (try simp only [Act.put, List.setIfInBounds_toArray, List.set_cons_zero, List.set_cons_succ])))))
    refine hw_step (by rfl) ?_
    go_wp2_with (go_at_call 116; refine (Cd _).mono ?_; rintro e w6 ⟨rfl, rfl⟩)
    refine ⟨⟨d0 _ he5, d2 _ he5⟩, ?_⟩
    (try (repeat (first | (apply hw_read (by rfl) (by rfl); (· (intro W hW; (try dsimp only at hW); go_simp; (first | done | rfl | (rw [if_pos] <;> first | omega | rfl)))); (try simp only [Act.put, List.setIfInBounds_toArray, List.set_cons_zero, List.set_cons_succ])) | (refine hw_skip (by rfl) (by rfl) ?_; (try simp only [Act.put, List.setIfInBounds_toArray, List.set_cons_zero, List.set_cons_succ])))))
    (refine hw_nil ?_; (try simp only [List.drop_succ_cons, List.drop_zero]))
    go_wp2
    refine NoPanic.normal ?_
    (try dsimp only [Exit.then])
    (try go_wp2)
    go_ret
    exact ⟨ret_s Hr.out.symm, e0.trans he5⟩
/-- the bytes that a builder has so far -/
def Bld (B : Nat) (t : ByteArray) (W : World) : Prop := Lib.IsBuilder 167 5 B B (Lib.byteCells (bl t)) W
theorem Bld.fresh (w : World) : Bld w.heap.size ⟨#[]⟩ (w.alloc (.cells #[.pointer none, .slice none 0 0] 167)) := Lib.fresh_isBuilder 167 5 w
theorem blderAt_ext {B b : Nat} {p : Value} {bs : List Value} {W W' : World} (h : Lib.BuilderAt 167 5 B b p bs W) (e : Ext W W') : Lib.BuilderAt 167 5 B b p bs W' := by
  obtain ⟨h1, v, hb, ⟨h2, h2'⟩, h3⟩ := h
  refine ⟨h1, v, Blk.ext (cs := #[p, v]) (t := 167) hb e, ⟨h2, ?_⟩, h3⟩
  rcases h2' with h | ⟨g, cap, cur, hv, hg, hh, r⟩
  · exact .inl h
  · exact .inr ⟨g, cap, cur, hv, hg, (Blk.ext (cs := cur) (t := 5) hh e), r⟩
theorem Bld.ext {B : Nat} {t : ByteArray} {W W' : World} (h : Bld B t W) (e : Ext W W') : Bld B t W' := h.imp (fun k => blderAt_ext k e) (fun k => blderAt_ext k e)
theorem bld_size {t : ByteArray} : (Lib.byteCells (bl t)).length = t.size := by
  rw [Lib.byteCells_length, bl_length]
theorem WriteString_c {B : Nat} {t : ByteArray} (s : ByteArray) (W : World) (h : Bld B t W) (hl : t.size + s.size ≤ 1000000) (hB : B ≤ W.heap.size) :
    Calls Tryz.prog 117 #[.pointer (some ⟨B, 0, none⟩), .string s] W fun e w' => e = .returned (.tuple #[.int .i64 s.size, .nilIface]) ∧ Bld B (t ++ s) w' ∧ Below B W w' :=
  (Tryz.Builder_WriteString B B _ s W h (by rw [bld_size]; omega) hB).mono fun _ _ ⟨h1, h2, h3⟩ => ⟨h1, .inr (by rw [bl_append, Lib.byteCells_append, ← bl_str]; exact h2), h3⟩
theorem WriteByte_c {B : Nat} {t : ByteArray} (c : UInt8) (W : World) (h : Bld B t W) (hl : t.size + 1 ≤ 1000000) (hB : B ≤ W.heap.size) :
    Calls Tryz.prog 145 #[.pointer (some ⟨B, 0, none⟩), .int .u8 c.toNat] W fun e w' => e = .returned .nilIface ∧ Bld B (t ++ ⟨#[c]⟩) w' ∧ Below B W w' :=
  (Tryz.Builder_WriteByte B B _ c.toNat W h (by rw [bld_size]; omega) hB).mono fun _ _ ⟨h1, h2, h3⟩ => ⟨h1, .inr (by rw [bl_append, Lib.byteCells_append]; exact h2), h3⟩
theorem BString_c {B : Nat} {t : ByteArray} (W : World) (h : Bld B t W) (hB : B ≤ W.heap.size) :
    Calls Tryz.prog 118 #[.pointer (some ⟨B, 0, none⟩)] W fun e w' => e = .returned (.string t) ∧ Below B W w' :=
  (Tryz.Builder_String_any B B (bl t) W h hB).mono fun _ _ ⟨h1, h2⟩ => ⟨by rw [h1]; congr 1, h2⟩
set_option maxRecDepth 4000 in
set_option maxHeartbeats 2000000 in
theorem lines_c {B B' b n : Nat} {vt : Value} {s : List Hd} {t : List It} (w : World) (h : StoreAt B b n s w) (ht : Its B' w vt t) (hs : StoreOk s) (hf : ∀ x, x ∈ t → IdsFit s x.ids ∧ pathOk x.path = true) (h12 : t.length ≤ 12) :
    Calls Tryz.prog 112 #[vt, .func (.func 72) #[.map (some b)] #[]] w (Ret (.string (textB s t)) w) := by
  have H := Lib.hid h
  obtain ⟨A2, c2, rfl, hA⟩ := ht
  have HA := Lib.hid hA
  have hbd := Lib.hid (take_size hs hf h12)
  have HS := Lib.hid hs; have HF := Lib.hid hf
  generalize hnn : t.length = n2 at *
  have Hn := Lib.hid hnn
  clear hnn hA hs hf h
  have hB0 := Lib.hid (Bld.fresh w)
  go_enter Tryz.func112, Tryz.ntmps112
  go_wp2
  go_loopw [10] (fun i wr => ∃ k : Nat, k ≤ n2 ∧ i = .int .i64 k ∧ Ext w wr ∧ w.heap.size < wr.heap.size ∧ Hid (Bld w.heap.size ((t.take k).foldl (textStep s) ⟨#[]⟩) wr)) (fun i _ => n2 - (RowKit.intOf i).toNat)
  case atStart => exact ⟨0, by omega, rfl, (Ext.refl w).alloc _, by simp, hB0⟩
  case round =>
    clear hB0
    obtain ⟨k, hk, rfl, he, hlt0, hBl⟩ := hrel
    by_cases hlt : k < n2
    · obtain ⟨x, hx⟩ := get_of_lt (l := t) (k := k) (by rw [Hn.out]; exact hlt)
      obtain ⟨b2, o, u, rfl, -, -, hps, hu, hc0, hc1, hc2⟩ := Its.at_ HA.out hx
      obtain ⟨hfit, hpok⟩ := HF.out x (List.mem_of_getElem? hx)
      have HU := Lib.hid (hu.ext he)
      obtain ⟨Au, cu, rfl, -⟩ := hu
      have a0 := hc0 wr he; have a1 := hc1 wr he; have a2 := hc2 wr he
      have ea : Ext wr (wr.alloc (.cells #[.string x.path, .bool x.dir, .slice Au x.ids.length cu] 57)) := (Ext.refl wr).alloc _
      have Ci := text_c (x := x) _ (H.out.ext (he.trans ea)) (⟨_, rfl, hps, HU.out.ext ea⟩ : ItV B' _ (.agg #[.string x.path, .bool x.dir, .slice Au x.ids.length cu]) x) HS.out hfit hpok
      have hst := foldl_take (textStep s) ⟨#[]⟩ hx
      have hb0 := hbd.out k
      have hls := line_size HS.out hfit hpok
      generalize (t.take k).foldl (textStep s) ⟨#[]⟩ = acc at *
      have hst2 : textStep s acc x = acc ++ lineB s x ++ ⟨#[10]⟩ := rfl
      rw [hst2] at hst
      generalize lineB s x = ln at *
      have Hst := Lib.hid hst
      have e1 : (acc ++ ln).size = acc.size + ln.size := ByteArray.size_append
      clear hst hst2 hx hc0 hc1 hc2
      go_wp2_with (go_at_call 72; refine Ci.mono ?_; rintro e w2 ⟨rfl, he2⟩)
      have E2 := ea.trans he2
      have hsz2 := E2.size
      have Cw := WriteString_c ln w2 (hBl.out.ext E2) (by omega) (by omega)
      clear hBl
      refine Cw.mono ?_
      rintro e w3 ⟨rfl, hB3, hl3⟩
      have hsz3 := hl3.size
      have Cb := WriteByte_c 10 w3 hB3 (by omega) (by omega)
      clear Cw hB3
      go_wp2_with fail
      refine Cb.mono ?_
      rintro e w4 ⟨rfl, hB4, hl4⟩
      have hsz4 := hl4.size
      have HB4 := Lib.hid hB4
      have E4 : Ext w w4 := Below.trans (Below.trans (he.trans E2) hl3) hl4
      clear hB4 Cb
      go_wp2
      go_roundw
      case rel => exact ⟨k + 1, by omega, by go_num, E4, by omega, by rw [Hst.out]; exact HB4⟩
      case measure => simp [RowKit.intOf]; omega
    · have hks : k = n2 := by omega
      subst hks
      have Hf : Hid ((t.take k).foldl (textStep s) ⟨#[]⟩ = textB s t) := Lib.hid (by rw [List.take_of_length_le (by rw [Hn.out]; exact Nat.le_refl _)]; rfl)
      rw [Hf.out] at hBl
      have Cs := BString_c wr hBl.out (by omega)
      clear Hf hBl
      go_wp2_with (go_at_call 118; refine Cs.mono ?_; rintro e w4 ⟨rfl, hl4⟩)
      go_ret
      exact ⟨rfl, Below.trans he hl4⟩
set_option maxRecDepth 4000 in
set_option maxHeartbeats 2000000 in
theorem treeText_c {B b n : Nat} {s : List Hd} {t : List It} {adr : Key → Nat} {kv : Key → Value} (w : World) (h : StoreAt B b n s w) (hs : StoreOk s) (ht : treeOk t = true) (hT : TreeAt B w t adr kv) (hf : ∀ x, x ∈ t → IdsFit s x.ids) :
    Calls Tryz.prog 68 #[.map (some b), .pointer (some ⟨adr [], 0, none⟩)] w (Ret (.string (textB s t)) w) := by
  have hg := treeOk_iff'.1 ht
  have Cl := list_c hT hg.2 hg.1
  have H := Lib.hid h; have HS := Lib.hid hs; have HF := Lib.hid (tree_ok_paths ht hf); have H12 := hg.1
  clear h hs ht hT hf hg
  go_enter Tryz.func68, Tryz.ntmps68
  go_wp2_with fail
  refine Cl.mono ?_
  rintro e w1 ⟨v1, rfl, hI, he1⟩
  have Cn := lines_c w1 (H.out.ext he1) hI HS.out HF.out H12
  obtain ⟨A2, c2, rfl, -⟩ := hI
  clear Cl
  go_wp2_with (go_at_call 112; refine Cn.mono ?_; rintro e w2 ⟨rfl, he2⟩)
  go_ret
  exact ⟨rfl, he1.trans he2⟩
set_option maxRecDepth 8000 in
set_option maxHeartbeats 4000000 in
theorem TreeText_c {B B' : Nat} {v vt : Value} {s : List Hd} {t : List It} (w : World) (h : Hds B w v s) (ht : Its B' w vt t) (hm : ML w) : Calls Tryz.prog 26 #[v, vt] w (Ret (.string (treeTextOf s t)) w) := by
  have Cn := newVolume_c w h ht hm
  obtain ⟨A, c, rfl, -⟩ := h
  obtain ⟨A2, c2, rfl, hA⟩ := ht
  have HA := Lib.hid hA
  have hl := hA.2.2.1
  unfold lim at hl
  clear hA hm
  generalize hnn : t.length = n2 at *
  have Hn := Lib.hid hnn
  clear hnn
  go_enter Tryz.func26, Tryz.ntmps26
  go_wp2_with fail
  refine Cn.mono ?_
  rintro e w1 ⟨he1, ⟨hv, rfl⟩ | ⟨hs1, ht1, b, adr, kv, rfl, hSt, hTr, -⟩⟩
  · have Hr : Hid (treeTextOf s t = ⟨#[]⟩) := Lib.hid (by
      unfold treeTextOf
      cases h1 : storeOk s with
      | false => rfl
      | true => rw [h1, Bool.true_and] at hv; rw [hv]; rfl)
    clear hv Cn
    go_wp2
    go_ret
    exact ⟨ret_s Hr.out.symm, he1.alloc _⟩
  have HSt := Lib.hid hSt; have HTr := Lib.hid hTr; have HS := Lib.hid (storeOk_iff.1 hs1); have HT := Lib.hid ht1
  have e2 : Ext w1 (w1.alloc (.cells #[.map (some b), .pointer (some ⟨adr [], 0, none⟩)] 83)) := (Ext.refl w1).alloc _
  have hbk := Blk.new w1 83 #[.map (some b), .pointer (some ⟨adr [], 0, none⟩)]
  have d0 := fun W (e : Ext _ W) => hbk.at_ (i := 0) (u := .map (some b)) rfl W e
  have d1 := fun W (e : Ext _ W) => hbk.at_ (i := 1) (u := .pointer (some ⟨adr [], 0, none⟩)) rfl W e
  clear Cn hbk hSt hTr hs1 ht1
  go_wp2
  go_loopw [19] (fun i wr => ∃ k : Nat, k ≤ n2 ∧ i = .int .i64 k ∧ Ext (w1.alloc (.cells #[.map (some b), .pointer (some ⟨adr [], 0, none⟩)] 83)) wr ∧ Hid ((t.take k).all (fun x => idsFit s x.ids) = true)) (fun i _ => n2 - (RowKit.intOf i).toNat)
  case atStart => exact ⟨0, by omega, rfl, Ext.refl _, Lib.hid rfl⟩
  case round =>
    obtain ⟨k, hk, rfl, he, hall⟩ := hrel
    have E := (he1.trans e2).trans he
    have q0 := d0 wr he
    by_cases hlt : k < n2
    · obtain ⟨x, hx⟩ := get_of_lt (l := t) (k := k) (by rw [Hn.out]; exact hlt)
      obtain ⟨b2, o, u, rfl, -, -, hps, hu, hc0, hc1, hc2⟩ := Its.at_ HA.out hx
      have HU := Lib.hid (hu.ext E)
      obtain ⟨Au, cu, rfl, -⟩ := hu
      have a0 := hc0 wr E; have a1 := hc1 wr E; have a2 := hc2 wr E
      have ea : Ext wr (wr.alloc (.cells #[.string x.path, .bool x.dir, .slice Au x.ids.length cu] 57)) := (Ext.refl wr).alloc _
      have Cf := fileIds_c _ HS.out (HSt.out.ext ((e2.trans he).trans ea)) (HU.out.ext ea)
      have z0 := d0 _ (he.trans ea)
      have Hx := Lib.hid hx
      clear hc0 hc1 hc2 hx
      cases hf : idsFit s x.ids with
      | false =>
        rw [hf] at Cf
        have Hr : Hid (treeTextOf s t = ⟨#[]⟩) := Lib.hid (by
          unfold treeTextOf
          have : filesFit s t = false := all_bad (p := fun (y : It) => idsFit s y.ids) Hx.out hf
          rw [this, Bool.and_false, Bool.and_false]; rfl)
        clear hf hall
        go_wp2_with (go_at_call 67; refine Cf.mono ?_; rintro e w5 ⟨rfl, he5⟩)
        go_ret
        exact ⟨ret_s Hr.out.symm, E.trans (ea.trans he5)⟩
      | true =>
        rw [hf] at Cf
        have Hr := Lib.hid (all_take hall.out Hx.out hf)
        clear hf hall
        go_wp2_with (go_at_call 67; refine Cf.mono ?_; rintro e w5 ⟨rfl, he5⟩)
        go_roundw
        case rel => exact ⟨k + 1, by omega, by go_num, he.trans (ea.trans he5), Hr⟩
        case measure => simp [RowKit.intOf]; omega
    · have hks : k = n2 := by omega
      subst hks
      have hff : filesFit s t = true := all_end hall.out Hn.out
      have Hr : Hid (textB s t = treeTextOf s t) := Lib.hid (by unfold treeTextOf; rw [storeOk_iff.2 HS.out, HT.out, hff]; rfl)
      have Ct := treeText_c wr (HSt.out.ext (e2.trans he)) HS.out HT.out (HTr.out.ext (e2.trans he)) (fits_all hff)
      rw [Hr.out] at Ct
      have q1 := d1 wr he
      clear hall hff
      go_wp2_with (go_at_call 68; refine Ct.mono ?_; rintro e w5 ⟨rfl, he5⟩)
      go_ret
      exact ⟨rfl, E.trans he5⟩
end Go.Sf
