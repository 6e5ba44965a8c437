/- Which quotas are over: the reference. -/
import Derived.Test.YtneabdoianmfhaaGreatDoorT105
namespace Go.Sf
open Go Go.RowKit Go.Proofs Go.Maps
noncomputable def qtOver (s : List Hd) (t : List It) (x : Qt) : Bool := decide (x.most < (usedBut s t x.dir ⟨#[]⟩ : Nat))
noncomputable def overL (s : List Hd) (t : List It) (q : List Qt) : List ByteArray := (q.filter (qtOver s t)).map Qt.dir
noncomputable def overOf (s : List Hd) (t : List It) (l : List Sn) (q : List Qt) : List ByteArray := if (diskOk s t l && quotasOk q) = true then overL s t q else []
theorem over_take {s : List Hd} {t : List It} {q : List Qt} {k : Nat} {x : Qt} (h : q[k]? = some x) : overL s t (q.take (k + 1)) = overL s t (q.take k) ++ (if qtOver s t x = true then [x.dir] else []) := by
  unfold overL
  rw [List.take_add_one, h, Option.toList_some, List.filter_append, List.map_append]
  congr 1
  rw [List.filter_cons]
  split <;> rfl
theorem over_len {s : List Hd} {t : List It} (q : List Qt) : (overL s t q).length ≤ q.length := by
  unfold overL; rw [List.length_map]; exact List.length_filter_le _ _
set_option maxRecDepth 8000 in
set_option maxHeartbeats 4000000 in
theorem specQuotasOver_c {B B' B2 B3 : Nat} {vs vt vn vq : Value} {s : List Hd} {t : List It} {l : List Sn} {q : List Qt} (w : World) (hs : Hds B w vs s) (ht : Its B' w vt t) (hn : Sns B2 w vn l) (hq : Qts B3 w vq q) :
    Calls Tryz.prog 30 #[.agg #[vs, vt, vn], vq] w (RetP (fun v w' => Strs w.heap.size w' v (overOf s t l q)) w) := by
  have HS := Lib.hid hs; have HT := Lib.hid ht; have HN := Lib.hid hn; have HQ := Lib.hid hq
  obtain ⟨A, c, rfl, -⟩ := hs
  obtain ⟨A2, c2, rfl, -⟩ := ht
  obtain ⟨A3, c3, rfl, -⟩ := hn
  obtain ⟨A4, c4, rfl, hA⟩ := hq
  have hl := hA.2.2.1
  unfold lim at hl
  have e0 : Ext w (w.alloc (.cells #[.slice A s.length c, .slice A2 t.length c2, .slice A3 l.length c3] 33)) := (Ext.refl w).alloc _
  have hbk := Blk.new w 33 #[.slice A s.length c, .slice A2 t.length c2, .slice A3 l.length c3]
  have d0 := fun W (e : Ext _ W) => hbk.at_ (i := 0) (u := .slice A s.length c) rfl W e
  have d1 := fun W (e : Ext _ W) => hbk.at_ (i := 1) (u := .slice A2 t.length c2) rfl W e
  have d2 := fun W (e : Ext _ W) => hbk.at_ (i := 2) (u := .slice A3 l.length c3) rfl W e
  have Cd := fun W (e : Ext (w.alloc (.cells #[.slice A s.length c, .slice A2 t.length c2, .slice A3 l.length c3] 33)) W) => specDiskValid_c W (HS.out.ext (e0.trans e)) (HT.out.ext (e0.trans e)) (HN.out.ext (e0.trans e))
  have Cq := fun W (e : Ext (w.alloc (.cells #[.slice A s.length c, .slice A2 t.length c2, .slice A3 l.length c3] 33)) W) => specQuotasValid_c W (HQ.out.ext (e0.trans e))
  have HA := Lib.hid hA
  clear hbk hA
  generalize hmm : q.length = m at *
  have Hm := Lib.hid hmm; clear hmm
  have HO0 : Hid (OwnS (w.alloc (.cells #[.slice A s.length c, .slice A2 t.length c2, .slice A3 l.length c3] 33)).heap.size 9 1 EStr ((w.alloc (.cells #[.slice A s.length c, .slice A2 t.length c2, .slice A3 l.length c3] 33)).alloc (.cells #[] 9)) (.slice (some ⟨w.heap.size + 1, 0, none⟩) 0 0) ([] : List ByteArray)) := Lib.hid (by
    have := OwnS.lit0 (B := (w.alloc (.cells #[.slice A s.length c, .slice A2 t.length c2, .slice A3 l.length c3] 33)).heap.size) 9 1 EStr (w.alloc (.cells #[.slice A s.length c, .slice A2 t.length c2, .slice A3 l.length c3] 33)) (Nat.le_refl _)
    rwa [show (w.alloc (.cells #[.slice A s.length c, .slice A2 t.length c2, .slice A3 l.length c3] 33)).heap.size = w.heap.size + 1 from by simp] at this ⊢)
  cases hv : diskOk s t l && quotasOk q with
  | false =>
    have Hr : Hid (overOf s t l q = []) := Lib.hid (by unfold overOf; rw [hv]; rfl)
    go_enter Tryz.func30, Tryz.ntmps30
    go_wp2
    go_loopw [5, 6] (fun v i wr => i = .int .i64 0 ∧ OwnS (w.alloc (.cells #[.slice A s.length c, .slice A2 t.length c2, .slice A3 l.length c3] 33)).heap.size 9 1 EStr wr v ([] : List ByteArray) ∧ Ext (w.alloc (.cells #[.slice A s.length c, .slice A2 t.length c2, .slice A3 l.length c3] 33)) wr) (fun _ i _ => m - (intOf i).toNat)
    case atStart => exact ⟨rfl, HO0.out, (Ext.refl _).alloc _⟩
    case round =>
      obtain ⟨rfl, hO, he⟩ := hrel
      have q0 := d0 wr he; have q1 := d1 wr he; have q2 := d2 wr he
      by_cases h0 : 0 < m
      · have h0' : (0 : Int) < (m : Int) := by omega
        cases hd : diskOk s t l with
        | false =>
          simp only [hd] at Cd
          clear hv hd Cq
          have hO2 := Lib.hid hO; clear hO
          go_wp2_with (go_at_call 53; refine (Cd _ he).mono ?_; rintro e w2 ⟨rfl, he2⟩)
          go_ret
          exact ⟨_, rfl, by rw [Hr.out]; exact (hO2.out.ext estr_ok he2).sl estr_ok e0.size (by simp), e0.trans (he.trans he2)⟩
        | true =>
          rw [hd, Bool.true_and] at hv
          simp only [hd] at Cd
          simp only [hv] at Cq
          clear hv hd
          have hO2 := Lib.hid hO; clear hO
          go_wp2_with (first | (go_at_call 53; refine (Cd _ he).mono ?_; rintro e w2 ⟨rfl, he2⟩) | (go_at_call 88; refine (Cq _ (he.trans he2)).mono ?_; rintro e w3 ⟨rfl, he3⟩))
          go_ret
          exact ⟨_, rfl, by rw [Hr.out]; exact (hO2.out.ext estr_ok (he2.trans he3)).sl estr_ok e0.size (by simp), e0.trans (he.trans (he2.trans he3))⟩
      · have h0' : ¬ (0 : Int) < (m : Int) := by omega
        have hO2 := Lib.hid hO; clear hO
        go_wp2
        go_ret
        exact ⟨_, rfl, by rw [Hr.out]; exact hO2.out.sl estr_ok e0.size (by simp), e0.trans he⟩
  | true =>
  have Hr : Hid (overOf s t l q = overL s t q) := Lib.hid (by unfold overOf; rw [hv]; rfl)
  rw [Bool.and_eq_true] at hv
  obtain ⟨hd, hqo⟩ := hv
  simp only [hd] at Cd
  simp only [hqo] at Cq
  obtain ⟨hso, hto, hfit, -, -⟩ := disk_parts hd
  have h12 := (treeOk_iff'.1 hto).1
  have Cu := fun d (hd : d.size < lim) W (e : Ext w W) => l15Used_c d ⟨#[]⟩ W (HS.out.ext e) (HT.out.ext e) (HN.out.ext e) hso hfit h12 hd
  clear hd hqo hso hto hfit h12
  go_enter Tryz.func30, Tryz.ntmps30
  go_wp2
  go_loopw [5, 6] (fun v i wr => ∃ k : Nat, k ≤ m ∧ i = .int .i64 k ∧ OwnS (w.alloc (.cells #[.slice A s.length c, .slice A2 t.length c2, .slice A3 l.length c3] 33)).heap.size 9 1 EStr wr v (overL s t (q.take k)) ∧ Ext (w.alloc (.cells #[.slice A s.length c, .slice A2 t.length c2, .slice A3 l.length c3] 33)) wr) (fun _ i _ => m - (intOf i).toNat)
  case atStart => exact ⟨0, by omega, rfl, HO0.out, (Ext.refl _).alloc _⟩
  case round =>
    obtain ⟨k, hk, rfl, hO, he⟩ := hrel
    have q0 := d0 wr he; have q1 := d1 wr he; have q2 := d2 wr he
    by_cases hlt : k < m
    · obtain ⟨x, hx⟩ := get_of_lt (l := q) (k := k) (by rw [Hm.out]; exact hlt)
      obtain ⟨b, o, rfl, -, -, hps, hmi, hc0, hc1⟩ := Qts.at_ HA.out hx
      have hlen : (overL s t (q.take k)).length ≤ k := Nat.le_trans (over_len _) (List.length_take_le _ _)
      have hst := over_take (s := s) (t := t) hx
      have hdf : qtOver s t x = decide (x.most < (usedBut s t x.dir ⟨#[]⟩ : Nat)) := rfl
      have Cx := fun W (e : Ext wr W) => Cu x.dir hps W ((e0.trans he).trans e)
      have a0 := fun W (e : Ext wr W) => hc0 W ((e0.trans he).trans e)
      have a1 := fun W (e : Ext wr W) => hc1 W ((e0.trans he).trans e)
      have D0 := fun W (e : Ext wr W) => d0 W (he.trans e)
      have D1 := fun W (e : Ext wr W) => d1 W (he.trans e)
      have D2 := fun W (e : Ext wr W) => d2 W (he.trans e)
      obtain ⟨A6, c6, rfl⟩ := hO.form
      have HO := Lib.hid hO
      generalize overL s t (q.take k) = ps at *
      generalize usedBut s t x.dir ⟨#[]⟩ = u at *
      by_cases hgt : x.most < (u : Int)
      · have hst2 : overL s t (q.take (k + 1)) = ps ++ [x.dir] := by rw [hst, hdf, decide_eq_true hgt]; rfl
        have Hst := Lib.hid hst2
        clear hst hst2 hdf hc0 hc1 hx d0 d1 d2 hO Cu
        go_wp2_with (first | (go_at_call 53; refine (Cd _ he).mono ?_; rintro e w2 ⟨rfl, he2⟩) | (go_at_call 88; refine (Cq _ (he.trans he2)).mono ?_; rintro e w3 ⟨rfl, he3⟩))
        have E3 := he2.trans he3
        refine wp_region_hold (fun W => Ext wr W) 12 [(0, true), (1, true), (2, true), (3, true), (4, true), (5, true), (7, true), (8, true), (9, true), (10, true), (11, true), (6, false)] (by kernel_rfl) (by kernel_rfl) ?_ ?_
        · exact E3.drew
        (repeat (first | (apply hw_read (by rfl) (by rfl); (· (intro W hW; (try dsimp only at hW); go_simp; (first | done | rfl | (rw [if_pos] <;> first | omega | rfl)))); (try simp only [Act.put, List.setIfInBounds_toArray, List.set_cons_zero, List.set_cons_succ])) | (refine hw_skip (by rfl) (by rfl) ?_; (try simp only [Act.put, List.setIfInBounds_toArray, List.set_cons_zero, List.set_cons_succ]))))
        refine hw_step (by rfl) ?_
        go_wp2_with (go_at_call 89; refine (Cx _ E3.drew).mono ?_; rintro e w6 ⟨rfl, he6⟩)
        have E7 := E3.drew.trans he6
        refine ⟨E7, ?_⟩
        (try (repeat (first | (apply hw_read (by rfl) (by rfl); (· (intro W hW; (try dsimp only at hW); go_simp; (first | done | rfl | (rw [if_pos] <;> first | omega | rfl)))); (try simp only [Act.put, List.setIfInBounds_toArray, List.set_cons_zero, List.set_cons_succ])) | (refine hw_skip (by rfl) (by rfl) ?_; (try simp only [Act.put, List.setIfInBounds_toArray, List.set_cons_zero, List.set_cons_succ])))))
        (refine hw_nil ?_; (try simp only [List.drop_succ_cons, List.drop_zero]))
        go_wp2
        refine NoPanic.normal ?_
        (try dsimp only [Exit.then])
        have he7 := he.trans E7
        have hO7 := HO.out.ext estr_ok E7
        go_wp2_with (at_builtin; go_must (refine wp_ap1 (w0 := (w.alloc (.cells #[.slice A s.length c, .slice A2 t.length c2, .slice A3 l.length c3] 33))) (by rfl) _ _ (by rfl) el_string estr_ok he7 _ ps [x.dir] (by rfl) hO7 1 1 rfl #[.string x.dir] _ (by rfl) (by first | rfl | simp) rfl (one_cells rfl) (one_E ⟨rfl, hps⟩) ?_ ?_))
        · simp; unfold lim; omega
        · intro v' w' hO' he' hg'
          clear hO7 he7
          go_wp2
          go_roundw
          case rel => exact ⟨k + 1, by omega, by go_num, by rw [Hst.out, show (w.alloc (.cells #[.slice A s.length c, .slice A2 t.length c2, .slice A3 l.length c3] 33)).heap.size = w.heap.size + 1 from by simp]; exact hO', he'⟩
          case measure => simp [intOf]; omega
      · have hst2 : overL s t (q.take (k + 1)) = ps := by rw [hst, hdf, decide_eq_false hgt]; simp
        have Hst := Lib.hid hst2
        clear hst hst2 hdf hc0 hc1 hx d0 d1 d2 hO Cu
        go_wp2_with (first | (go_at_call 53; refine (Cd _ he).mono ?_; rintro e w2 ⟨rfl, he2⟩) | (go_at_call 88; refine (Cq _ (he.trans he2)).mono ?_; rintro e w3 ⟨rfl, he3⟩))
        have E3 := he2.trans he3
        refine wp_region_hold (fun W => Ext wr W) 12 [(0, true), (1, true), (2, true), (3, true), (4, true), (5, true), (7, true), (8, true), (9, true), (10, true), (11, true), (6, false)] (by kernel_rfl) (by kernel_rfl) ?_ ?_
        · exact E3.drew
        (repeat (first | (apply hw_read (by rfl) (by rfl); (· (intro W hW; (try dsimp only at hW); go_simp; (first | done | rfl | (rw [if_pos] <;> first | omega | rfl)))); (try simp only [Act.put, List.setIfInBounds_toArray, List.set_cons_zero, List.set_cons_succ])) | (refine hw_skip (by rfl) (by rfl) ?_; (try simp only [Act.put, List.setIfInBounds_toArray, List.set_cons_zero, List.set_cons_succ]))))
        refine hw_step (by rfl) ?_
        go_wp2_with (go_at_call 89; refine (Cx _ E3.drew).mono ?_; rintro e w6 ⟨rfl, he6⟩)
        have E7 := E3.drew.trans he6
        refine ⟨E7, ?_⟩
        (try (repeat (first | (apply hw_read (by rfl) (by rfl); (· (intro W hW; (try dsimp only at hW); go_simp; (first | done | rfl | (rw [if_pos] <;> first | omega | rfl)))); (try simp only [Act.put, List.setIfInBounds_toArray, List.set_cons_zero, List.set_cons_succ])) | (refine hw_skip (by rfl) (by rfl) ?_; (try simp only [Act.put, List.setIfInBounds_toArray, List.set_cons_zero, List.set_cons_succ])))))
        (refine hw_nil ?_; (try simp only [List.drop_succ_cons, List.drop_zero]))
        go_wp2
        refine NoPanic.normal ?_
        (try dsimp only [Exit.then])
        (try go_wp2)
        go_roundw
        case rel => exact ⟨k + 1, by omega, by go_num, by rw [Hst.out]; exact HO.out.ext estr_ok E7, he.trans E7⟩
        case measure => simp [intOf]; omega
    · have hks : k = m := by omega
      subst hks
      have HO : Hid (OwnS (w.alloc (.cells #[.slice A s.length c, .slice A2 t.length c2, .slice A3 l.length c3] 33)).heap.size 9 1 EStr wr _ (overL s t q)) := Lib.hid (by have := hO; rwa [List.take_of_length_le (by rw [Hm.out]; exact Nat.le_refl _)] at this)
      clear hO
      go_wp2
      go_ret
      exact ⟨_, rfl, by rw [Hr.out]; exact HO.out.sl estr_ok e0.size (by have := over_len (s := s) (t := t) q; have := Hm.out; unfold lim; omega), e0.trans he⟩
end Go.Sf
