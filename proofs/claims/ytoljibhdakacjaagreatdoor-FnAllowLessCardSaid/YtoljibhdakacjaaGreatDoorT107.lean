/- Which quotas are over: the program. -/
import Derived.Test.YtoljibhdakacjaaGreatDoorHJ
namespace Go.Sf
open Go Go.RowKit Go.Proofs Go.Maps
set_option maxRecDepth 8000 in
set_option maxHeartbeats 8000000 in
theorem QuotasOver_c {a : Addr} {B B' B2 B3 : Nat} {vs vt vn vq : Value} {s : List Hd} {t : List It} {l : List Sn} {q : List Qt} (w : World) (hs : Hds B w vs s) (ht : Its B' w vt t) (hn : Sns B2 w vn l) (hq : Qts B3 w vq q) (hm : ML w) (hE : EB a w) :
    Calls Tryz.prog 16 #[.agg #[vs, vt, vn], vq] w (RetP (fun v w' => Strs w.heap.size w' v (overOf s t l q)) w) := by
  have HS := Lib.hid hs; have HT := Lib.hid ht; have HN := Lib.hid hn; have HQ := Lib.hid hq; have HM := Lib.hid hm
  obtain ⟨A, c, rfl, -⟩ := hs
  obtain ⟨A2, c2, rfl, -⟩ := ht
  obtain ⟨A3, c3, rfl, -⟩ := hn
  obtain ⟨A4, c4, rfl, hA⟩ := hq
  have hl := hA.2.2.1
  unfold lim at hl
  have HA := Lib.hid hA
  have e0 : Ext w (w.alloc (.cells #[.slice A s.length c, .slice A2 t.length c2, .slice A3 l.length c3] 27)) := (Ext.refl w).alloc _
  have Cn := newDisk_c _ (HS.out.ext e0) (HT.out.ext e0) (HN.out.ext e0) (HM.out.ext e0)
  clear hm hA
  go_enter Tryz.func16, Tryz.ntmps16
  go_wp2_with fail
  refine Cn.mono ?_
  rintro e w1 ⟨he1, ⟨hv, rfl⟩ | ⟨hv, g, rfl, b, adr, kv, v, aq, -, hD, hSt, hTr, -, -⟩⟩
  · have Hr : Hid (overOf s t l q = []) := Lib.hid (by unfold overOf; rw [hv]; rfl)
    clear hv Cn
    generalize q.length = m at *
    go_wp2
    go_ret
    exact ⟨_, rfl, by rw [Hr.out]; exact SlOf.nil _ _ _ _ _, e0.trans he1⟩
  have E1 := Lib.hid (e0.trans he1)
  have HE : Hid (EB a w1) := Lib.hid (hE.ext E1.out)
  have Cq := QuotasValid_c w1 (HQ.out.ext E1.out) (HM.out.ext E1.out)
  have g2 := fun W (e : Ext w1 W) => hD.at_ (i := 2) (u := .map (some b)) rfl W e
  have g3 := fun W (e : Ext w1 W) => hD.at_ (i := 3) (u := .pointer (some ⟨adr [], 0, none⟩)) rfl W e
  clear hD Cn hE
  cases hqo : quotasOk q with
  | false =>
    rw [hqo] at Cq
    have Hr : Hid (overOf s t l q = []) := Lib.hid (by unfold overOf; rw [hv, hqo]; rfl)
    clear hv hqo hSt hTr
    generalize q.length = m at *
    go_wp2_with (go_at_call 46; refine Cq.mono ?_; rintro e w2 ⟨rfl, he2⟩)
    go_ret
    exact ⟨_, rfl, by rw [Hr.out]; exact SlOf.nil _ _ _ _ _, E1.out.trans he2⟩
  | true =>
  rw [hqo] at Cq
  have Hr : Hid (overOf s t l q = overL s t q) := Lib.hid (by unfold overOf; rw [hv, hqo]; rfl)
  obtain ⟨hso, hto, hfit, -, -⟩ := disk_parts hv
  have Hun := Lib.hid fun d => used_none (s := s) hto d
  have Cu := fun d (hd : d.size < lim) W (e : Ext w1 W) => used_c d W hso (hSt.ext e) hto (hTr.ext e) hfit hd (HM.out.ext (E1.out.trans e))
  generalize hmm : q.length = m at *
  have Hm := Lib.hid hmm; clear hmm
  clear hv hqo hso hto hfit hSt hTr
  go_wp2_with (go_at_call 46; refine Cq.mono ?_; rintro e w2 ⟨rfl, he2⟩)
  go_loopw [7, 25] (fun v i wr => ∃ k : Nat, k ≤ m ∧ i = .int .i64 k ∧ OwnS w1.heap.size 9 1 EStr wr v (overL s t (q.take k)) ∧ Ext w1 wr) (fun _ i _ => m - (RowKit.intOf i).toNat)
  case atStart => exact ⟨0, by omega, rfl, OwnS.nil _ _ _ _ _, he2⟩
  case round =>
    obtain ⟨k, hk, rfl, hO, he⟩ := hrel
    by_cases hlt : k < m
    · obtain ⟨x, hx⟩ := get_of_lt (l := q) (k := k) (by rw [Hm.out]; exact hlt)
      obtain ⟨b9, o9, rfl, -, -, hps, hmi, hc0, hc1⟩ := Qts.at_ HA.out hx
      have a0 := hc0 wr (E1.out.trans he); have a1 := hc1 wr (E1.out.trans he)
      have ea : Ext wr (wr.alloc (.cells #[.string x.dir, .int .i64 x.most] 47)) := (Ext.refl wr).alloc _
      have hbs := Blk.new wr 47 #[.string x.dir, .int .i64 x.most]
      have s0 := fun W (e : Ext _ W) => hbs.at_ (i := 0) (u := .string x.dir) rfl W e
      have s1 := fun W (e : Ext _ W) => hbs.at_ (i := 1) (u := .int .i64 x.most) rfl W e
      have Cx := fun W (e : Ext w1 W) => Cu x.dir hps W e
      have Cc := fun z W (e : Ext w1 W) => check_c (a := a) x.dir x.most z W (HE.out.ext e)
      have G2 := fun W (e : Ext (wr.alloc (.cells #[.string x.dir, .int .i64 x.most] 47)) W) => g2 W (he.trans (ea.trans e))
      have G3 := fun W (e : Ext (wr.alloc (.cells #[.string x.dir, .int .i64 x.most] 47)) W) => g3 W (he.trans (ea.trans e))
      have hlen : (overL s t (q.take k)).length ≤ k := Nat.le_trans (over_len _) (List.length_take_le _ _)
      have hst := over_take (s := s) (t := t) hx
      have hdf : qtOver s t x = decide (x.most < (usedBut s t x.dir ⟨#[]⟩ : Nat)) := rfl
      rw [Hun.out] at hdf
      obtain ⟨A6, c6, rfl⟩ := hO.form
      have HO := Lib.hid hO
      clear hc0 hc1 hx hbs hO
      generalize overL s t (q.take k) = ps at *
      generalize usedT s t x.dir = u at *
      have Cd := Cc (u : Int)
      clear Cc
      by_cases hgt : x.most < (u : Int)
      · have hst2 : overL s t (q.take (k + 1)) = ps ++ [x.dir] := by rw [hst, hdf, decide_eq_true hgt]; rfl
        have Hst := Lib.hid hst2
        simp only [if_pos hgt] at Cd
        clear hst hst2 hdf
        go_wp2
        refine wp_region_hold (fun W => Ext (wr.alloc (.cells #[.string x.dir, .int .i64 x.most] 47)) W) 8 [(0, true), (1, true), (2, true), (3, true), (4, true), (5, true), (6, true), (7, false)] (by kernel_rfl) (by kernel_rfl) ?_ ?_
        · exact (Ext.refl _).drew
        (repeat (first | (apply hw_read (by rfl) (by rfl); (· (intro W hW; (try dsimp only at hW); go_simp; (first | done | rfl | (rw [if_pos] <;> first | omega | rfl)))); (try simp only [Act.put, List.setIfInBounds_toArray, List.set_cons_zero, List.set_cons_succ])) | (refine hw_skip (by rfl) (by rfl) ?_; (try simp only [Act.put, List.setIfInBounds_toArray, List.set_cons_zero, List.set_cons_succ]))))
        refine hw_step (by rfl) ?_
        go_wp2_with (go_at_call 48; refine (Cx _ (he.trans (ea.trans (Ext.refl _).drew))).mono ?_; rintro e w4 ⟨rfl, he4⟩)
        have he5 := (Ext.refl (wr.alloc (.cells #[.string x.dir, .int .i64 x.most] 47))).drew.trans he4
        refine ⟨he5, ?_⟩
        (try (repeat (first | (apply hw_read (by rfl) (by rfl); (· (intro W hW; (try dsimp only at hW); go_simp; (first | done | rfl | (rw [if_pos] <;> first | omega | rfl)))); (try simp only [Act.put, List.setIfInBounds_toArray, List.set_cons_zero, List.set_cons_succ])) | (refine hw_skip (by rfl) (by rfl) ?_; (try simp only [Act.put, List.setIfInBounds_toArray, List.set_cons_zero, List.set_cons_succ])))))
        (refine hw_nil ?_; (try simp only [List.drop_succ_cons, List.drop_zero]))
        go_wp2_with (go_at_call 47; refine (Cd _ (he.trans (ea.trans he5))).mono ?_; rintro e w6 ⟨rfl, he6⟩)
        refine NoPanic.normal ?_
        (try dsimp only [Exit.then])
        have z0 : w6.cell? ⟨0, 0, none⟩ = some (.iface 299 (.pointer (some a))) := HE.out.ext (he.trans (ea.trans (he5.trans he6)))
        have E6 : Ext w1 w6 := he.trans (ea.trans (he5.trans he6))
        have z1 := s0 w6 (he5.trans he6)
        have hO6 := HO.out.ext estr_ok (ea.trans (he5.trans he6))
        go_wp2_with (first | (go_at_call 49; refine (is_same a _).mono ?_; rintro e w7 ⟨rfl, rfl⟩) | (at_builtin; go_must (refine wp_ap1 (w0 := w1) (by rfl) _ _ (by rfl) el_string estr_ok E6 _ ps [x.dir] (by rfl) hO6 1 1 rfl #[.string x.dir] _ (by rfl) (by first | rfl | simp) rfl (one_cells rfl) (one_E ⟨rfl, hps⟩) ?_ ?_)))
        · simp; unfold lim; omega
        · intro v' w' hO' he' hg'
          clear hO6 E6
          go_wp2
          go_roundw
          case rel => exact ⟨k + 1, by omega, by go_num, by rw [Hst.out]; exact hO', he'⟩
          case measure => simp [RowKit.intOf]; omega
      · have hst2 : overL s t (q.take (k + 1)) = ps := by rw [hst, hdf, decide_eq_false hgt]; simp
        have Hst := Lib.hid hst2
        simp only [if_neg hgt] at Cd
        clear hst hst2 hdf
        go_wp2
        refine wp_region_hold (fun W => Ext (wr.alloc (.cells #[.string x.dir, .int .i64 x.most] 47)) W) 8 [(0, true), (1, true), (2, true), (3, true), (4, true), (5, true), (6, true), (7, false)] (by kernel_rfl) (by kernel_rfl) ?_ ?_
        · exact (Ext.refl _).drew
        (repeat (first | (apply hw_read (by rfl) (by rfl); (· (intro W hW; (try dsimp only at hW); go_simp; (first | done | rfl | (rw [if_pos] <;> first | omega | rfl)))); (try simp only [Act.put, List.setIfInBounds_toArray, List.set_cons_zero, List.set_cons_succ])) | (refine hw_skip (by rfl) (by rfl) ?_; (try simp only [Act.put, List.setIfInBounds_toArray, List.set_cons_zero, List.set_cons_succ]))))
        refine hw_step (by rfl) ?_
        go_wp2_with (go_at_call 48; refine (Cx _ (he.trans (ea.trans (Ext.refl _).drew))).mono ?_; rintro e w4 ⟨rfl, he4⟩)
        have he5 := (Ext.refl (wr.alloc (.cells #[.string x.dir, .int .i64 x.most] 47))).drew.trans he4
        refine ⟨he5, ?_⟩
        (try (repeat (first | (apply hw_read (by rfl) (by rfl); (· (intro W hW; (try dsimp only at hW); go_simp; (first | done | rfl | (rw [if_pos] <;> first | omega | rfl)))); (try simp only [Act.put, List.setIfInBounds_toArray, List.set_cons_zero, List.set_cons_succ])) | (refine hw_skip (by rfl) (by rfl) ?_; (try simp only [Act.put, List.setIfInBounds_toArray, List.set_cons_zero, List.set_cons_succ])))))
        (refine hw_nil ?_; (try simp only [List.drop_succ_cons, List.drop_zero]))
        go_wp2_with (go_at_call 47; refine (Cd _ (he.trans (ea.trans he5))).mono ?_; rintro e w6 ⟨rfl, he6⟩)
        refine NoPanic.normal ?_
        (try dsimp only [Exit.then])
        have z0 : w6.cell? ⟨0, 0, none⟩ = some (.iface 299 (.pointer (some a))) := HE.out.ext (he.trans (ea.trans (he5.trans he6)))
        have hO6 := Lib.hid (HO.out.ext estr_ok (ea.trans (he5.trans he6)))
        go_wp2_with (go_at_call 49; refine (is_nil a _).mono ?_; rintro e w7 ⟨rfl, rfl⟩)
        go_roundw
        case rel => exact ⟨k + 1, by omega, by go_num, by rw [Hst.out]; exact hO6.out, he.trans (ea.trans (he5.trans he6))⟩
        case measure => simp [RowKit.intOf]; omega
    · have hks : k = m := by omega
      subst hks
      have HO : Hid (OwnS w1.heap.size 9 1 EStr wr _ (overL s t q)) := Lib.hid (by have := hO; rwa [List.take_of_length_le (by rw [Hm.out]; exact Nat.le_refl _)] at this)
      clear hO
      go_wp2
      go_ret
      exact ⟨_, rfl, by rw [Hr.out]; exact HO.out.sl estr_ok E1.out.size (by have := over_len (s := s) (t := t) q; have := Hm.out; unfold lim; omega), E1.out.trans he⟩
end Go.Sf
