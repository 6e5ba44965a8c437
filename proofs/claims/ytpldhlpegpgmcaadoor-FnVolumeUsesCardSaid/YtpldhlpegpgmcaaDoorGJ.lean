/- Paths within others and paths moved: the reference's and the program's. -/
import Derived.Test.YtpldhlpegpgmcaaDoorGE
import Derived.Test.YtpldhlpegpgmcaaDoorGI
import Derived.Test.YtpldhlpegpgmcaaDoorGD
/-! Paths within others and paths moved: the reference's and the program's. -/
namespace Go.Sf
open Go Go.RowKit Go.Proofs
end Go.Sf

/-! The reference puts an item into a tree. -/
namespace Go.Sf
open Go Go.RowKit Go.Proofs
def neP (x y : It) : Bool := !eqb y.path x.path
def restPut (x : It) (b : Bool) (l : List It) : List It := if b = true then l.filter (neP x) else putIt x l
theorem restPut_before {x y : It} {r : List It} (h : blt y.path x.path = true) : restPut x false (y :: r) = y :: restPut x false r := by
  simp [restPut, putIt, h]
theorem restPut_at {x y : It} {r : List It} (h : blt y.path x.path = false) : restPut x false (y :: r) = x :: restPut x true (y :: r) := by
  simp only [restPut, putIt]
  rw [if_neg (by simp), if_neg (by simp [h]), if_true]; rfl
theorem restPut_skip {x y : It} {r : List It} (h : y.path = x.path) : restPut x true (y :: r) = restPut x true r := by
  simp only [restPut, if_true]
  rw [List.filter_cons_of_neg (by rw [neP, eqb_true.2 h]; simp)]
theorem restPut_keep {x y : It} {r : List It} (h : y.path ≠ x.path) : restPut x true (y :: r) = y :: restPut x true r := by
  simp only [restPut, if_true]
  rw [List.filter_cons_of_pos (by rw [neP, eqb_false.2 h]; rfl)]
def PutRel (w w0 : World) (x : It) (l : List It) (n : Nat) (v d i : Value) (wr : World) : Prop :=
  ∃ (k : Nat) (bd : Bool) (out : List It), k ≤ n ∧ i = .int .i64 k ∧ d = .bool bd ∧ Ext w0 wr ∧ OwnS w0.heap.size 34 3 (EIt w.heap.size) wr v out ∧ (out.length ≤ k + 1 ∧ (bd = false → out.length ≤ k)) ∧ Hid (out ++ restPut x bd (l.drop k) = putIt x l)
set_option maxRecDepth 8000 in
set_option maxHeartbeats 2000000 in
theorem l5Put_c {B B' : Nat} {v xv : Value} {l : List It} {x : It} (w : World) (h : Its B w v l) (hx : ItV B' w xv x) (hlen : l.length + 1 < lim) :
    Calls Tryd.prog 56 #[v, xv] w (RetP (fun v' w' => OwnS w.heap.size 34 3 (EIt w.heap.size) w' v' (putIt x l)) w) := by
  obtain ⟨A, c, rfl, hA⟩ := h
  have HXV := Lib.hid hx
  obtain ⟨ux, rfl, hpx, hux⟩ := hx
  have hul := hux.len
  obtain ⟨Ax, cx, rfl, hAx⟩ := hux
  unfold lim at hlen
  have hex : ∃ n, l.length = n := ⟨_, rfl⟩
  obtain ⟨n, hn⟩ := hex
  rw [hn] at hlen ⊢
  have Hn := Lib.hid hn
  have HA := Lib.hid hA
  have hbx := Blk.new w 34 #[.string x.path, .bool x.dir, .slice Ax x.ids.length cx]
  have hw0 : ∃ w0, w0 = w.alloc (.cells #[.string x.path, .bool x.dir, .slice Ax x.ids.length cx] 34) := ⟨_, rfl⟩
  obtain ⟨w0, hw0⟩ := hw0
  have hs0 : w.heap.size + 1 = w0.heap.size := by rw [hw0]; simp
  have e0 : Ext w w0 := by rw [hw0]; exact (Ext.refl w).alloc _
  rw [← hw0] at hbx
  have E0 := Lib.hid e0; have Hs0 := Lib.hid hs0
  have HBX := Lib.hid hbx
  clear hA hn hAx e0 hbx hs0
  go_enter Tryd.func56, Tryd.ntmps56
  go_wp2
  rw [← hw0]
  clear hw0
  go_loopw [5, 6, 7] (fun v d i wr => PutRel w w0 x l n v d i wr) (fun _ _ i _ => n - (RowKit.intOf i).toNat)
  case atStart => exact ⟨0, false, [], by omega, rfl, rfl, (Ext.refl w0).alloc _, OwnS.lit _ _ _ _ (Nat.le_refl _) Hs0.out, ⟨by simp, fun _ => by simp⟩, Lib.hid rfl⟩
  case round =>
    obtain ⟨k, bd, out, hk, rfl, rfl, he, hO, ⟨hol, hol2⟩, hrest⟩ := hrel
    have HO := Lib.hid hO; clear hO
    have HXc : Hid (∀ W, Ext w0 W → W.cell? ⟨w.heap.size, 0, none⟩ = some (.string x.path) ∧ W.cell? ⟨w.heap.size, 1, none⟩ = some (.bool x.dir) ∧ W.cell? ⟨w.heap.size, 2, none⟩ = some (.slice Ax x.ids.length cx)) := Lib.hid fun W e => ⟨HBX.out.at_ rfl W e, HBX.out.at_ rfl W e, HBX.out.at_ rfl W e⟩
    have HX : Hid (∀ W, Ext w0 W → ItV B' W (.agg #[.string x.path, .bool x.dir, .slice Ax x.ids.length cx]) x) := Lib.hid fun W e => HXV.out.ext (E0.out.trans e)
    by_cases hlt : k < n
    · obtain ⟨y, hy⟩ := get_of_lt (l := l) (k := k) (by rw [Hn.out]; exact hlt)
      obtain ⟨b, o, u2, rfl, -, -, hpy, ⟨Ay, cy, rfl, huy⟩, hc0, hc1, hc2⟩ := Its.at_ HA.out hy
      have HYc : Hid (∀ W, Ext w0 W → W.cell? ⟨b, o + k * 3, none⟩ = some (.string y.path) ∧ W.cell? ⟨b, o + k * 3 + 1, none⟩ = some (.bool y.dir) ∧ W.cell? ⟨b, o + k * 3 + 2, none⟩ = some (.slice Ay y.ids.length cy)) := Lib.hid fun W e => ⟨hc0 W (E0.out.trans e), hc1 W (E0.out.trans e), hc2 W (E0.out.trans e)⟩
      have HY : Hid (∀ W, Ext w0 W → ItV B W (.agg #[.string y.path, .bool y.dir, .slice Ay y.ids.length cy]) y) := Lib.hid fun W e => ⟨_, rfl, hpy, Ints.ext (show Ints B w _ _ from ⟨_, _, rfl, huy⟩) (E0.out.trans e)⟩
      have hd := drop_cons hy
      rw [hd] at hrest
      clear hc0 hc1 hc2 huy hy hd hpy
      cases bd with
      | true =>
        by_cases hyx : y.path = x.path
        · have hbe : (y.path.toList == x.path.toList) = true := by rw [hyx]; simp
          rw [restPut_skip hyx] at hrest
          have Hr := hrest
          clear hyx hrest
          have y0 := fun W (e : Ext wr W) => (HYc.out W (he.trans e)).1
          have y1 := fun W (e : Ext wr W) => (HYc.out W (he.trans e)).2.1
          have y2 := fun W (e : Ext wr W) => (HYc.out W (he.trans e)).2.2
          have x0 := fun W (e : Ext wr W) => (HXc.out W (he.trans e)).1
          have x1 := fun W (e : Ext wr W) => (HXc.out W (he.trans e)).2.1
          have x2 := fun W (e : Ext wr W) => (HXc.out W (he.trans e)).2.2
          go_wp2
          refine wp_region_ext (by kernel_rfl) (by kernel_rfl) ?_
          repeat (first | (apply q_plain rfl; (· intro W eW; go_simp; (first | done | rfl | (rw [if_pos] <;> first | omega | rfl))); (try simp only [Act.put, List.setIfInBounds_toArray, List.set_cons_zero, List.set_cons_succ])) | (refine qg_skip (by rfl) ?_; (try simp only [Act.put, List.setIfInBounds_toArray, List.set_cons_zero, List.set_cons_succ])) | (apply qg_plain (by rfl); (· intro W eW; go_simp; (first | done | rfl | (rw [if_pos] <;> first | omega | rfl))); (try simp only [Act.put, List.setIfInBounds_toArray, List.set_cons_zero, List.set_cons_succ])))
          refine q_nil ?_
          intro w2 e2
          clear y0 y1 y2 x0 x1 x2
          have h2 := he.trans e2
          have y0 := fun W (e : Ext w2 W) => (HYc.out W (h2.trans e)).1
          have y1 := fun W (e : Ext w2 W) => (HYc.out W (h2.trans e)).2.1
          have y2 := fun W (e : Ext w2 W) => (HYc.out W (h2.trans e)).2.2
          have x0 := fun W (e : Ext w2 W) => (HXc.out W (h2.trans e)).1
          have x1 := fun W (e : Ext w2 W) => (HXc.out W (h2.trans e)).2.1
          have x2 := fun W (e : Ext w2 W) => (HXc.out W (h2.trans e)).2.2
          go_wp2
          refine wp_region_ext (by kernel_rfl) (by kernel_rfl) ?_
          repeat (first | (apply q_plain rfl; (· intro W eW; go_simp; (first | done | rfl | (rw [if_pos] <;> first | omega | rfl))); (try simp only [Act.put, List.setIfInBounds_toArray, List.set_cons_zero, List.set_cons_succ])) | (refine qg_skip (by rfl) ?_; (try simp only [Act.put, List.setIfInBounds_toArray, List.set_cons_zero, List.set_cons_succ])) | (apply qg_plain (by rfl); (· intro W eW; go_simp; (first | done | rfl | (rw [if_pos] <;> first | omega | rfl))); (try simp only [Act.put, List.setIfInBounds_toArray, List.set_cons_zero, List.set_cons_succ])))
          refine q_nil ?_
          intro w3 e3
          clear y0 y1 y2 x0 x1 x2
          have h3 := h2.trans e3
          go_wp2
          go_roundw
          case rel => exact ⟨k + 1, true, out, by omega, by go_num, rfl, h3, HO.out.ext (EIt_ok _) (e2.trans e3), ⟨by omega, fun h => by cases h⟩, Lib.hid (by simpa using Hr.out)⟩
          case measure => simp [RowKit.intOf]; omega
        · have hbe : (y.path.toList == x.path.toList) = false := by rw [bytes_ne_iff, decide_eq_false_iff_not]; exact hyx
          rw [restPut_keep hyx] at hrest
          have Hr := hrest
          clear hyx hrest
          have y0 := fun W (e : Ext wr W) => (HYc.out W (he.trans e)).1
          have y1 := fun W (e : Ext wr W) => (HYc.out W (he.trans e)).2.1
          have y2 := fun W (e : Ext wr W) => (HYc.out W (he.trans e)).2.2
          have x0 := fun W (e : Ext wr W) => (HXc.out W (he.trans e)).1
          have x1 := fun W (e : Ext wr W) => (HXc.out W (he.trans e)).2.1
          have x2 := fun W (e : Ext wr W) => (HXc.out W (he.trans e)).2.2
          go_wp2
          refine wp_region_ext (by kernel_rfl) (by kernel_rfl) ?_
          repeat (first | (apply q_plain rfl; (· intro W eW; go_simp; (first | done | rfl | (rw [if_pos] <;> first | omega | rfl))); (try simp only [Act.put, List.setIfInBounds_toArray, List.set_cons_zero, List.set_cons_succ])) | (refine qg_skip (by rfl) ?_; (try simp only [Act.put, List.setIfInBounds_toArray, List.set_cons_zero, List.set_cons_succ])) | (apply qg_plain (by rfl); (· intro W eW; go_simp; (first | done | rfl | (rw [if_pos] <;> first | omega | rfl))); (try simp only [Act.put, List.setIfInBounds_toArray, List.set_cons_zero, List.set_cons_succ])))
          refine q_nil ?_
          intro w2 e2
          clear y0 y1 y2 x0 x1 x2
          have h2 := he.trans e2
          have y0 := fun W (e : Ext w2 W) => (HYc.out W (h2.trans e)).1
          have y1 := fun W (e : Ext w2 W) => (HYc.out W (h2.trans e)).2.1
          have y2 := fun W (e : Ext w2 W) => (HYc.out W (h2.trans e)).2.2
          have x0 := fun W (e : Ext w2 W) => (HXc.out W (h2.trans e)).1
          have x1 := fun W (e : Ext w2 W) => (HXc.out W (h2.trans e)).2.1
          have x2 := fun W (e : Ext w2 W) => (HXc.out W (h2.trans e)).2.2
          go_wp2
          refine wp_region_ext (by kernel_rfl) (by kernel_rfl) ?_
          repeat (first | (apply q_plain rfl; (· intro W eW; go_simp; (first | done | rfl | (rw [if_pos] <;> first | omega | rfl))); (try simp only [Act.put, List.setIfInBounds_toArray, List.set_cons_zero, List.set_cons_succ])) | (refine qg_skip (by rfl) ?_; (try simp only [Act.put, List.setIfInBounds_toArray, List.set_cons_zero, List.set_cons_succ])) | (apply qg_plain (by rfl); (· intro W eW; go_simp; (first | done | rfl | (rw [if_pos] <;> first | omega | rfl))); (try simp only [Act.put, List.setIfInBounds_toArray, List.set_cons_zero, List.set_cons_succ])))
          refine q_nil ?_
          intro w3 e3
          clear y0 y1 y2 x0 x1 x2
          have h3 := h2.trans e3
          have HOa := Lib.hid (HO.out.ext (EIt_ok _) (e2.trans e3))
          have q0 := (HYc.out w3 h3).1
          have q1 := (HYc.out w3 h3).2.1
          have q2 := (HYc.out w3 h3).2.2
          go_wp2_with (first | (go_at_call 65; refine (l5Copy_c (x := y) _ (HY.out _ h3)).mono ?_; rintro e wca ⟨v3, rfl, ⟨u9, rfl, hps', hu'⟩, he3⟩; have he4 := h3.trans he3; have HO2 := Lib.hid (HOa.out.ext (EIt_ok _) he3); have Hu2 := Lib.hid (hu'.keep (Ext.size (E0.out.trans h3)) (fun _ _ _ => rfl)); clear hu' q0 q1 q2) | (at_builtin; go_must (refine wp_ap1 (w0 := w0) (by rfl) _ _ (by rfl) el_It (EIt_ok _) he4 _ out [y] (by rfl) HO2.out 1 1 rfl #[.string y.path, .bool y.dir, u9] _ (by rfl) (by first | rfl | simp) rfl (one3 Hu2.out.one) (one_E (eit_of_v hps' Hu2.out)) ?_ ?_)))
          · simp; unfold lim; omega
          · intro v' w' hO' he' _
            have HO' := Lib.hid hO'; have HE' := Lib.hid he'
            clear hO' he' he3 he4
            go_wp2
            go_roundw
            case rel => exact ⟨k + 1, true, _, by omega, by go_num, rfl, HE'.out, HO'.out, ⟨by simp; omega, fun h => by cases h⟩, Lib.hid (by simpa using Hr.out)⟩
            case measure => simp [RowKit.intOf]; omega
      | false =>
        have hol3 := hol2 rfl
        cases hb : blt y.path x.path with
        | true =>
          have hb2 : Op.bytesLess y.path.toList x.path.toList = true := hb
          have hbe : (y.path.toList == x.path.toList) = false := by rw [bytes_ne_iff, decide_eq_false_iff_not]; exact fun e => by rw [e, blt_irrefl] at hb; cases hb
          rw [restPut_before hb] at hrest
          have Hr := hrest
          clear hb hrest
          have y0 := fun W (e : Ext wr W) => (HYc.out W (he.trans e)).1
          have y1 := fun W (e : Ext wr W) => (HYc.out W (he.trans e)).2.1
          have y2 := fun W (e : Ext wr W) => (HYc.out W (he.trans e)).2.2
          have x0 := fun W (e : Ext wr W) => (HXc.out W (he.trans e)).1
          have x1 := fun W (e : Ext wr W) => (HXc.out W (he.trans e)).2.1
          have x2 := fun W (e : Ext wr W) => (HXc.out W (he.trans e)).2.2
          go_wp2
          refine wp_region_ext (by kernel_rfl) (by kernel_rfl) ?_
          repeat (first | (apply q_plain rfl; (· intro W eW; go_simp; (first | done | rfl | (rw [if_pos] <;> first | omega | rfl))); (try simp only [Act.put, List.setIfInBounds_toArray, List.set_cons_zero, List.set_cons_succ])) | (refine qg_skip (by rfl) ?_; (try simp only [Act.put, List.setIfInBounds_toArray, List.set_cons_zero, List.set_cons_succ])) | (apply qg_plain (by rfl); (· intro W eW; go_simp; (first | done | rfl | (rw [if_pos] <;> first | omega | rfl))); (try simp only [Act.put, List.setIfInBounds_toArray, List.set_cons_zero, List.set_cons_succ])))
          refine q_nil ?_
          intro w2 e2
          clear y0 y1 y2 x0 x1 x2
          have h2 := he.trans e2
          have y0 := fun W (e : Ext w2 W) => (HYc.out W (h2.trans e)).1
          have y1 := fun W (e : Ext w2 W) => (HYc.out W (h2.trans e)).2.1
          have y2 := fun W (e : Ext w2 W) => (HYc.out W (h2.trans e)).2.2
          have x0 := fun W (e : Ext w2 W) => (HXc.out W (h2.trans e)).1
          have x1 := fun W (e : Ext w2 W) => (HXc.out W (h2.trans e)).2.1
          have x2 := fun W (e : Ext w2 W) => (HXc.out W (h2.trans e)).2.2
          go_wp2
          refine wp_region_ext (by kernel_rfl) (by kernel_rfl) ?_
          repeat (first | (apply q_plain rfl; (· intro W eW; go_simp; (first | done | rfl | (rw [if_pos] <;> first | omega | rfl))); (try simp only [Act.put, List.setIfInBounds_toArray, List.set_cons_zero, List.set_cons_succ])) | (refine qg_skip (by rfl) ?_; (try simp only [Act.put, List.setIfInBounds_toArray, List.set_cons_zero, List.set_cons_succ])) | (apply qg_plain (by rfl); (· intro W eW; go_simp; (first | done | rfl | (rw [if_pos] <;> first | omega | rfl))); (try simp only [Act.put, List.setIfInBounds_toArray, List.set_cons_zero, List.set_cons_succ])))
          refine q_nil ?_
          intro w3 e3
          clear y0 y1 y2 x0 x1 x2
          have h3 := h2.trans e3
          have HOa := Lib.hid (HO.out.ext (EIt_ok _) (e2.trans e3))
          have q0 := (HYc.out w3 h3).1
          have q1 := (HYc.out w3 h3).2.1
          have q2 := (HYc.out w3 h3).2.2
          go_wp2_with (first | (go_at_call 65; refine (l5Copy_c (x := y) _ (HY.out _ h3)).mono ?_; rintro e wca ⟨v3, rfl, ⟨u9, rfl, hps', hu'⟩, he3⟩; have he4 := h3.trans he3; have HO2 := Lib.hid (HOa.out.ext (EIt_ok _) he3); have Hu2 := Lib.hid (hu'.keep (Ext.size (E0.out.trans h3)) (fun _ _ _ => rfl)); clear hu' q0 q1 q2) | (at_builtin; go_must (refine wp_ap1 (w0 := w0) (by rfl) _ _ (by rfl) el_It (EIt_ok _) he4 _ out [y] (by rfl) HO2.out 1 1 rfl #[.string y.path, .bool y.dir, u9] _ (by rfl) (by first | rfl | simp) rfl (one3 Hu2.out.one) (one_E (eit_of_v hps' Hu2.out)) ?_ ?_)))
          · simp; unfold lim; omega
          · intro v' w' hO' he' _
            have HO' := Lib.hid hO'; have HE' := Lib.hid he'
            clear hO' he' he3 he4
            go_wp2
            go_roundw
            case rel => exact ⟨k + 1, false, _, by omega, by go_num, rfl, HE'.out, HO'.out, ⟨by simp; omega, fun _ => by simp; omega⟩, Lib.hid (by simpa using Hr.out)⟩
            case measure => simp [RowKit.intOf]; omega
        | false =>
          have hb2 : Op.bytesLess y.path.toList x.path.toList = false := hb
          rw [restPut_at hb] at hrest
          have Hr0 := hrest
          clear hb hrest
          have y0 := fun W (e : Ext wr W) => (HYc.out W (he.trans e)).1
          have y1 := fun W (e : Ext wr W) => (HYc.out W (he.trans e)).2.1
          have y2 := fun W (e : Ext wr W) => (HYc.out W (he.trans e)).2.2
          have x0 := fun W (e : Ext wr W) => (HXc.out W (he.trans e)).1
          have x1 := fun W (e : Ext wr W) => (HXc.out W (he.trans e)).2.1
          have x2 := fun W (e : Ext wr W) => (HXc.out W (he.trans e)).2.2
          go_wp2
          refine wp_region_ext (by kernel_rfl) (by kernel_rfl) ?_
          repeat (first | (apply q_plain rfl; (· intro W eW; go_simp; (first | done | rfl | (rw [if_pos] <;> first | omega | rfl))); (try simp only [Act.put, List.setIfInBounds_toArray, List.set_cons_zero, List.set_cons_succ])) | (refine qg_skip (by rfl) ?_; (try simp only [Act.put, List.setIfInBounds_toArray, List.set_cons_zero, List.set_cons_succ])) | (apply qg_plain (by rfl); (· intro W eW; go_simp; (first | done | rfl | (rw [if_pos] <;> first | omega | rfl))); (try simp only [Act.put, List.setIfInBounds_toArray, List.set_cons_zero, List.set_cons_succ])))
          refine q_nil ?_
          intro w2 e2
          clear y0 y1 y2 x0 x1 x2
          have h2 := he.trans e2
          have HOa := Lib.hid (HO.out.ext (EIt_ok _) e2)
          have q0 := (HXc.out w2 h2).1
          have q1 := (HXc.out w2 h2).2.1
          have q2 := (HXc.out w2 h2).2.2
          go_wp2_with (first | (go_at_call 65; refine (l5Copy_c (x := x) _ (HX.out _ h2)).mono ?_; rintro e wca ⟨v3, rfl, ⟨u9, rfl, hps', hu'⟩, he3⟩; have he4 := h2.trans he3; have HO2 := Lib.hid (HOa.out.ext (EIt_ok _) he3); have Hu2 := Lib.hid (hu'.keep (Ext.size (E0.out.trans h2)) (fun _ _ _ => rfl)); clear hu' q0 q1 q2) | (at_builtin; go_must (refine wp_ap1 (w0 := w0) (by rfl) _ _ (by rfl) el_It (EIt_ok _) he4 _ out [x] (by rfl) HO2.out 1 1 rfl #[.string x.path, .bool x.dir, u9] _ (by rfl) (by first | rfl | simp) rfl (one3 Hu2.out.one) (one_E (eit_of_v hps' Hu2.out)) ?_ ?_)))
          · simp; unfold lim; omega
          · intro v' w' hO' he' _
            have HO' := Lib.hid hO'
            clear hO' he3 he4
            obtain ⟨A', c', rfl⟩ := HO'.out.form
            have HO1 := HO'.out
            rw [show (out ++ [x]).length = out.length + 1 by simp] at HO1 ⊢
            have HO' := Lib.hid HO1
            clear HO1
            by_cases hyx : y.path = x.path
            · have hbe : (y.path.toList == x.path.toList) = true := by rw [hyx]; simp
              rw [restPut_skip hyx] at Hr0
              have Hr := Hr0
              clear hyx Hr0
              have y0 := fun W (e : Ext w' W) => (HYc.out W (he'.trans e)).1
              have y1 := fun W (e : Ext w' W) => (HYc.out W (he'.trans e)).2.1
              have y2 := fun W (e : Ext w' W) => (HYc.out W (he'.trans e)).2.2
              have x0 := fun W (e : Ext w' W) => (HXc.out W (he'.trans e)).1
              have x1 := fun W (e : Ext w' W) => (HXc.out W (he'.trans e)).2.1
              have x2 := fun W (e : Ext w' W) => (HXc.out W (he'.trans e)).2.2
              go_wp2
              refine wp_region_ext (by kernel_rfl) (by kernel_rfl) ?_
              repeat (first | (apply q_plain rfl; (· intro W eW; go_simp; (first | done | rfl | (rw [if_pos] <;> first | omega | rfl))); (try simp only [Act.put, List.setIfInBounds_toArray, List.set_cons_zero, List.set_cons_succ])) | (refine qg_skip (by rfl) ?_; (try simp only [Act.put, List.setIfInBounds_toArray, List.set_cons_zero, List.set_cons_succ])) | (apply qg_plain (by rfl); (· intro W eW; go_simp; (first | done | rfl | (rw [if_pos] <;> first | omega | rfl))); (try simp only [Act.put, List.setIfInBounds_toArray, List.set_cons_zero, List.set_cons_succ])))
              refine q_nil ?_
              intro w3 e3
              clear y0 y1 y2 x0 x1 x2
              have h3 := he'.trans e3
              go_wp2
              go_roundw
              case rel => exact ⟨k + 1, true, _, by omega, by go_num, rfl, h3, HO'.out.ext (EIt_ok _) e3, ⟨by simp; omega, fun h => by cases h⟩, Lib.hid (by simpa using Hr.out)⟩
              case measure => simp [RowKit.intOf]; omega
            · have hbe : (y.path.toList == x.path.toList) = false := by rw [bytes_ne_iff, decide_eq_false_iff_not]; exact hyx
              rw [restPut_keep hyx] at Hr0
              have Hr := Hr0
              clear hyx Hr0
              have y0 := fun W (e : Ext w' W) => (HYc.out W (he'.trans e)).1
              have y1 := fun W (e : Ext w' W) => (HYc.out W (he'.trans e)).2.1
              have y2 := fun W (e : Ext w' W) => (HYc.out W (he'.trans e)).2.2
              have x0 := fun W (e : Ext w' W) => (HXc.out W (he'.trans e)).1
              have x1 := fun W (e : Ext w' W) => (HXc.out W (he'.trans e)).2.1
              have x2 := fun W (e : Ext w' W) => (HXc.out W (he'.trans e)).2.2
              go_wp2
              refine wp_region_ext (by kernel_rfl) (by kernel_rfl) ?_
              repeat (first | (apply q_plain rfl; (· intro W eW; go_simp; (first | done | rfl | (rw [if_pos] <;> first | omega | rfl))); (try simp only [Act.put, List.setIfInBounds_toArray, List.set_cons_zero, List.set_cons_succ])) | (refine qg_skip (by rfl) ?_; (try simp only [Act.put, List.setIfInBounds_toArray, List.set_cons_zero, List.set_cons_succ])) | (apply qg_plain (by rfl); (· intro W eW; go_simp; (first | done | rfl | (rw [if_pos] <;> first | omega | rfl))); (try simp only [Act.put, List.setIfInBounds_toArray, List.set_cons_zero, List.set_cons_succ])))
              refine q_nil ?_
              intro w3 e3
              clear y0 y1 y2 x0 x1 x2
              have h3 := he'.trans e3
              have HOb := Lib.hid (HO'.out.ext (EIt_ok _) e3)
              have q0 := (HYc.out w3 h3).1
              have q1 := (HYc.out w3 h3).2.1
              have q2 := (HYc.out w3 h3).2.2
              go_wp2_with (first | (go_at_call 65; refine (l5Copy_c (x := y) _ (HY.out _ h3)).mono ?_; rintro e wcb ⟨v3, rfl, ⟨u9, rfl, hps', hu'⟩, he3⟩; have he4 := h3.trans he3; have HO2 := Lib.hid (HOb.out.ext (EIt_ok _) he3); have Hu2 := Lib.hid (hu'.keep (Ext.size (E0.out.trans h3)) (fun _ _ _ => rfl)); clear hu' q0 q1 q2) | (at_builtin; go_must (refine wp_ap1 (w0 := w0) (by rfl) _ _ (by rfl) el_It (EIt_ok _) he4 _ (out ++ [x]) [y] (by rfl) HO2.out 1 1 rfl #[.string y.path, .bool y.dir, u9] _ (by rfl) (by first | rfl | simp) rfl (one3 Hu2.out.one) (one_E (eit_of_v hps' Hu2.out)) ?_ ?_)))
              · simp; unfold lim; omega
              · intro v'' w'' hO'' he'' _
                have HO'' := Lib.hid hO''; have HE'' := Lib.hid he''
                clear hO'' he'' he3 he4
                go_wp2
                go_roundw
                case rel => exact ⟨k + 1, true, _, by omega, by go_num, rfl, HE''.out, HO''.out, ⟨by simp; omega, fun h => by cases h⟩, Lib.hid (by simpa using Hr.out)⟩
                case measure => simp [RowKit.intOf]; omega
    · have hks : k = n := by omega
      subst hks
      have hdn : l.drop k = [] := List.drop_eq_nil_of_le (by rw [Hn.out]; exact Nat.le_refl _)
      rw [hdn] at hrest
      have Hr := hrest
      clear hrest hdn
      cases bd with
      | true =>
        go_wp2
        go_ret
        have h1 := HO.out
        have h2 : out = putIt x l := by have := Hr.out; simpa [restPut] using this
        rw [h2] at h1
        exact ⟨_, rfl, h1.mono E0.out.size, E0.out.trans he⟩
      | false =>
        have q0 := (HXc.out wr he).1
        have q1 := (HXc.out wr he).2.1
        have q2 := (HXc.out wr he).2.2
        go_wp2_with (first | (go_at_call 65; refine (l5Copy_c (x := x) _ (HX.out _ he)).mono ?_; rintro e wca ⟨v3, rfl, ⟨u9, rfl, hps', hu'⟩, he3⟩; have he4 := he.trans he3; have HO2 := Lib.hid (HO.out.ext (EIt_ok _) he3); have Hu2 := Lib.hid (hu'.keep (Ext.size (E0.out.trans he)) (fun _ _ _ => rfl)); clear hu' q0 q1 q2) | (at_builtin; go_must (refine wp_ap1 (w0 := w0) (by rfl) _ _ (by rfl) el_It (EIt_ok _) he4 _ out [x] (by rfl) HO2.out 1 1 rfl #[.string x.path, .bool x.dir, u9] _ (by rfl) (by first | rfl | simp) rfl (one3 Hu2.out.one) (one_E (eit_of_v hps' Hu2.out)) ?_ ?_)))
        · simp; unfold lim; omega
        · intro v' w' hO' he' _
          have HO' := Lib.hid hO'; have HE' := Lib.hid he'
          clear hO' he' he3 he4
          go_wp2
          go_ret
          have h1 := HO'.out
          have h2 : out ++ [x] = putIt x l := by have := Hr.out; simpa [restPut, putIt] using this
          rw [h2] at h1
          exact ⟨_, rfl, h1.mono E0.out.size, E0.out.trans HE'.out⟩
end Go.Sf

/-! The reference moves and clones items of a tree. -/
namespace Go.Sf
open Go Go.RowKit Go.Proofs
end Go.Sf

/-! The reference moves and clones: the parts put together. -/
namespace Go.Sf
open Go Go.RowKit Go.Proofs
end Go.Sf

/-! The reference's TreeMove and TreeClone. -/
namespace Go.Sf
open Go Go.RowKit Go.Proofs
theorem OptIts.eq {B : Nat} {o o' : Option (List It)} {v : Value} {w : World} (h : OptIts B o v w) (e : o = o') : OptIts B o' v w := e ▸ h
theorem OptIts.low {B B' : Nat} {o : Option (List It)} {v : Value} {w : World} (h : OptIts B o v w) (hB : B' ≤ B) : OptIts B' o v w := let ⟨u, h1, h2⟩ := h; ⟨u, h1, h2.keep hB (fun _ _ _ => rfl)⟩
end Go.Sf
