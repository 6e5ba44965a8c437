/- The changes between two lists of items. -/
import Derived.Test.YtfpkllihfcgmaaaDoorW10
import Derived.Test.YtfpkllihfcgmaaaDoorT2
import Derived.Test.YtfpkllihfcgmaaaDoorW6
namespace Go.Sf
open Go Go.RowKit Go.Proofs
/-- what the loop keeps: la and lb are still to come -/
def CbRel (B : Nat) (l1 l2 : List It) (w : World) (v1 v2 v : Value) (wr : World) : Prop :=
  ∃ la lb out A1 c1 A2 c2, v1 = .slice A1 la.length c1 ∧ v2 = .slice A2 lb.length c2 ∧ Hid (SlIn B 35 3 (EIt B) w A1 c1 la) ∧ Hid (SlIn B 35 3 (EIt B) w A2 c2 lb) ∧ Ext w wr ∧
    Hid (OwnS w.heap.size 57 1 (ECg B) wr v out) ∧ out.length + (la.length + lb.length) ≤ l1.length + l2.length ∧ Hid (out ++ chg la lb = chg l1 l2)
theorem SlIn.tailIf {B : Nat} {w : World} {b o c : Nat} {x : It} {l : List It} (h : SlIn B 35 3 (EIt B) w (some ⟨b, o, none⟩) c (x :: l)) : SlIn B 35 3 (EIt B) w (if c = 1 then some ⟨b, o, none⟩ else some ⟨b, o + 3, none⟩) (c - 1) l := by
  by_cases hc : c = 1
  · rw [if_pos hc]; exact h.tail0 hc (by simp)
  · rw [if_neg hc]; exact h.tail
theorem ecg_of {B : Nat} {w : World} {x : It} {u : Value} {k : Int} (hk : k = 1 ∨ k = 2 ∨ k = 3) (h1 : x.path.size < lim) (h2 : Ints B w u x.ids) : ECg B w #[chgV k x u] 0 ⟨k, x⟩ := ⟨hk, h1, u, rfl, h2⟩
theorem one1 {k : Int} {x : It} {u : Value} : ∀ c ∈ (#[chgV k x u] : Array Value).toList, c.oneCell' = true := by
  intro c hc; simp at hc; subst hc; rfl
theorem one2c {k k' : Int} {x y : It} {u u' : Value} : ∀ c ∈ (#[chgV k x u, chgV k' y u'] : Array Value).toList, c.oneCell' = true := by
  intro c hc; simp at hc; rcases hc with rfl | rfl <;> rfl
set_option maxRecDepth 4000 in
set_option maxHeartbeats 4000000 in
theorem changesBetween_c {B : Nat} {v1 v2 : Value} {l1 l2 : List It} (w : World) (h1 : Its B w v1 l1) (h2 : Its B w v2 l2) (hlen : l1.length + l2.length ≤ 1000) :
    Calls Tryd.prog 26 #[v1, v2] w (RetP (fun v w' => OwnS w.heap.size 57 1 (ECg B) w' v (chg l1 l2)) w) := by
  obtain ⟨A10, c10, rfl, hA10⟩ := h1
  obtain ⟨A20, c20, rfl, hA20⟩ := h2
  have H10 := Lib.hid hA10
  have H20 := Lib.hid hA20
  clear hA10 hA20
  go_enter Tryd.func26, Tryd.ntmps26
  go_wp2
  go_loopw [0, 1, 5] (fun v1 v2 v wr => CbRel B l1 l2 w v1 v2 v wr) (fun v1 v2 _ _ => lenOf v1 + lenOf v2)
  case atStart => exact ⟨l1, l2, [], A10, c10, A20, c20, rfl, rfl, H10, H20, Ext.refl w, Lib.hid (OwnS.nil _ _ _ _ _), by simp, Lib.hid rfl⟩
  case round =>
    obtain ⟨la, lb, out, A1, c1, A2, c2, rfl, rfl, HA, HB, he, HO, hol, hrest⟩ := hrel
    cases la with
    | nil =>
      cases lb with
      | nil =>
        simp only [List.length_nil]
        have hr : Hid (out = chg l1 l2) := Lib.hid (by have := hrest.out; rwa [chg_nil, List.append_nil] at this)
        clear hrest
        go_wp2
        go_ret
        exact ⟨_, rfl, by rw [← hr.out]; exact HO.out, he⟩
      | cons y lb =>
        obtain ⟨b2, o2, Ay, cy, rfl, hc1y, hc2y, hpsy, huy, huly, f0, f1, f2⟩ := Its.head HB.out
        have HTy := Lib.hid (SlIn.tailIf HB.out)
        have gy0 := fun W (e : Ext wr W) => f0 W (he.trans e)
        have gy1 := fun W (e : Ext wr W) => f1 W (he.trans e)
        have gy2 := fun W (e : Ext wr W) => f2 W (he.trans e)
        have HUy := Lib.hid huy
        unfold lim at huly
        have HBk := HB
        clear f0 f1 f2 huy HB
        have hr : Hid (∀ c : Ch, c = ⟨1, y⟩ → (out ++ [c]) ++ chg [] lb = chg l1 l2) := Lib.hid fun c hc => by subst hc; have := hrest.out; rw [chg_right] at this; simpa using this
        simp only [List.length_nil, List.length_cons] at hol ⊢
        clear hrest
        generalize hmlb : lb.length = mlb at *
        have Hmlb := Lib.hid hmlb; clear hmlb
        have hzlb : ((mlb : Int) + 1 == 0) = false := by rw [beq_eq_false_iff_ne]; omega
        go_wp2
        (refine wp_region_hold (fun W => Ext wr W) 16 [(0, true), (1, true), (2, true), (3, true), (4, true), (5, true), (6, true), (7, true), (8, true), (9, true), (10, true), (11, true), (12, true), (13, true), (14, true), (15, true)] (by kernel_rfl) (by kernel_rfl) ?_ ?_; (· (show Ext _ _); (repeat' (first | exact Ext.refl _ | assumption | refine Ext.alloc ?_ _ | refine Ext.drew ?_ | refine Ext.drewN ?_ _ | refine Ext.trans ?_ (by assumption)))); (repeat (first | (apply hw_read (by rfl) (by rfl); (· (intro W hW; (try dsimp only at hW); go_simp; (first | done | rfl | (rw [if_pos] <;> first | omega | rfl)))); (try simp only [Act.put, List.setIfInBounds_toArray, List.set_cons_zero, List.set_cons_succ])) | (refine hw_skip (by rfl) (by rfl) ?_; (try simp only [Act.put, List.setIfInBounds_toArray, List.set_cons_zero, List.set_cons_succ])))); (refine hw_nil ?_; simp only [List.drop_succ_cons, List.drop_zero]); go_wp2; all_goals (refine NoPanic.normal ?_; (try dsimp only [Exit.then])))
        go_wp2
        (refine wp_region_hold (fun W => Ext wr W) 12 [(0, true), (1, true), (2, true), (3, true), (4, true), (5, true), (6, true), (7, true), (8, true), (9, true), (10, true), (11, true)] (by kernel_rfl) (by kernel_rfl) ?_ ?_; (· (show Ext _ _); (repeat' (first | exact Ext.refl _ | assumption | refine Ext.alloc ?_ _ | refine Ext.drew ?_ | refine Ext.drewN ?_ _ | refine Ext.trans ?_ (by assumption)))); (repeat (first | (apply hw_read (by rfl) (by rfl); (· (intro W hW; (try dsimp only at hW); go_simp; (first | done | rfl | (rw [if_pos] <;> first | omega | rfl)))); (try simp only [Act.put, List.setIfInBounds_toArray, List.set_cons_zero, List.set_cons_succ])) | (refine hw_skip (by rfl) (by rfl) ?_; (try simp only [Act.put, List.setIfInBounds_toArray, List.set_cons_zero, List.set_cons_succ])))); (refine hw_nil ?_; simp only [List.drop_succ_cons, List.drop_zero]); go_wp2; all_goals (refine NoPanic.normal ?_; (try dsimp only [Exit.then])))
        have HO2 := Lib.hid (HO.out.ext (ECg_ok _) (Ext.refl wr).drew.drew)
        have he2 : Ext w wr.drew.drew := he.drew.drew
        clear HO
        go_wp2_with (at_builtin; go_must (refine wp_ap1 (w0 := w) (by rfl) _ _ (by rfl) el_Cg (ECg_ok _) he2 _ out [⟨1, y⟩] (by rfl) HO2.out 1 1 rfl #[chgV 1 y (.slice Ay y.ids.length cy)] _ (by rfl) (by first | rfl | simp) rfl one1 (one_E (ecg_of (.inl rfl) hpsy (HUy.out.ext he2))) ?_ ?_))
        · simp; unfold lim; omega
        · intro v' w' hO' he' hk'
          have HO' := Lib.hid hO'
          clear hO' hk' he2 he gy0 gy1 gy2
          go_wp2
          exact ⟨⟨[], lb, out ++ [⟨1, y⟩], _, _, _, _, rfl, by rw [Hmlb.out], HA, HTy, he', HO', by have := Hmlb.out; simp; omega, Lib.hid (hr.out _ rfl)⟩, by simp [lenOf]⟩
    | cons x la =>
      obtain ⟨b1, o1, Ax, cx, rfl, hc1x, hc2x, hpsx, hux, hulx, f0, f1, f2⟩ := Its.head HA.out
      have HTx := Lib.hid (SlIn.tailIf HA.out)
      have gx0 := fun W (e : Ext wr W) => f0 W (he.trans e)
      have gx1 := fun W (e : Ext wr W) => f1 W (he.trans e)
      have gx2 := fun W (e : Ext wr W) => f2 W (he.trans e)
      have HUx := Lib.hid hux
      unfold lim at hulx
      have HAk := HA
      clear f0 f1 f2 hux HA
      cases lb with
      | nil =>
        have hr : Hid (∀ c : Ch, c = ⟨2, x⟩ → (out ++ [c]) ++ chg la [] = chg l1 l2) := Lib.hid fun c hc => by subst hc; have := hrest.out; rw [chg_left] at this; simpa using this
        simp only [List.length_nil, List.length_cons] at hol ⊢
        clear hrest
        generalize hmla : la.length = mla at *
        have Hmla := Lib.hid hmla; clear hmla
        have hzla : ((mla : Int) + 1 == 0) = false := by rw [beq_eq_false_iff_ne]; omega
        go_wp2
        (refine wp_region_hold (fun W => Ext wr W) 16 [(0, true), (1, true), (2, true), (3, true), (4, true), (5, true), (6, true), (7, true), (8, true), (9, true), (10, true), (11, true), (12, true), (13, true), (14, true), (15, true)] (by kernel_rfl) (by kernel_rfl) ?_ ?_; (· (show Ext _ _); (repeat' (first | exact Ext.refl _ | assumption | refine Ext.alloc ?_ _ | refine Ext.drew ?_ | refine Ext.drewN ?_ _ | refine Ext.trans ?_ (by assumption)))); (repeat (first | (apply hw_read (by rfl) (by rfl); (· (intro W hW; (try dsimp only at hW); go_simp; (first | done | rfl | (rw [if_pos] <;> first | omega | rfl)))); (try simp only [Act.put, List.setIfInBounds_toArray, List.set_cons_zero, List.set_cons_succ])) | (refine hw_skip (by rfl) (by rfl) ?_; (try simp only [Act.put, List.setIfInBounds_toArray, List.set_cons_zero, List.set_cons_succ])))); (refine hw_nil ?_; simp only [List.drop_succ_cons, List.drop_zero]); go_wp2; all_goals (refine NoPanic.normal ?_; (try dsimp only [Exit.then])))
        have HO2 := Lib.hid (HO.out.ext (ECg_ok _) (Ext.refl wr).drew)
        have he2 : Ext w wr.drew := he.drew
        clear HO
        go_wp2_with (at_builtin; go_must (refine wp_ap1 (w0 := w) (by rfl) _ _ (by rfl) el_Cg (ECg_ok _) he2 _ out [⟨2, x⟩] (by rfl) HO2.out 1 1 rfl #[chgV 2 x (.slice Ax x.ids.length cx)] _ (by rfl) (by first | rfl | simp) rfl one1 (one_E (ecg_of (.inr (.inl rfl)) hpsx (HUx.out.ext he2))) ?_ ?_))
        · simp; unfold lim; omega
        · intro v' w' hO' he' hk'
          have HO' := Lib.hid hO'
          clear hO' hk' he2 he gx0 gx1 gx2
          go_wp2
          exact ⟨⟨la, [], out ++ [⟨2, x⟩], _, _, _, _, by rw [Hmla.out], rfl, HTx, HB, he', HO', by have := Hmla.out; simp; omega, Lib.hid (hr.out _ rfl)⟩, by simp [lenOf]⟩
      | cons y lb =>
        obtain ⟨b2, o2, Ay, cy, rfl, hc1y, hc2y, hpsy, huy, huly, f0, f1, f2⟩ := Its.head HB.out
        have HTy := Lib.hid (SlIn.tailIf HB.out)
        have gy0 := fun W (e : Ext wr W) => f0 W (he.trans e)
        have gy1 := fun W (e : Ext wr W) => f1 W (he.trans e)
        have gy2 := fun W (e : Ext wr W) => f2 W (he.trans e)
        have HUy := Lib.hid huy
        unfold lim at huly
        have HBk := HB
        clear f0 f1 f2 huy HB
        simp only [List.length_nil, List.length_cons] at hol ⊢
        generalize hmla : la.length = mla at *
        have Hmla := Lib.hid hmla; clear hmla
        have hzla : ((mla : Int) + 1 == 0) = false := by rw [beq_eq_false_iff_ne]; omega
        generalize hmlb : lb.length = mlb at *
        have Hmlb := Lib.hid hmlb; clear hmlb
        have hzlb : ((mlb : Int) + 1 == 0) = false := by rw [beq_eq_false_iff_ne]; omega
        cases q1 : Op.bytesLess x.path.toList y.path.toList with
        | true =>
          have hr : Hid (∀ c : Ch, c = ⟨2, x⟩ → (out ++ [c]) ++ chg la (y :: lb) = chg l1 l2) := Lib.hid fun c hc => by subst hc; have := hrest.out; rw [chg_lt _ _ q1] at this; simpa using this
          clear hrest
          go_wp2
          (refine wp_region_hold (fun W => Ext wr W) 16 [(0, true), (1, true), (2, true), (3, true), (4, true), (5, true), (6, true), (7, true), (8, true), (9, true), (10, true), (11, true), (12, true), (13, true), (14, true), (15, true)] (by kernel_rfl) (by kernel_rfl) ?_ ?_; (· (show Ext _ _); (repeat' (first | exact Ext.refl _ | assumption | refine Ext.alloc ?_ _ | refine Ext.drew ?_ | refine Ext.drewN ?_ _ | refine Ext.trans ?_ (by assumption)))); (repeat (first | (apply hw_read (by rfl) (by rfl); (· (intro W hW; (try dsimp only at hW); go_simp; (first | done | rfl | (rw [if_pos] <;> first | omega | rfl)))); (try simp only [Act.put, List.setIfInBounds_toArray, List.set_cons_zero, List.set_cons_succ])) | (refine hw_skip (by rfl) (by rfl) ?_; (try simp only [Act.put, List.setIfInBounds_toArray, List.set_cons_zero, List.set_cons_succ])))); (refine hw_nil ?_; simp only [List.drop_succ_cons, List.drop_zero]); go_wp2; all_goals (refine NoPanic.normal ?_; (try dsimp only [Exit.then])))
          have HO2 := Lib.hid (HO.out.ext (ECg_ok _) (Ext.refl wr).drew)
          have he2 : Ext w wr.drew := he.drew
          clear HO
          go_wp2_with (at_builtin; go_must (refine wp_ap1 (w0 := w) (by rfl) _ _ (by rfl) el_Cg (ECg_ok _) he2 _ out [⟨2, x⟩] (by rfl) HO2.out 1 1 rfl #[chgV 2 x (.slice Ax x.ids.length cx)] _ (by rfl) (by first | rfl | simp) rfl one1 (one_E (ecg_of (.inr (.inl rfl)) hpsx (HUx.out.ext he2))) ?_ ?_))
          · simp; unfold lim; omega
          · intro v' w' hO' he' hk'
            have HO' := Lib.hid hO'
            clear hO' hk' he2 he gx0 gx1 gx2 gy0 gy1 gy2
            go_wp2
            exact ⟨⟨la, y :: lb, out ++ [⟨2, x⟩], _, _, _, _, by rw [Hmla.out], by rw [List.length_cons, Hmlb.out], HTx, HBk, he', HO', by have := Hmla.out; have := Hmlb.out; simp; omega, Lib.hid (hr.out _ rfl)⟩, by simp [lenOf]⟩
        | false =>
          cases q2 : Op.bytesLess y.path.toList x.path.toList with
          | true =>
            have hr : Hid (∀ c : Ch, c = ⟨1, y⟩ → (out ++ [c]) ++ chg (x :: la) lb = chg l1 l2) := Lib.hid fun c hc => by subst hc; have := hrest.out; rw [chg_gt _ _ q1 q2] at this; simpa using this
            clear hrest
            go_wp2
            (refine wp_region_hold (fun W => Ext wr W) 16 [(0, true), (1, true), (2, true), (3, true), (4, true), (5, true), (6, true), (7, true), (8, true), (9, true), (10, true), (11, true), (12, true), (13, true), (14, true), (15, true)] (by kernel_rfl) (by kernel_rfl) ?_ ?_; (· (show Ext _ _); (repeat' (first | exact Ext.refl _ | assumption | refine Ext.alloc ?_ _ | refine Ext.drew ?_ | refine Ext.drewN ?_ _ | refine Ext.trans ?_ (by assumption)))); (repeat (first | (apply hw_read (by rfl) (by rfl); (· (intro W hW; (try dsimp only at hW); go_simp; (first | done | rfl | (rw [if_pos] <;> first | omega | rfl)))); (try simp only [Act.put, List.setIfInBounds_toArray, List.set_cons_zero, List.set_cons_succ])) | (refine hw_skip (by rfl) (by rfl) ?_; (try simp only [Act.put, List.setIfInBounds_toArray, List.set_cons_zero, List.set_cons_succ])))); (refine hw_nil ?_; simp only [List.drop_succ_cons, List.drop_zero]); go_wp2; all_goals (refine NoPanic.normal ?_; (try dsimp only [Exit.then])))
            go_wp2
            (refine wp_region_hold (fun W => Ext wr W) 12 [(0, true), (1, true), (2, true), (3, true), (4, true), (5, true), (6, true), (7, true), (8, true), (9, true), (10, true), (11, true)] (by kernel_rfl) (by kernel_rfl) ?_ ?_; (· (show Ext _ _); (repeat' (first | exact Ext.refl _ | assumption | refine Ext.alloc ?_ _ | refine Ext.drew ?_ | refine Ext.drewN ?_ _ | refine Ext.trans ?_ (by assumption)))); (repeat (first | (apply hw_read (by rfl) (by rfl); (· (intro W hW; (try dsimp only at hW); go_simp; (first | done | rfl | (rw [if_pos] <;> first | omega | rfl)))); (try simp only [Act.put, List.setIfInBounds_toArray, List.set_cons_zero, List.set_cons_succ])) | (refine hw_skip (by rfl) (by rfl) ?_; (try simp only [Act.put, List.setIfInBounds_toArray, List.set_cons_zero, List.set_cons_succ])))); (refine hw_nil ?_; simp only [List.drop_succ_cons, List.drop_zero]); go_wp2; all_goals (refine NoPanic.normal ?_; (try dsimp only [Exit.then])))
            have HO2 := Lib.hid (HO.out.ext (ECg_ok _) (Ext.refl wr).drew.drew)
            have he2 : Ext w wr.drew.drew := he.drew.drew
            clear HO
            go_wp2_with (at_builtin; go_must (refine wp_ap1 (w0 := w) (by rfl) _ _ (by rfl) el_Cg (ECg_ok _) he2 _ out [⟨1, y⟩] (by rfl) HO2.out 1 1 rfl #[chgV 1 y (.slice Ay y.ids.length cy)] _ (by rfl) (by first | rfl | simp) rfl one1 (one_E (ecg_of (.inl rfl) hpsy (HUy.out.ext he2))) ?_ ?_))
            · simp; unfold lim; omega
            · intro v' w' hO' he' hk'
              have HO' := Lib.hid hO'
              clear hO' hk' he2 he gx0 gx1 gx2 gy0 gy1 gy2
              go_wp2
              exact ⟨⟨x :: la, lb, out ++ [⟨1, y⟩], _, _, _, _, by rw [List.length_cons, Hmla.out], by rw [Hmlb.out], HAk, HTy, he', HO', by have := Hmla.out; have := Hmlb.out; simp; omega, Lib.hid (hr.out _ rfl)⟩, by simp [lenOf]⟩
          | false =>
            have hstep : ∀ W : World, Hid (SlIn B 35 3 (EIt B) w (if c1 = 1 then some ⟨b1, o1, none⟩ else some ⟨b1, o1 + 3, none⟩) (c1 - 1) la ∧ SlIn B 35 3 (EIt B) w (if c2 = 1 then some ⟨b2, o2, none⟩ else some ⟨b2, o2 + 3, none⟩) (c2 - 1) lb) := fun _ => Lib.hid ⟨HTx.out, HTy.out⟩
            have HST := Lib.hid hstep; clear hstep
            by_cases hdir : x.dir = y.dir
            · cases hq : eqb x y with
              | true =>
                have hr : Hid (out ++ chg la lb = chg l1 l2) := Lib.hid (by have := hrest.out; rwa [chg_same _ _ q1 q2 hdir hq] at this)
                have Ce : ∀ W, Ext wr W → Calls Tryd.prog 48 #[.agg #[.string x.path, .bool x.dir, .slice Ax x.ids.length cx], .agg #[.string y.path, .bool y.dir, .slice Ay y.ids.length cy]] W (Ret (.bool true) W) := fun W e => by
                  rw [← hq]; exact impl_itemEqual_c W ⟨_, rfl, hpsx, HUx.out.ext (he.trans e)⟩ ⟨_, rfl, hpsy, HUy.out.ext (he.trans e)⟩
                have hd1 : (x.dir != y.dir) = false := by rw [hdir]; simp
                have hd2 : (x.dir == y.dir) = true := by rw [hdir]; simp
                have Hdir := Lib.hid hdir
                clear hrest hq hdir
                go_wp2
                (refine wp_region_hold (fun W => Ext wr W) 16 [(0, true), (1, true), (2, true), (3, true), (4, true), (5, true), (6, true), (7, true), (8, true), (9, true), (10, true), (11, true), (12, true), (13, true), (14, true), (15, true)] (by kernel_rfl) (by kernel_rfl) ?_ ?_; (· (show Ext _ _); (repeat' (first | exact Ext.refl _ | assumption | refine Ext.alloc ?_ _ | refine Ext.drew ?_ | refine Ext.drewN ?_ _ | refine Ext.trans ?_ (by assumption)))); (repeat (first | (apply hw_read (by rfl) (by rfl); (· (intro W hW; (try dsimp only at hW); go_simp; (first | done | rfl | (rw [if_pos] <;> first | omega | rfl)))); (try simp only [Act.put, List.setIfInBounds_toArray, List.set_cons_zero, List.set_cons_succ])) | (refine hw_skip (by rfl) (by rfl) ?_; (try simp only [Act.put, List.setIfInBounds_toArray, List.set_cons_zero, List.set_cons_succ])))); (refine hw_nil ?_; simp only [List.drop_succ_cons, List.drop_zero]); go_wp2; all_goals (refine NoPanic.normal ?_; (try dsimp only [Exit.then])))
                go_wp2
                (refine wp_region_hold (fun W => Ext wr W) 12 [(0, true), (1, true), (2, true), (3, true), (4, true), (5, true), (6, true), (7, true), (8, true), (9, true), (10, true), (11, true)] (by kernel_rfl) (by kernel_rfl) ?_ ?_; (· (show Ext _ _); (repeat' (first | exact Ext.refl _ | assumption | refine Ext.alloc ?_ _ | refine Ext.drew ?_ | refine Ext.drewN ?_ _ | refine Ext.trans ?_ (by assumption)))); (repeat (first | (apply hw_read (by rfl) (by rfl); (· (intro W hW; (try dsimp only at hW); go_simp; (first | done | rfl | (rw [if_pos] <;> first | omega | rfl)))); (try simp only [Act.put, List.setIfInBounds_toArray, List.set_cons_zero, List.set_cons_succ])) | (refine hw_skip (by rfl) (by rfl) ?_; (try simp only [Act.put, List.setIfInBounds_toArray, List.set_cons_zero, List.set_cons_succ])))); (refine hw_nil ?_; simp only [List.drop_succ_cons, List.drop_zero]); go_wp2; all_goals (refine NoPanic.normal ?_; (try dsimp only [Exit.then])))
                go_wp2
                (refine wp_region_hold (fun W => Ext wr W) 8 [(0, true), (1, true), (2, true), (3, true), (4, true), (5, true), (6, true), (7, true)] (by kernel_rfl) (by kernel_rfl) ?_ ?_; (· (show Ext _ _); (repeat' (first | exact Ext.refl _ | assumption | refine Ext.alloc ?_ _ | refine Ext.drew ?_ | refine Ext.drewN ?_ _ | refine Ext.trans ?_ (by assumption)))); (repeat (first | (apply hw_read (by rfl) (by rfl); (· (intro W hW; (try dsimp only at hW); go_simp; (first | done | rfl | (rw [if_pos] <;> first | omega | rfl)))); (try simp only [Act.put, List.setIfInBounds_toArray, List.set_cons_zero, List.set_cons_succ])) | (refine hw_skip (by rfl) (by rfl) ?_; (try simp only [Act.put, List.setIfInBounds_toArray, List.set_cons_zero, List.set_cons_succ])))); (refine hw_nil ?_; simp only [List.drop_succ_cons, List.drop_zero]); go_wp2; all_goals (refine NoPanic.normal ?_; (try dsimp only [Exit.then])))
                go_wp2
                refine wp_region_hold (fun W => Ext wr W) 6 [(0, true), (1, true), (2, true), (3, true), (4, true), (5, true)] (by kernel_rfl) (by kernel_rfl) ?_ ?_
                · show Ext _ _; (repeat' (first | exact Ext.refl _ | assumption | refine Ext.alloc ?_ _ | refine Ext.drew ?_ | refine Ext.drewN ?_ _ | refine Ext.trans ?_ (by assumption)))
                (repeat (first | (apply hw_read (by rfl) (by rfl); (· (intro W hW; (try dsimp only at hW); go_simp; (first | done | rfl | (rw [if_pos] <;> first | omega | rfl)))); (try simp only [Act.put, List.setIfInBounds_toArray, List.set_cons_zero, List.set_cons_succ])) | (refine hw_skip (by rfl) (by rfl) ?_; (try simp only [Act.put, List.setIfInBounds_toArray, List.set_cons_zero, List.set_cons_succ]))))
                (refine hw_nil ?_; simp only [List.drop_succ_cons, List.drop_zero])
                go_wp2_with (go_at_call 48; refine (Ce _ (by (repeat' (first | exact Ext.refl _ | assumption | refine Ext.alloc ?_ _ | refine Ext.drew ?_ | refine Ext.drewN ?_ _ | refine Ext.trans ?_ (by assumption))))).mono ?_; rintro e w5 ⟨rfl, he5⟩)
                refine NoPanic.normal ?_
                dsimp only [Exit.then]
                have he6 : Ext wr w5 := by (repeat' (first | exact Ext.refl _ | assumption | refine Ext.alloc ?_ _ | refine Ext.drew ?_ | refine Ext.drewN ?_ _ | refine Ext.trans ?_ (by assumption)))
                clear he5
                go_wp2
                have HO6 := Lib.hid (HO.out.ext (ECg_ok _) he6)
                have he7 := he.trans he6
                clear he6 Ce HO he gx0 gx1 gx2 gy0 gy1 gy2 hd1 hd2
                refine wp_region_hold (fun W => Ext w5 W) 5 [(0, true), (1, true), (2, true), (3, true), (4, true)] (by kernel_rfl) (by kernel_rfl) ?_ ?_
                · exact (Ext.refl _).drew
                (repeat (first | (apply hw_read (by rfl) (by rfl); (· (intro W hW; (try dsimp only at hW); go_simp; (first | done | rfl | (rw [if_pos] <;> first | omega | rfl)))); (try simp only [Act.put, List.setIfInBounds_toArray, List.set_cons_zero, List.set_cons_succ])) | (refine hw_skip (by rfl) (by rfl) ?_; (try simp only [Act.put, List.setIfInBounds_toArray, List.set_cons_zero, List.set_cons_succ]))))
                have HTT : Hid (SlIn B 35 3 (EIt B) w (if c1 = 1 then some ⟨b1, o1, none⟩ else some ⟨b1, o1 + 3, none⟩) (c1 - 1) la ∧ SlIn B 35 3 (EIt B) w (if c2 = 1 then some ⟨b2, o2, none⟩ else some ⟨b2, o2 + 3, none⟩) (c2 - 1) lb) := Lib.hid ⟨HTx.out, HTy.out⟩
                clear HTx HTy HST
                generalize (if c1 = 1 then (some ⟨b1, o1, none⟩ : Option Addr) else some ⟨b1, o1 + 3, none⟩) = X1 at *
                generalize (if c2 = 1 then (some ⟨b2, o2, none⟩ : Option Addr) else some ⟨b2, o2 + 3, none⟩) = X2 at *
                (refine hw_nil ?_; simp only [List.drop_succ_cons, List.drop_zero])
                go_wp2
                refine NoPanic.normal ?_
                (try dsimp only [Exit.then])
                go_wp2
                exact ⟨⟨la, lb, out, _, _, _, _, by rw [Hmla.out], by rw [Hmlb.out], Lib.hid HTT.out.1, Lib.hid HTT.out.2, by (repeat' (first | exact Ext.refl _ | assumption | refine Ext.alloc ?_ _ | refine Ext.drew ?_ | refine Ext.drewN ?_ _ | refine Ext.trans ?_ (by assumption))), Lib.hid (HO6.out.ext (ECg_ok _) (by (repeat' (first | exact Ext.refl _ | assumption | refine Ext.alloc ?_ _ | refine Ext.drew ?_ | refine Ext.drewN ?_ _ | refine Ext.trans ?_ (by assumption))))), by have := Hmla.out; have := Hmlb.out; omega, hr⟩, by simp [lenOf]; omega⟩
              | false =>
                have hr : Hid (∀ c : Ch, c = ⟨3, y⟩ → (out ++ [c]) ++ chg la lb = chg l1 l2) := Lib.hid fun c hc => by subst hc; have := hrest.out; rw [chg_other _ _ q1 q2 hdir hq] at this; simpa using this
                have Ce : ∀ W, Ext wr W → Calls Tryd.prog 48 #[.agg #[.string x.path, .bool x.dir, .slice Ax x.ids.length cx], .agg #[.string y.path, .bool y.dir, .slice Ay y.ids.length cy]] W (Ret (.bool false) W) := fun W e => by
                  rw [← hq]; exact impl_itemEqual_c W ⟨_, rfl, hpsx, HUx.out.ext (he.trans e)⟩ ⟨_, rfl, hpsy, HUy.out.ext (he.trans e)⟩
                have hd1 : (x.dir != y.dir) = false := by rw [hdir]; simp
                have hd2 : (x.dir == y.dir) = true := by rw [hdir]; simp
                have Hdir := Lib.hid hdir
                clear hrest hq hdir
                go_wp2
                (refine wp_region_hold (fun W => Ext wr W) 16 [(0, true), (1, true), (2, true), (3, true), (4, true), (5, true), (6, true), (7, true), (8, true), (9, true), (10, true), (11, true), (12, true), (13, true), (14, true), (15, true)] (by kernel_rfl) (by kernel_rfl) ?_ ?_; (· (show Ext _ _); (repeat' (first | exact Ext.refl _ | assumption | refine Ext.alloc ?_ _ | refine Ext.drew ?_ | refine Ext.drewN ?_ _ | refine Ext.trans ?_ (by assumption)))); (repeat (first | (apply hw_read (by rfl) (by rfl); (· (intro W hW; (try dsimp only at hW); go_simp; (first | done | rfl | (rw [if_pos] <;> first | omega | rfl)))); (try simp only [Act.put, List.setIfInBounds_toArray, List.set_cons_zero, List.set_cons_succ])) | (refine hw_skip (by rfl) (by rfl) ?_; (try simp only [Act.put, List.setIfInBounds_toArray, List.set_cons_zero, List.set_cons_succ])))); (refine hw_nil ?_; simp only [List.drop_succ_cons, List.drop_zero]); go_wp2; all_goals (refine NoPanic.normal ?_; (try dsimp only [Exit.then])))
                go_wp2
                (refine wp_region_hold (fun W => Ext wr W) 12 [(0, true), (1, true), (2, true), (3, true), (4, true), (5, true), (6, true), (7, true), (8, true), (9, true), (10, true), (11, true)] (by kernel_rfl) (by kernel_rfl) ?_ ?_; (· (show Ext _ _); (repeat' (first | exact Ext.refl _ | assumption | refine Ext.alloc ?_ _ | refine Ext.drew ?_ | refine Ext.drewN ?_ _ | refine Ext.trans ?_ (by assumption)))); (repeat (first | (apply hw_read (by rfl) (by rfl); (· (intro W hW; (try dsimp only at hW); go_simp; (first | done | rfl | (rw [if_pos] <;> first | omega | rfl)))); (try simp only [Act.put, List.setIfInBounds_toArray, List.set_cons_zero, List.set_cons_succ])) | (refine hw_skip (by rfl) (by rfl) ?_; (try simp only [Act.put, List.setIfInBounds_toArray, List.set_cons_zero, List.set_cons_succ])))); (refine hw_nil ?_; simp only [List.drop_succ_cons, List.drop_zero]); go_wp2; all_goals (refine NoPanic.normal ?_; (try dsimp only [Exit.then])))
                go_wp2
                (refine wp_region_hold (fun W => Ext wr W) 8 [(0, true), (1, true), (2, true), (3, true), (4, true), (5, true), (6, true), (7, true)] (by kernel_rfl) (by kernel_rfl) ?_ ?_; (· (show Ext _ _); (repeat' (first | exact Ext.refl _ | assumption | refine Ext.alloc ?_ _ | refine Ext.drew ?_ | refine Ext.drewN ?_ _ | refine Ext.trans ?_ (by assumption)))); (repeat (first | (apply hw_read (by rfl) (by rfl); (· (intro W hW; (try dsimp only at hW); go_simp; (first | done | rfl | (rw [if_pos] <;> first | omega | rfl)))); (try simp only [Act.put, List.setIfInBounds_toArray, List.set_cons_zero, List.set_cons_succ])) | (refine hw_skip (by rfl) (by rfl) ?_; (try simp only [Act.put, List.setIfInBounds_toArray, List.set_cons_zero, List.set_cons_succ])))); (refine hw_nil ?_; simp only [List.drop_succ_cons, List.drop_zero]); go_wp2; all_goals (refine NoPanic.normal ?_; (try dsimp only [Exit.then])))
                go_wp2
                refine wp_region_hold (fun W => Ext wr W) 6 [(0, true), (1, true), (2, true), (3, true), (4, true), (5, true)] (by kernel_rfl) (by kernel_rfl) ?_ ?_
                · show Ext _ _; (repeat' (first | exact Ext.refl _ | assumption | refine Ext.alloc ?_ _ | refine Ext.drew ?_ | refine Ext.drewN ?_ _ | refine Ext.trans ?_ (by assumption)))
                (repeat (first | (apply hw_read (by rfl) (by rfl); (· (intro W hW; (try dsimp only at hW); go_simp; (first | done | rfl | (rw [if_pos] <;> first | omega | rfl)))); (try simp only [Act.put, List.setIfInBounds_toArray, List.set_cons_zero, List.set_cons_succ])) | (refine hw_skip (by rfl) (by rfl) ?_; (try simp only [Act.put, List.setIfInBounds_toArray, List.set_cons_zero, List.set_cons_succ]))))
                (refine hw_nil ?_; simp only [List.drop_succ_cons, List.drop_zero])
                go_wp2_with (go_at_call 48; refine (Ce _ (by (repeat' (first | exact Ext.refl _ | assumption | refine Ext.alloc ?_ _ | refine Ext.drew ?_ | refine Ext.drewN ?_ _ | refine Ext.trans ?_ (by assumption))))).mono ?_; rintro e w5 ⟨rfl, he5⟩)
                refine NoPanic.normal ?_
                dsimp only [Exit.then]
                have he6 : Ext wr w5 := by (repeat' (first | exact Ext.refl _ | assumption | refine Ext.alloc ?_ _ | refine Ext.drew ?_ | refine Ext.drewN ?_ _ | refine Ext.trans ?_ (by assumption)))
                clear he5
                have HO6 := Lib.hid (HO.out.ext (ECg_ok _) he6)
                have he7 := he.trans he6
                have k0 := gy0 w5 he6; have k1 := gy1 w5 he6; have k2 := gy2 w5 he6
                clear Ce HO he gx0 gx1 gx2 gy0 gy1 gy2 hd1 hd2
                go_wp2_with (at_builtin; go_must (refine wp_ap1 (w0 := w) (by rfl) _ _ (by rfl) el_Cg (ECg_ok _) he7 _ out [⟨3, y⟩] (by rfl) HO6.out 1 1 rfl #[chgV 3 y (.slice Ay y.ids.length cy)] _ (by rfl) (by first | rfl | simp) rfl one1 (one_E (ecg_of (.inr (.inr rfl)) hpsy (HUy.out.ext he7))) ?_ ?_))
                · simp; unfold lim; omega
                · intro v' w' hO' he' hk'
                  have HO' := Lib.hid hO'
                  clear hO' hk' he6 he7 k0 k1 k2
                  go_wp2
                  refine wp_region_hold (fun W => Ext w' W) 5 [(0, true), (1, true), (2, true), (3, true), (4, true)] (by kernel_rfl) (by kernel_rfl) ?_ ?_
                  · exact (Ext.refl _).drew
                  (repeat (first | (apply hw_read (by rfl) (by rfl); (· (intro W hW; (try dsimp only at hW); go_simp; (first | done | rfl | (rw [if_pos] <;> first | omega | rfl)))); (try simp only [Act.put, List.setIfInBounds_toArray, List.set_cons_zero, List.set_cons_succ])) | (refine hw_skip (by rfl) (by rfl) ?_; (try simp only [Act.put, List.setIfInBounds_toArray, List.set_cons_zero, List.set_cons_succ]))))
                  have HTT : Hid (SlIn B 35 3 (EIt B) w (if c1 = 1 then some ⟨b1, o1, none⟩ else some ⟨b1, o1 + 3, none⟩) (c1 - 1) la ∧ SlIn B 35 3 (EIt B) w (if c2 = 1 then some ⟨b2, o2, none⟩ else some ⟨b2, o2 + 3, none⟩) (c2 - 1) lb) := Lib.hid ⟨HTx.out, HTy.out⟩
                  clear HTx HTy HST
                  generalize (if c1 = 1 then (some ⟨b1, o1, none⟩ : Option Addr) else some ⟨b1, o1 + 3, none⟩) = X1 at *
                  generalize (if c2 = 1 then (some ⟨b2, o2, none⟩ : Option Addr) else some ⟨b2, o2 + 3, none⟩) = X2 at *
                  (refine hw_nil ?_; simp only [List.drop_succ_cons, List.drop_zero])
                  go_wp2
                  refine NoPanic.normal ?_
                  (try dsimp only [Exit.then])
                  go_wp2
                  exact ⟨⟨la, lb, out ++ [⟨3, y⟩], _, _, _, _, by rw [Hmla.out], by rw [Hmlb.out], Lib.hid HTT.out.1, Lib.hid HTT.out.2, by (repeat' (first | exact Ext.refl _ | assumption | refine Ext.alloc ?_ _ | refine Ext.drew ?_ | refine Ext.drewN ?_ _ | refine Ext.trans ?_ (by assumption))), Lib.hid (HO'.out.ext (ECg_ok _) (by (repeat' (first | exact Ext.refl _ | assumption | refine Ext.alloc ?_ _ | refine Ext.drew ?_ | refine Ext.drewN ?_ _ | refine Ext.trans ?_ (by assumption))))), by have := Hmla.out; have := Hmlb.out; simp; omega, Lib.hid (hr.out _ rfl)⟩, by simp [lenOf]; omega⟩
            · have hr : Hid (∀ c d : Ch, c = ⟨2, x⟩ → d = ⟨1, y⟩ → (out ++ [c, d]) ++ chg la lb = chg l1 l2) := Lib.hid fun c d hc hd => by subst hc; subst hd; have := hrest.out; rw [chg_two _ _ q1 q2 hdir] at this; simpa using this
              have hd1 : (x.dir != y.dir) = true := by simpa using hdir
              have hd2 : (x.dir == y.dir) = false := by simpa using hdir
              have Hdir := Lib.hid hdir
              clear hrest hdir
              go_wp2
              (refine wp_region_hold (fun W => Ext wr W) 16 [(0, true), (1, true), (2, true), (3, true), (4, true), (5, true), (6, true), (7, true), (8, true), (9, true), (10, true), (11, true), (12, true), (13, true), (14, true), (15, true)] (by kernel_rfl) (by kernel_rfl) ?_ ?_; (· (show Ext _ _); (repeat' (first | exact Ext.refl _ | assumption | refine Ext.alloc ?_ _ | refine Ext.drew ?_ | refine Ext.drewN ?_ _ | refine Ext.trans ?_ (by assumption)))); (repeat (first | (apply hw_read (by rfl) (by rfl); (· (intro W hW; (try dsimp only at hW); go_simp; (first | done | rfl | (rw [if_pos] <;> first | omega | rfl)))); (try simp only [Act.put, List.setIfInBounds_toArray, List.set_cons_zero, List.set_cons_succ])) | (refine hw_skip (by rfl) (by rfl) ?_; (try simp only [Act.put, List.setIfInBounds_toArray, List.set_cons_zero, List.set_cons_succ])))); (refine hw_nil ?_; simp only [List.drop_succ_cons, List.drop_zero]); go_wp2; all_goals (refine NoPanic.normal ?_; (try dsimp only [Exit.then])))
              go_wp2
              (refine wp_region_hold (fun W => Ext wr W) 12 [(0, true), (1, true), (2, true), (3, true), (4, true), (5, true), (6, true), (7, true), (8, true), (9, true), (10, true), (11, true)] (by kernel_rfl) (by kernel_rfl) ?_ ?_; (· (show Ext _ _); (repeat' (first | exact Ext.refl _ | assumption | refine Ext.alloc ?_ _ | refine Ext.drew ?_ | refine Ext.drewN ?_ _ | refine Ext.trans ?_ (by assumption)))); (repeat (first | (apply hw_read (by rfl) (by rfl); (· (intro W hW; (try dsimp only at hW); go_simp; (first | done | rfl | (rw [if_pos] <;> first | omega | rfl)))); (try simp only [Act.put, List.setIfInBounds_toArray, List.set_cons_zero, List.set_cons_succ])) | (refine hw_skip (by rfl) (by rfl) ?_; (try simp only [Act.put, List.setIfInBounds_toArray, List.set_cons_zero, List.set_cons_succ])))); (refine hw_nil ?_; simp only [List.drop_succ_cons, List.drop_zero]); go_wp2; all_goals (refine NoPanic.normal ?_; (try dsimp only [Exit.then])))
              go_wp2
              (refine wp_region_hold (fun W => Ext wr W) 8 [(0, true), (1, true), (2, true), (3, true), (4, true), (5, true), (6, true), (7, true)] (by kernel_rfl) (by kernel_rfl) ?_ ?_; (· (show Ext _ _); (repeat' (first | exact Ext.refl _ | assumption | refine Ext.alloc ?_ _ | refine Ext.drew ?_ | refine Ext.drewN ?_ _ | refine Ext.trans ?_ (by assumption)))); (repeat (first | (apply hw_read (by rfl) (by rfl); (· (intro W hW; (try dsimp only at hW); go_simp; (first | done | rfl | (rw [if_pos] <;> first | omega | rfl)))); (try simp only [Act.put, List.setIfInBounds_toArray, List.set_cons_zero, List.set_cons_succ])) | (refine hw_skip (by rfl) (by rfl) ?_; (try simp only [Act.put, List.setIfInBounds_toArray, List.set_cons_zero, List.set_cons_succ])))); (refine hw_nil ?_; simp only [List.drop_succ_cons, List.drop_zero]); go_wp2; all_goals (refine NoPanic.normal ?_; (try dsimp only [Exit.then])))
              go_wp2
              refine wp_region_hold (fun W => Ext wr W) 12 [(0, true), (1, true), (2, true), (3, true), (4, true), (5, true), (6, true), (7, true), (8, true), (9, true), (10, true), (11, false)] (by kernel_rfl) (by kernel_rfl) ?_ ?_
              · show Ext _ _; (repeat' (first | exact Ext.refl _ | assumption | refine Ext.alloc ?_ _ | refine Ext.drew ?_ | refine Ext.drewN ?_ _ | refine Ext.trans ?_ (by assumption)))
              (repeat (first | (apply hw_read (by rfl) (by rfl); (· (intro W hW; (try dsimp only at hW); go_simp; (first | done | rfl | (rw [if_pos] <;> first | omega | rfl)))); (try simp only [Act.put, List.setIfInBounds_toArray, List.set_cons_zero, List.set_cons_succ])) | (refine hw_skip (by rfl) (by rfl) ?_; (try simp only [Act.put, List.setIfInBounds_toArray, List.set_cons_zero, List.set_cons_succ]))))
              refine hw_step (by rfl) ?_
              go_wp2
              refine ⟨by (repeat' (first | exact Ext.refl _ | assumption | refine Ext.alloc ?_ _ | refine Ext.drew ?_ | refine Ext.drewN ?_ _ | refine Ext.trans ?_ (by assumption))), ?_⟩
              have HO6 := Lib.hid (HO.out.ext (ECg_ok _) (Ext.refl wr).drew.drew.drew.drew)
              have he7 := he.drew.drew.drew.drew
              clear HO gx0 gx1 gx2 gy0 gy1 gy2 hd1 hd2
              (refine hw_nil ?_; simp only [List.drop_succ_cons, List.drop_zero])
              go_wp2_with (at_builtin; go_must (refine wp_ap1 (w0 := w) (by rfl) _ _ (by rfl) el_Cg (ECg_ok _) he7 _ out [⟨2, x⟩, ⟨1, y⟩] (by rfl) HO6.out 2 2 rfl #[chgV 2 x (.slice Ax x.ids.length cx), chgV 1 y (.slice Ay y.ids.length cy)] _ (by rfl) (by first | rfl | simp) rfl one2c (two_E (ecg_of (.inr (.inl rfl)) hpsx (HUx.out.ext he7)) ⟨.inl rfl, hpsy, _, rfl, HUy.out.ext he7⟩) ?_ ?_))
              · simp; unfold lim; omega
              · intro v' w' hO' he' hk'
                have HO' := Lib.hid hO'
                clear hO' hk' he7 he
                go_wp2
                refine NoPanic.normal ?_
                (try dsimp only [Exit.then])
                go_wp2
                refine wp_region_hold (fun W => Ext w' W) 5 [(0, true), (1, true), (2, true), (3, true), (4, true)] (by kernel_rfl) (by kernel_rfl) ?_ ?_
                · exact (Ext.refl _).drew
                (repeat (first | (apply hw_read (by rfl) (by rfl); (· (intro W hW; (try dsimp only at hW); go_simp; (first | done | rfl | (rw [if_pos] <;> first | omega | rfl)))); (try simp only [Act.put, List.setIfInBounds_toArray, List.set_cons_zero, List.set_cons_succ])) | (refine hw_skip (by rfl) (by rfl) ?_; (try simp only [Act.put, List.setIfInBounds_toArray, List.set_cons_zero, List.set_cons_succ]))))
                have HTT : Hid (SlIn B 35 3 (EIt B) w (if c1 = 1 then some ⟨b1, o1, none⟩ else some ⟨b1, o1 + 3, none⟩) (c1 - 1) la ∧ SlIn B 35 3 (EIt B) w (if c2 = 1 then some ⟨b2, o2, none⟩ else some ⟨b2, o2 + 3, none⟩) (c2 - 1) lb) := Lib.hid ⟨HTx.out, HTy.out⟩
                clear HTx HTy HST
                generalize (if c1 = 1 then (some ⟨b1, o1, none⟩ : Option Addr) else some ⟨b1, o1 + 3, none⟩) = X1 at *
                generalize (if c2 = 1 then (some ⟨b2, o2, none⟩ : Option Addr) else some ⟨b2, o2 + 3, none⟩) = X2 at *
                (refine hw_nil ?_; simp only [List.drop_succ_cons, List.drop_zero])
                go_wp2
                refine NoPanic.normal ?_
                (try dsimp only [Exit.then])
                go_wp2
                exact ⟨⟨la, lb, out ++ [⟨2, x⟩, ⟨1, y⟩], _, _, _, _, by rw [Hmla.out], by rw [Hmlb.out], Lib.hid HTT.out.1, Lib.hid HTT.out.2, by (repeat' (first | exact Ext.refl _ | assumption | refine Ext.alloc ?_ _ | refine Ext.drew ?_ | refine Ext.drewN ?_ _ | refine Ext.trans ?_ (by assumption))), Lib.hid (HO'.out.ext (ECg_ok _) (by (repeat' (first | exact Ext.refl _ | assumption | refine Ext.alloc ?_ _ | refine Ext.drew ?_ | refine Ext.drewN ?_ _ | refine Ext.trans ?_ (by assumption))))), by have := Hmla.out; have := Hmlb.out; simp; omega, Lib.hid (hr.out _ _ rfl rfl)⟩, by simp [lenOf]; omega⟩
end Go.Sf
