/- What a move leaves: the law of a drawn tree. -/
import Derived.Test.YtbdgpbakhjpklaaGreatDoorT58
namespace Go.Sf
open Go Go.RowKit Go.Proofs
set_option maxHeartbeats 1000000 in
theorem FnTreeMove_big {A : Option Addr} {n c : Nat} (w : World) (hn : 1048576 < n) (hm : n ≤ maxLen) : Calls Tryz.prog 8 #[.slice A n c] w (Ret (.bool true) w) := by
  unfold maxLen at hm
  have h : (1048576 : Int) < (n : Int) := by omega
  go_enter Tryz.func8, Tryz.ntmps8
  go_wp2
  go_ret
  exact ⟨rfl, Ext.refl w⟩
set_option maxRecDepth 4000 in
set_option maxHeartbeats 2000000 in
theorem FnTreeMove_c {v : Value} {xs : List Int} (w : World) (h : Bys w v xs) (hm : ML w) (hl : xs.length ≤ 1048576) : Calls Tryz.prog 8 #[v] w (Ret (.bool true) w) := by
  have H := Lib.hid h
  obtain ⟨A, c, rfl, -⟩ := h
  have HM := Lib.hid hm; clear hm
  have hn : ¬ (1048576 : Int) < (xs.length : Int) := by omega
  go_enter Tryz.func8, Tryz.ntmps8
  go_wp2_with fail
  refine (DrawTreeMove_c _ H.out).mono ?_
  rintro e w1 ⟨va, la, f, t, rfl, hIa, hla, hf, ht, he1⟩
  have HIa := Lib.hid hIa
  have HM1 := Lib.hid (HM.out.ext he1)
  have HF := Lib.hid hf; have HT := Lib.hid ht
  clear hIa hf ht
  go_wp2_with fail
  refine (TreeMove_c sort_c f t _ HIa.out HF.out HT.out HM1.out).mono ?_
  rintro e w2 ⟨v2, rfl, hU1, he2⟩
  obtain ⟨u2, rfl, hC1⟩ := hU1.plain
  have HE2 := Lib.hid (he1.trans he2)
  have HC1 := Lib.hid hC1
  have HIa2 := Lib.hid (HIa.out.ext he2)
  have HM2 := Lib.hid (HM1.out.ext he2)
  clear he1 he2 hC1 hU1
  go_wp2_with fail
  refine (specTreeMove_c f t _ HIa2.out HF.out HT.out).mono ?_
  rintro e w3 ⟨v3, rfl, ⟨u3, rfl, hC2⟩, he3⟩
  have Cs := same_tree (HC1.out.ext he3) hC2
  have HE3 := Lib.hid (HE2.out.trans he3)
  have HC3 := Lib.hid (HC1.out.ext he3)
  have HIa3 := Lib.hid (HIa2.out.ext he3)
  have HM3 := Lib.hid (HM2.out.ext he3)
  clear he3 hC2 HC1 HIa2 HM2 HE2
  cases hch : moveOf la f t with
  | none =>
    have e1 : (none : Option (List It)).isSome = false := rfl
    simp only [hch, e1] at *
    clear hch
    go_wp2_with (go_at_call 17; refine (Cs _ (by first | exact Ext.refl _ | assumption)).mono ?_; rintro e w4 ⟨rfl, he4⟩)
    go_ret
    exact ⟨rfl, HE3.out.trans (by (repeat' (first | exact Ext.refl _ | assumption | refine Ext.alloc ?_ _ | refine Ext.drew ?_ | refine Ext.drewN ?_ _ | refine Ext.trans ?_ (by assumption))))⟩
  | some o =>
    have e1 : (some o : Option (List It)).isSome = true := rfl
    have M := Lib.hid (moveOf_some hch)
    simp only [hch, e1, Option.getD_some] at *
    clear hch
    go_wp2_with (go_at_call 17; refine (Cs _ (by first | exact Ext.refl _ | assumption)).mono ?_; rintro e w4 ⟨rfl, he4⟩)
    have HM4 := Lib.hid (HM3.out.ext he4)
    have HIa4 := Lib.hid (HIa3.out.ext he4)
    have HE4 := Lib.hid (HE3.out.trans he4)
    have HC4 := Lib.hid (HC3.out.ext he4)
    clear he4 Cs HM3 HIa3 HE3 HC3
    have hok := Lib.hid M.out.ook
    obtain ⟨Aa, ca, rfl, -⟩ := HIa4.out
    obtain ⟨Ao, co, rfl, -⟩ := HC4.out
    have Cv : ∀ W, Ext w4 W → Calls Tryz.prog 26 #[.slice Ao o.length co] W (Ret (.bool true) W) := fun W e => by
      have := TreeValid_c W (HC4.out.ext e) (HM4.out.ext e)
      rwa [hok.out] at this
    have Cf : Hid (∀ (y : It), y ∈ o → y.path.size < lim → ∀ W, Ext w4 W → Calls Tryz.prog 22 #[.slice Ao o.length co, .string y.path] W (FindP W (some y))) := Lib.hid fun y hy hs W e => by
      have := TreeFind_c W (HC4.out.ext e) hok.out y.path hs (HM4.out.ext e)
      rwa [tree_find hok.out hy] at this
    have hlen := move_len M.out
    have hpok : Hid (∀ x, x ∈ la → pathOk x.path = true) := Lib.hid fun x hx => tree_path M.out.lok hx
    have hex : ∃ n, la.length = n := ⟨_, rfl⟩
    obtain ⟨n, hn⟩ := hex
    rw [hn] at hla hlen HIa4 ⊢
    have Hn := Lib.hid hn
    clear hn
    have hol := HC4.out.len
    unfold lim at hol
    generalize hmm : o.length = m at *
    have Hm := Lib.hid hmm
    have Hlen := Lib.hid hlen
    clear hmm HIa hlen
    go_wp2
    go_loopw [10] (fun i wr => ∃ k : Nat, k ≤ n ∧ i = .int .i64 k ∧ Ext w4 wr) (fun i _ => n - (RowKit.intOf i).toNat)
    case atStart => exact ⟨0, by omega, rfl, Ext.refl _⟩
    case round =>
      obtain ⟨k, hk, rfl, he⟩ := hrel
      by_cases hlt : k < n
      · obtain ⟨x, hx⟩ := get_of_lt (l := la) (k := k) (by rw [Hn.out]; exact hlt)
        have hmem := Lib.hid (List.mem_of_getElem? hx)
        have hpx := hpok.out x hmem.out
        have hIr := HIa4.out.ext he
        obtain ⟨Ar, cr, hvr, hAr⟩ := hIr
        rw [Hn.out] at hvr
        injection hvr with e1 _ e2
        subst e1; subst e2
        obtain ⟨bb, oo, u2, rfl, -, -, hps, ⟨Ax, cx, rfl, hux⟩, hc0, hc1, hc2⟩ := Its.at_ hAr hx
        have HX : Hid (∀ W, Ext wr W → Ints w.heap.size W (.slice Ax x.ids.length cx) x.ids) := Lib.hid fun W e => Ints.ext (show Ints _ wr _ _ from ⟨_, _, rfl, hux⟩) e
        have Cw : ∀ W, Ext w4 W → Calls Tryz.prog 18 #[.string x.path, .string f] W (Ret (.bool (within x.path f)) W) := fun W e => by
          have := PathWithin_c x.path f W hps HF.out (HM4.out.ext e)
          rwa [hpx, Bool.true_and] at this
        have Next : ∀ W, Ext w4 W → (∃ k' : Nat, k' ≤ n ∧ Value.int .i64 ((k : Int) + 1) = .int .i64 k' ∧ Ext w4 W) := fun W e => ⟨k + 1, by omega, by go_num, e⟩
        clear hAr hx hpx hux
        have q0 := hc0 wr (Ext.refl _)
        cases hw : within x.path f with
        | false =>
          rw [hw] at Cw
          have Cx := Cf.out x (M.out.kept (List.mem_filter.2 ⟨hmem.out, by simp [hw]⟩)) hps
          clear hw
          go_wp2_with fail
          refine (Cw _ he).mono ?_
          rintro e w8 ⟨rfl, he8⟩
          go_wp2_with fail
          refine (Cx _ (he.trans he8)).mono ?_
          rintro e w10 ⟨uy, rfl, he10, vy5, rfl, hpy, ⟨Ay, cy, rfl, huy⟩⟩
          simp only [Option.isSome_some, Option.getD_some] at *
          have E10 := (he.trans he8).trans he10
          have Bz := Blk.new w10 32 #[.string x.path, .bool x.dir, .slice Ay x.ids.length cy]
          have z1 := fun W (e : Ext _ W) => Bz.at_ (i := 1) (u := .bool x.dir) rfl W e
          have z2 := fun W (e : Ext _ W) => Bz.at_ (i := 2) (u := .slice Ay x.ids.length cy) rfl W e
          have e10 := fun W (e : Ext (w10.alloc (.cells #[.string x.path, .bool x.dir, .slice Ay x.ids.length cy] 32)) W) => (((Ext.refl w10).alloc _).trans e)
          have e6 := fun W (e : Ext (w10.alloc (.cells #[.string x.path, .bool x.dir, .slice Ay x.ids.length cy] 32)) W) => he8.trans (he10.trans (e10 W e))
          have c1 := fun W (e : Ext _ W) => hc1 W (e6 W e); have c2 := fun W (e : Ext _ W) => hc2 W (e6 W e)
          have Ct : ∀ W, Ext _ W → Calls Tryz.prog 25 #[.slice Ay x.ids.length cy, .slice Ax x.ids.length cx] W (Ret (.bool true) W) := fun W e => by
            have := laws_sameInts_c W (Ints.ext (show Ints _ w10 _ _ from ⟨_, _, rfl, huy⟩) (e10 W e)) (HX.out W (e6 W e))
            rwa [show eqb x.ids x.ids = true from eqb_true.2 rfl] at this
          clear hc0 hc1 hc2 q0 huy Bz
          go_wp2
          refine wp_region_ext (by kernel_rfl) (by kernel_rfl) ?_
          repeat (first | (apply q_plain rfl; (· intro W eW; go_simp; (first | done | rfl | (rw [if_pos] <;> first | omega | rfl))); (try simp only [Act.put, List.setIfInBounds_toArray, List.set_cons_zero, List.set_cons_succ])) | (refine qg_skip (by rfl) ?_; (try simp only [Act.put, List.setIfInBounds_toArray, List.set_cons_zero, List.set_cons_succ])) | (apply qg_plain (by rfl); (· intro W eW; go_simp; (first | done | rfl | (rw [if_pos] <;> first | omega | rfl))); (try simp only [Act.put, List.setIfInBounds_toArray, List.set_cons_zero, List.set_cons_succ])))
          ((first | apply q_call rfl | apply qg_call (by rfl)); (· intro W eW; go_simp; (first | done | (constructor <;> rfl))); (· intro W eW; exact Ct W eW); (try simp only [Act.put, List.setIfInBounds_toArray, List.set_cons_zero, List.set_cons_succ]))
          repeat (first | (apply q_plain rfl; (· intro W eW; go_simp; (first | done | rfl | (rw [if_pos] <;> first | omega | rfl))); (try simp only [Act.put, List.setIfInBounds_toArray, List.set_cons_zero, List.set_cons_succ])) | (refine qg_skip (by rfl) ?_; (try simp only [Act.put, List.setIfInBounds_toArray, List.set_cons_zero, List.set_cons_succ])) | (apply qg_plain (by rfl); (· intro W eW; go_simp; (first | done | rfl | (rw [if_pos] <;> first | omega | rfl))); (try simp only [Act.put, List.setIfInBounds_toArray, List.set_cons_zero, List.set_cons_succ])))
          refine q_nil ?_
          intro w11 e11
          have E11 := E10.trans (e10 _ e11)
          clear c1 c2 z1 z2 Ct e6 e10
          go_wp2
          go_roundw
          case rel => exact Next _ E11
          case measure => simp [RowKit.intOf]; omega
        | true =>
          rw [hw] at Cw
          obtain ⟨y, hy, hm⟩ := M.out.inside hmem.out hw
          obtain ⟨hyd, hyi, hpm, -, -⟩ := mvItem_some hm
          obtain ⟨yp, yd, yi⟩ := y
          simp only at hyd hyi hpm
          subst hyd
          subst hyi
          have Cm : ∀ W, Ext w4 W → Calls Tryz.prog 24 #[.string x.path, .string f, .string t] W (Ret (.tuple #[.string yp, .bool true]) W) := fun W e => by
            have := PathMove_c x.path f t W hps HF.out HT.out (HM4.out.ext e)
            rwa [hpm] at this
          have Cy := Cf.out _ hy (HC4.out.path_lim hy)
          simp only at Cy
          clear hw hm hpm hy
          go_wp2_with fail
          refine (Cw _ he).mono ?_
          rintro e w8 ⟨rfl, he8⟩
          go_wp2_with fail
          refine (Cm _ (he.trans he8)).mono ?_
          rintro e w9 ⟨rfl, he9⟩
          go_wp2_with fail
          refine (Cy _ ((he.trans he8).trans he9)).mono ?_
          rintro e w10 ⟨uy, rfl, he10, vy5, rfl, hpy, ⟨Ay, cy, rfl, huy⟩⟩
          simp only [Option.isSome_some, Option.getD_some] at *
          have E10 := ((he.trans he8).trans he9).trans he10
          have Bz := Blk.new w10 32 #[.string yp, .bool x.dir, .slice Ay x.ids.length cy]
          have z1 := fun W (e : Ext _ W) => Bz.at_ (i := 1) (u := .bool x.dir) rfl W e
          have z2 := fun W (e : Ext _ W) => Bz.at_ (i := 2) (u := .slice Ay x.ids.length cy) rfl W e
          have e10 := fun W (e : Ext (w10.alloc (.cells #[.string yp, .bool x.dir, .slice Ay x.ids.length cy] 32)) W) => (((Ext.refl w10).alloc _).trans e)
          have e6 := fun W (e : Ext (w10.alloc (.cells #[.string yp, .bool x.dir, .slice Ay x.ids.length cy] 32)) W) => (he8.trans he9).trans (he10.trans (e10 W e))
          have c1 := fun W (e : Ext _ W) => hc1 W (e6 W e); have c2 := fun W (e : Ext _ W) => hc2 W (e6 W e)
          have Ct : ∀ W, Ext _ W → Calls Tryz.prog 25 #[.slice Ay x.ids.length cy, .slice Ax x.ids.length cx] W (Ret (.bool true) W) := fun W e => by
            have := laws_sameInts_c W (Ints.ext (show Ints _ w10 _ _ from ⟨_, _, rfl, huy⟩) (e10 W e)) (HX.out W (e6 W e))
            rwa [show eqb x.ids x.ids = true from eqb_true.2 rfl] at this
          clear hc0 hc1 hc2 q0 huy Bz
          go_wp2
          refine wp_region_ext (by kernel_rfl) (by kernel_rfl) ?_
          repeat (first | (apply q_plain rfl; (· intro W eW; go_simp; (first | done | rfl | (rw [if_pos] <;> first | omega | rfl))); (try simp only [Act.put, List.setIfInBounds_toArray, List.set_cons_zero, List.set_cons_succ])) | (refine qg_skip (by rfl) ?_; (try simp only [Act.put, List.setIfInBounds_toArray, List.set_cons_zero, List.set_cons_succ])) | (apply qg_plain (by rfl); (· intro W eW; go_simp; (first | done | rfl | (rw [if_pos] <;> first | omega | rfl))); (try simp only [Act.put, List.setIfInBounds_toArray, List.set_cons_zero, List.set_cons_succ])))
          ((first | apply q_call rfl | apply qg_call (by rfl)); (· intro W eW; go_simp; (first | done | (constructor <;> rfl))); (· intro W eW; exact Ct W eW); (try simp only [Act.put, List.setIfInBounds_toArray, List.set_cons_zero, List.set_cons_succ]))
          repeat (first | (apply q_plain rfl; (· intro W eW; go_simp; (first | done | rfl | (rw [if_pos] <;> first | omega | rfl))); (try simp only [Act.put, List.setIfInBounds_toArray, List.set_cons_zero, List.set_cons_succ])) | (refine qg_skip (by rfl) ?_; (try simp only [Act.put, List.setIfInBounds_toArray, List.set_cons_zero, List.set_cons_succ])) | (apply qg_plain (by rfl); (· intro W eW; go_simp; (first | done | rfl | (rw [if_pos] <;> first | omega | rfl))); (try simp only [Act.put, List.setIfInBounds_toArray, List.set_cons_zero, List.set_cons_succ])))
          refine q_nil ?_
          intro w11 e11
          have E11 := E10.trans (e10 _ e11)
          clear c1 c2 z1 z2 Ct e6 e10
          go_wp2
          go_roundw
          case rel => exact Next _ E11
          case measure => simp [RowKit.intOf]; omega
      · have hks : k = n := by omega
        subst hks
        clear hlt hk
        go_wp2
        go_loopw [16] (fun i wr2 => ∃ j : Nat, j ≤ m ∧ i = .int .i64 j ∧ Ext w4 wr2) (fun i _ => m - (RowKit.intOf i).toNat)
        case atStart => exact ⟨0, by omega, rfl, he⟩
        case round =>
          obtain ⟨j, hj, rfl, he2⟩ := hrel
          by_cases hlt : j < m
          · obtain ⟨y, hy⟩ := get_of_lt (l := o) (k := j) (by rw [Hm.out]; exact hlt)
            have hyo := List.mem_of_getElem? hy
            have hnf := move_not_f M.out y hyo
            have hyp := tree_path hok.out hyo
            have hys := HC4.out.path_lim hyo
            have hIr := HC4.out.ext he2
            obtain ⟨Ar, cr, hvr, hAr⟩ := hIr
            rw [Hm.out] at hvr
            injection hvr with e1 _ e2
            subst e1; subst e2
            obtain ⟨bb, oo, u2, rfl, -, -, -, -, hc0, -, -⟩ := Its.at_ hAr hy
            have q0 := hc0 _ (Ext.refl _)
            have Cw : ∀ W, Ext w4 W → Calls Tryz.prog 18 #[.string y.path, .string f] W (Ret (.bool false) W) := fun W e => by
              have := PathWithin_c y.path f W hys HF.out (HM4.out.ext e)
              rwa [hyp, Bool.true_and, hnf] at this
            clear hc0 hAr hy hyo hnf hyp
            go_wp2_with (go_at_call 18; refine (Cw _ he2).mono ?_; rintro e w8 ⟨rfl, he8⟩)
            go_roundw
            case rel => exact ⟨j + 1, by omega, by go_num, he2.trans he8⟩
            case measure => simp [RowKit.intOf]; omega
          · have hjs : j = m := by omega
            subst hjs
            have hmn := Hlen.out
            subst hmn
            go_wp2_with (go_at_call 26; refine (Cv _ he2).mono ?_; rintro e w8 ⟨rfl, he8⟩)
            go_ret
            exact ⟨rfl, HE4.out.trans (he2.trans he8)⟩
end Go.Sf
