/- How many items a clone brings: the law of a drawn tree. -/
import Derived.Test.YtbdgpbakhjpklaaGreatDoorT55
namespace Go.Sf
open Go Go.RowKit Go.Proofs
set_option maxHeartbeats 1000000 in
theorem FnTreeCloneMany_big {A : Option Addr} {n c : Nat} (w : World) (hn : 1048576 < n) (hm : n ≤ maxLen) : Calls Tryz.prog 3 #[.slice A n c] w (Ret (.bool true) w) := by
  unfold maxLen at hm
  have h : (1048576 : Int) < (n : Int) := by omega
  go_enter Tryz.func3, Tryz.ntmps3
  go_wp2
  go_ret
  exact ⟨rfl, Ext.refl w⟩
set_option maxRecDepth 4000 in
set_option maxHeartbeats 2000000 in
theorem FnTreeCloneMany_c {v : Value} {xs : List Int} (w : World) (h : Bys w v xs) (hm : ML w) (hl : xs.length ≤ 1048576) : Calls Tryz.prog 3 #[v] w (Ret (.bool true) w) := by
  have H := Lib.hid h
  obtain ⟨A, c, rfl, -⟩ := h
  have HM := Lib.hid hm; clear hm
  have hn : ¬ (1048576 : Int) < (xs.length : Int) := by omega
  go_enter Tryz.func3, Tryz.ntmps3
  go_wp2_with fail
  refine (DrawTreeClone_c _ H.out).mono ?_
  rintro e w1 ⟨va, la, f, t, rfl, hIa, hla, hf, ht, he1⟩
  have HIa := Lib.hid hIa
  have HM1 := Lib.hid (HM.out.ext he1)
  have HF := Lib.hid hf; have HT := Lib.hid ht
  clear hIa hf ht
  go_wp2_with fail
  refine (TreeClone_c sort_c f t _ HIa.out HF.out HT.out HM1.out).mono ?_
  rintro e w2 ⟨v2, rfl, hU1, he2⟩
  obtain ⟨u2, rfl, hC1⟩ := hU1.plain
  have HE2 := Lib.hid (he1.trans he2)
  have HC1 := Lib.hid hC1
  have HIa2 := Lib.hid (HIa.out.ext he2)
  have HM2 := Lib.hid (HM1.out.ext he2)
  clear he1 he2 hC1 hU1
  go_wp2_with fail
  refine (specTreeClone_c f t _ HIa2.out HF.out HT.out).mono ?_
  rintro e w3 ⟨v3, rfl, ⟨u3, rfl, hC2⟩, he3⟩
  have Cs := same_tree (HC1.out.ext he3) hC2
  have HE3 := Lib.hid (HE2.out.trans he3)
  have HC3 := Lib.hid (HC1.out.ext he3)
  have HIa3 := Lib.hid (HIa2.out.ext he3)
  have HM3 := Lib.hid (HM2.out.ext he3)
  clear he3 hC2 HC1 HIa2 HM2 HE2
  cases hch : cloneOf la f t with
  | none =>
    have e1 : (none : Option (List It)).isSome = false := rfl
    simp only [hch, e1] at *
    clear hch
    go_wp2_with (go_at_call 17; refine (Cs _ (by first | exact Ext.refl _ | assumption)).mono ?_; rintro e w4 ⟨rfl, he4⟩)
    go_ret
    exact ⟨rfl, HE3.out.trans (by (repeat' (first | exact Ext.refl _ | assumption | refine Ext.alloc ?_ _ | refine Ext.drew ?_ | refine Ext.drewN ?_ _ | refine Ext.trans ?_ (by assumption))))⟩
  | some o =>
    have e1 : (some o : Option (List It)).isSome = true := rfl
    have M := Lib.hid (cloneOf_some hch)
    simp only [hch, e1, Option.getD_some] at *
    clear hch
    go_wp2_with (go_at_call 17; refine (Cs _ (by first | exact Ext.refl _ | assumption)).mono ?_; rintro e w4 ⟨rfl, he4⟩)
    have HM4 := Lib.hid (HM3.out.ext he4)
    have HIa4 := Lib.hid (HIa3.out.ext he4)
    have HE4 := Lib.hid (HE3.out.trans he4)
    have HC4 := Lib.hid (HC3.out.ext he4)
    clear he4 Cs HM3 HIa3 HE3 HC3
    have hlen := M.out.len
    have hone := M.out.some_
    have hpok : Hid (∀ x, x ∈ la → pathOk x.path = true) := Lib.hid fun x hx => tree_path M.out.lok hx
    obtain ⟨Aa, ca, rfl, -⟩ := HIa4.out
    obtain ⟨Ao, co, rfl, -⟩ := HC4.out
    have hol := HC4.out.len
    unfold lim at hol
    have hil := inside_len la f
    have hex : ∃ n, la.length = n := ⟨_, rfl⟩
    obtain ⟨n, hn⟩ := hex
    rw [hn] at hla hlen hil HIa4 ⊢
    have Hn := Lib.hid hn
    clear hn
    generalize hmm : o.length = m at *
    have Hlen := Lib.hid hlen
    clear hmm HC4 HIa hlen
    go_wp2
    go_loopw [10, 11] (fun c i wr => ∃ k : Nat, k ≤ n ∧ i = .int .i64 k ∧ c = .int .i64 (insideOf (la.take k) f).length ∧ Ext w4 wr) (fun _ i _ => n - (RowKit.intOf i).toNat)
    case atStart => exact ⟨0, by omega, rfl, rfl, Ext.refl _⟩
    case round =>
      obtain ⟨k, hk, rfl, rfl, he'⟩ := hrel
      by_cases hlt : k < n
      · obtain ⟨x, hx⟩ := get_of_lt (l := la) (k := k) (by rw [Hn.out]; exact hlt)
        have hpx := hpok.out x (List.mem_of_getElem? hx)
        have hIr := HIa4.out.ext he'
        obtain ⟨Ar, cr, hvr, hAr⟩ := hIr
        rw [Hn.out] at hvr
        injection hvr with e1 _ e2
        subst e1; subst e2
        obtain ⟨bb, oo, u2, rfl, -, -, hps, -, hc0, -, -⟩ := Its.at_ hAr hx
        have q0 := hc0 wr (Ext.refl _)
        have Cw : ∀ W, Ext w4 W → Calls Tryz.prog 18 #[.string x.path, .string f] W (Ret (.bool (within x.path f)) W) := fun W e => by
          have := PathWithin_c x.path f W hps HF.out (HM4.out.ext e)
          rwa [hpx, Bool.true_and] at this
        have hit := inside_take (f := f) hx
        have hle := inside_len (la.take k) f
        have htl := List.length_take_le' k la
        rw [Hn.out] at htl
        clear hc0 hAr hx hpx
        cases hw : within x.path f with
        | true =>
          rw [hw] at Cw
          rw [hw, if_pos rfl] at hit
          have Hit := Lib.hid hit
          generalize hcc : (insideOf (la.take k) f).length = cc at *
          clear hw hit hcc
          go_wp2_with (go_at_call 18; refine (Cw _ he').mono ?_; rintro e w8 ⟨rfl, he8⟩)
          go_roundw
          case rel => exact ⟨k + 1, by omega, by go_num, by rw [Hit.out]; go_num, he'.trans he8⟩
          case measure => simp [RowKit.intOf]; omega
        | false =>
          rw [hw] at Cw
          rw [hw, if_neg (by simp)] at hit
          have Hit := Lib.hid hit
          generalize hcc : (insideOf (la.take k) f).length = cc at *
          clear hw hit hcc
          go_wp2_with (go_at_call 18; refine (Cw _ he').mono ?_; rintro e w8 ⟨rfl, he8⟩)
          go_roundw
          case rel => exact ⟨k + 1, by omega, by go_num, by rw [Hit.out]; go_num, he'.trans he8⟩
          case measure => simp [RowKit.intOf]; omega
      · have hks : k = n := by omega
        subst hks
        have e : la.take k = la := List.take_of_length_le (by rw [Hn.out]; exact Nat.le_refl _)
        rw [e]
        clear e
        generalize hcc : (insideOf la f).length = cc at *
        clear hcc
        have hlen := Hlen.out
        have hone' : (1 : Int) ≤ (cc : Int) := by omega
        subst hlen
        clear Hlen
        go_wp2_with fail
        all_goals go_ret
        all_goals exact ⟨rfl, HE4.out.trans he'⟩
end Go.Sf
