/- The reference moves and clones: the parts put together. -/
import Derived.Test.YtbdgpbakhjpklaaGreatDoorT42
namespace Go.Sf
open Go Go.RowKit Go.Proofs
theorem find_cases (l : List It) (p : ByteArray) : ((findIt l p).isSome = false ∧ atPath l p = -1) ∨ ((findIt l p).isSome = true ∧ ∃ i : Nat, i < l.length ∧ atPath l p = (i : Int)) := by
  rcases atG_find (pathIs p) l 0 with ⟨h1, h2⟩ | ⟨i, x, h1, h2, h3, h4, -⟩
  · exact .inl ⟨by rw [findIt, h1]; rfl, h2⟩
  · exact .inr ⟨by rw [findIt, h3]; rfl, i, lt_of_get h1, by rw [atPath, h4]; simp⟩
theorem OwnS.both {base B B' : Nat} {w : World} {v : Value} {l : List It} (h : OwnS base 32 3 (EIt B) w v l) (hb : B' ≤ base) (hB : B' ≤ B) : OwnS B' 32 3 (EIt B') w v l :=
  let ⟨xs, h1, h2⟩ := h.mono hb; ⟨xs, h1, fun k x hx => EIt.keep (h2 k x hx) hB (fun _ _ _ => rfl)⟩
theorem placeOf_none {l cs : List It} (h : placeAll l cs = none) : placeOf l cs = none := by unfold placeOf; rw [h]; rfl
theorem placeOf_some' {l cs o : List It} (h : placeAll l cs = some o) : placeOf l cs = if treeOk o = true then some o else none := by unfold placeOf; rw [h]; rfl
theorem putIt_len_le (x : It) : ∀ l : List It, (putIt x l).length ≤ l.length + 1 := by
  intro l
  induction l with
  | nil => simp [putIt]
  | cons y r ih =>
    rw [putIt]
    split
    · simp only [List.length_cons]; omega
    · have := List.length_filter_le (fun z => !eqb z.path x.path) (y :: r)
      simp only [List.length_cons] at this ⊢; omega
set_option maxRecDepth 8000 in
set_option maxHeartbeats 2000000 in
theorem l23Put_c {B B' : Nat} {v1 v2 : Value} {l cs : List It} (w : World) (h1 : Its B w v1 l) (h2 : Its B' w v2 cs) (hlen : l.length + cs.length < 1000000) :
    Calls Tryz.prog 49 #[v1, v2] w (RetP (OptIts w.heap.size (placeOf l cs)) w) := by
  have H1 := Lib.hid h1
  obtain ⟨A, c, rfl, hA⟩ := h2
  have hex : ∃ n, cs.length = n := ⟨_, rfl⟩
  obtain ⟨n, hn⟩ := hex
  rw [hn] at hlen ⊢
  have Hn := Lib.hid hn
  have HA := Lib.hid hA
  clear hA hn h1
  go_enter Tryz.func49, Tryz.ntmps49
  go_wp2_with fail
  refine (l5All_c w H1.out).mono ?_
  rintro e w1 ⟨va, rfl, hO1, he1⟩
  have HO1 := Lib.hid hO1
  clear hO1
  go_wp2
  go_loopw [6, 7] (fun v i wr => ∃ (k : Nat) (out : List It), k ≤ n ∧ i = .int .i64 k ∧ Ext w wr ∧ OwnS w.heap.size 32 3 (EIt w.heap.size) wr v out ∧ out.length ≤ l.length + k ∧ Hid (placeAll l cs = placeAll out (cs.drop k))) (fun _ i _ => n - (intOf i).toNat)
  case atStart => exact ⟨0, l, by omega, rfl, he1, HO1.out, by omega, Lib.hid (by simp)⟩
  case round =>
    obtain ⟨k, out, hk, rfl, he, hO, hol, hrest⟩ := hrel
    have HO := Lib.hid hO
    by_cases hlt : k < n
    · obtain ⟨x, hx⟩ := get_of_lt (l := cs) (k := k) (by rw [Hn.out]; exact hlt)
      obtain ⟨b, o, u2, rfl, -, -, hps, hu, hc0, hc1, hc2⟩ := Its.at_ HA.out hx
      obtain ⟨Ax, cx, rfl, hux⟩ := hu
      have a0 := fun W (e : Ext wr W) => hc0 W (he.trans e); have a1 := fun W (e : Ext wr W) => hc1 W (he.trans e); have a2 := fun W (e : Ext wr W) => hc2 W (he.trans e)
      have HX : Hid (∀ W, Ext wr W → ItV B' W (.agg #[.string x.path, .bool x.dir, .slice Ax x.ids.length cx]) x) := Lib.hid fun W e => ⟨_, rfl, hps, Ints.ext (show Ints B' w _ _ from ⟨_, _, rfl, hux⟩) (he.trans e)⟩
      have HI : Hid (∀ W, Ext wr W → Its w.heap.size W _ out) := Lib.hid fun W e => Its.ext (hO.sl (EIt_ok _) (Nat.le_refl _) (by unfold lim; omega)) e
      have hd := drop_cons hx
      rw [hd] at hrest
      have q0 := a0 wr (Ext.refl _)
      have hfc := find_cases out x.path
      obtain ⟨A', c', rfl⟩ := hO.form
      clear hc0 hc1 hc2 hux hx hd hO
      rcases hfc with ⟨hf, hat⟩ | ⟨hf, i, hi, hat⟩
      · have Ca := l5At_c x.path wr (HI.out wr (Ext.refl _))
        rw [hat] at Ca
        have Hr : Hid (placeAll l cs = placeAll (putIt x out) (cs.drop (k + 1))) := Lib.hid (by rw [hrest.out, placeAll, if_neg (by simp [hf])])
        clear hf hat hrest
        go_wp2_with (go_at_call 91; refine Ca.mono ?_; rintro e w2 ⟨rfl, he2⟩; have q0 := a0 w2 he2; have q1 := a1 w2 he2; have q2 := a2 w2 he2)
        refine (l5Put_c _ (HI.out _ he2) (HX.out _ he2) (by unfold lim; omega)).mono ?_
        rintro e w3 ⟨v3, rfl, hO3, he3⟩
        have HO3 := Lib.hid (hO3.both (B' := w.heap.size) (he.trans he2).size (he.trans he2).size)
        have hpl := putIt_len_le x out
        have hf3 := hO3.form
        obtain ⟨A3, c3, rfl⟩ := hf3
        clear hO3 a0 a1 a2 q0 q1 q2 Ca
        go_wp2
        go_roundw
        case rel => exact ⟨k + 1, putIt x out, by omega, by go_num, (he.trans he2).trans he3, HO3.out, by omega, Hr⟩
        case measure => simp [intOf]; omega
      · have Ca := l5At_c x.path wr (HI.out wr (Ext.refl _))
        rw [hat] at Ca
        have Hr : Hid (placeOf l cs = none) := Lib.hid (placeOf_none (by rw [hrest.out, placeAll, if_pos hf]))
        clear hf hat hrest a0 a1 a2
        go_wp2_with (go_at_call 91; refine Ca.mono ?_; rintro e w2 ⟨rfl, he2⟩)
        go_ret2
        exact ⟨_, rfl, OptIts.none_ Hr.out, (he.trans he2).alloc _⟩
    · have hks : k = n := by omega
      subst hks
      have Hr : Hid (placeOf l cs = if treeOk out = true then some out else none) := Lib.hid (placeOf_some' (by
        rw [hrest.out, List.drop_eq_nil_of_le (by rw [Hn.out]; exact Nat.le_refl _), placeAll]))
      obtain ⟨A', c', rfl⟩ := hO.form
      have HI := Lib.hid (hO.sl (EIt_ok _) (Nat.le_refl _) (by unfold lim; omega))
      have Cv := specTreeValid_c wr HI.out
      clear hrest hO
      cases ht : treeOk out with
      | false =>
        rw [ht] at Cv
        have Hr2 : Hid (placeOf l cs = none) := Lib.hid (by rw [Hr.out, ht]; rfl)
        clear ht
        go_wp2_with (go_at_call 67; refine Cv.mono ?_; rintro e w2 ⟨rfl, he2⟩)
        go_ret2
        exact ⟨_, rfl, OptIts.none_ Hr2.out, (he.trans he2).alloc _⟩
      | true =>
        rw [ht] at Cv
        have Hr2 : Hid (placeOf l cs = some out) := Lib.hid (by rw [Hr.out, ht]; rfl)
        clear ht
        go_wp2_with (go_at_call 67; refine Cv.mono ?_; rintro e w2 ⟨rfl, he2⟩)
        go_ret2
        exact ⟨_, rfl, OptIts.some_ Hr2.out (Its.ext HI.out he2), he.trans he2⟩
theorem mvOk_if {l : List It} {f t : ByteArray} {b1 b2 b3 b4 b5 b6 : Bool} (h1 : treeOk l = b1) (h2 : pathOk f = b2) (h3 : pathOk t = b3) (h4 : (findIt l f).isSome = b4) (h5 : within t f = b5) (h6 : (findIt l t).isSome = b6) : mvOk l f t = (b1 && (b2 && (b3 && (b4 && (!b5 && !b6))))) := by
  unfold mvOk; rw [h1, h2, h3, h4, h5, h6]
set_option maxRecDepth 8000 in
set_option maxHeartbeats 2000000 in
theorem l23Ok_c {B : Nat} {v : Value} {l : List It} (f t : ByteArray) (w : World) (h : Its B w v l) (hf : f.size < lim) (ht : t.size < lim) :
    Calls Tryz.prog 47 #[v, .string f, .string t] w (Ret (.bool (mvOk l f t)) w) := by
  have H := Lib.hid h
  have C1 : ∀ W, Ext w W → Calls Tryz.prog 67 #[v] W (Ret (.bool (treeOk l)) W) := fun W e => specTreeValid_c W (H.out.ext e)
  have C2 : ∀ W, Calls Tryz.prog 90 #[.string f] W (Ret (.bool (pathOk f)) W) := fun W => specPathValid_c f W hf
  have C3 : ∀ W, Calls Tryz.prog 90 #[.string t] W (Ret (.bool (pathOk t)) W) := fun W => specPathValid_c t W ht
  have C4 : ∀ W, Ext w W → Calls Tryz.prog 91 #[v, .string f] W (Ret (.int .i64 (atPath l f)) W) := fun W e => l5At_c f W (H.out.ext e)
  have C5 : ∀ W, Calls Tryz.prog 55 #[.string t, .string f] W (Ret (.bool (within t f)) W) := fun W => l1Within_c t f W ht hf
  have C6 : ∀ W, Ext w W → Calls Tryz.prog 91 #[v, .string t] W (Ret (.int .i64 (atPath l t)) W) := fun W e => l5At_c t W (H.out.ext e)
  have hl := h.len
  unfold lim at hl
  clear h
  cases h1 : treeOk l with
  | false =>
    rw [h1] at C1
    have Hv : Hid (mvOk l f t = false) := Lib.hid (by rw [mvOk_if h1 rfl rfl rfl rfl rfl]; simp)
    clear h1
    go_enter Tryz.func47, Tryz.ntmps47
    go_wp2_with fail
    refine (C1 _ (Ext.refl w)).mono ?_; rintro e w1 ⟨rfl, he1⟩
    have E1 := (Ext.refl w).trans he1
    go_wp2
    go_ret
    exact ⟨ret_b (Hv.out).symm, E1⟩
  | true =>
  rw [h1] at C1
  cases h2 : pathOk f with
  | false =>
    rw [h2] at C2
    have Hv : Hid (mvOk l f t = false) := Lib.hid (by rw [mvOk_if h1 h2 rfl rfl rfl rfl]; simp)
    clear h2
    go_enter Tryz.func47, Tryz.ntmps47
    go_wp2_with fail
    refine (C1 _ (Ext.refl w)).mono ?_; rintro e w1 ⟨rfl, he1⟩
    have E1 := (Ext.refl w).trans he1
    go_wp2_with fail
    refine (C2 _).mono ?_; rintro e w2 ⟨rfl, he2⟩
    have E2 := E1.trans he2
    go_wp2
    go_ret
    exact ⟨ret_b (Hv.out).symm, E2⟩
  | true =>
  rw [h2] at C2
  cases h3 : pathOk t with
  | false =>
    rw [h3] at C3
    have Hv : Hid (mvOk l f t = false) := Lib.hid (by rw [mvOk_if h1 h2 h3 rfl rfl rfl]; simp)
    clear h3
    go_enter Tryz.func47, Tryz.ntmps47
    go_wp2_with fail
    refine (C1 _ (Ext.refl w)).mono ?_; rintro e w1 ⟨rfl, he1⟩
    have E1 := (Ext.refl w).trans he1
    go_wp2_with fail
    refine (C2 _).mono ?_; rintro e w2 ⟨rfl, he2⟩
    have E2 := E1.trans he2
    go_wp2_with fail
    refine (C3 _).mono ?_; rintro e w3 ⟨rfl, he3⟩
    have E3 := E2.trans he3
    go_wp2
    go_ret
    exact ⟨ret_b (Hv.out).symm, E3⟩
  | true =>
  rw [h3] at C3
  rcases find_cases l f with ⟨h4, a4⟩ | ⟨h4, i4, l4, a4⟩
  · rw [a4] at C4
    have Hv : Hid (mvOk l f t = false) := Lib.hid (by rw [mvOk_if h1 h2 h3 h4 rfl rfl]; simp)
    clear h4 a4
    go_enter Tryz.func47, Tryz.ntmps47
    go_wp2_with fail
    refine (C1 _ (Ext.refl w)).mono ?_; rintro e w1 ⟨rfl, he1⟩
    have E1 := (Ext.refl w).trans he1
    go_wp2_with fail
    refine (C2 _).mono ?_; rintro e w2 ⟨rfl, he2⟩
    have E2 := E1.trans he2
    go_wp2_with fail
    refine (C3 _).mono ?_; rintro e w3 ⟨rfl, he3⟩
    have E3 := E2.trans he3
    go_wp2_with fail
    refine (C4 _ E3).mono ?_; rintro e w4 ⟨rfl, he4⟩
    have E4 := E3.trans he4
    go_wp2
    go_ret
    exact ⟨ret_b (Hv.out).symm, E4⟩
  rw [a4] at C4
  cases h5 : within t f with
  | true =>
    rw [h5] at C5
    have Hv : Hid (mvOk l f t = false) := Lib.hid (by rw [mvOk_if h1 h2 h3 h4 h5 rfl]; simp)
    clear h5
    go_enter Tryz.func47, Tryz.ntmps47
    go_wp2_with fail
    refine (C1 _ (Ext.refl w)).mono ?_; rintro e w1 ⟨rfl, he1⟩
    have E1 := (Ext.refl w).trans he1
    go_wp2_with fail
    refine (C2 _).mono ?_; rintro e w2 ⟨rfl, he2⟩
    have E2 := E1.trans he2
    go_wp2_with fail
    refine (C3 _).mono ?_; rintro e w3 ⟨rfl, he3⟩
    have E3 := E2.trans he3
    go_wp2_with fail
    refine (C4 _ E3).mono ?_; rintro e w4 ⟨rfl, he4⟩
    have E4 := E3.trans he4
    go_wp2_with fail
    refine (C5 _).mono ?_; rintro e w5 ⟨rfl, he5⟩
    have E5 := E4.trans he5
    go_wp2
    go_ret
    exact ⟨ret_b (Hv.out).symm, E5⟩
  | false =>
  rw [h5] at C5
  rcases find_cases l t with ⟨h6, a6⟩ | ⟨h6, i6, l6, a6⟩
  · rw [a6] at C6
    have Hv : Hid (mvOk l f t = true) := Lib.hid (by rw [mvOk_if h1 h2 h3 h4 h5 h6]; rfl)
    clear h6 a6
    go_enter Tryz.func47, Tryz.ntmps47
    go_wp2_with fail
    refine (C1 _ (Ext.refl w)).mono ?_; rintro e w1 ⟨rfl, he1⟩
    have E1 := (Ext.refl w).trans he1
    go_wp2_with fail
    refine (C2 _).mono ?_; rintro e w2 ⟨rfl, he2⟩
    have E2 := E1.trans he2
    go_wp2_with fail
    refine (C3 _).mono ?_; rintro e w3 ⟨rfl, he3⟩
    have E3 := E2.trans he3
    go_wp2_with fail
    refine (C4 _ E3).mono ?_; rintro e w4 ⟨rfl, he4⟩
    have E4 := E3.trans he4
    go_wp2_with fail
    refine (C5 _).mono ?_; rintro e w5 ⟨rfl, he5⟩
    have E5 := E4.trans he5
    go_wp2_with fail
    refine (C6 _ E5).mono ?_; rintro e w6 ⟨rfl, he6⟩
    have E6 := E5.trans he6
    go_wp2
    go_ret
    exact ⟨ret_b (Hv.out).symm, E6⟩
  · rw [a6] at C6
    have Hv : Hid (mvOk l f t = false) := Lib.hid (by rw [mvOk_if h1 h2 h3 h4 h5 h6]; rfl)
    clear h6 a6
    go_enter Tryz.func47, Tryz.ntmps47
    go_wp2_with fail
    refine (C1 _ (Ext.refl w)).mono ?_; rintro e w1 ⟨rfl, he1⟩
    have E1 := (Ext.refl w).trans he1
    go_wp2_with fail
    refine (C2 _).mono ?_; rintro e w2 ⟨rfl, he2⟩
    have E2 := E1.trans he2
    go_wp2_with fail
    refine (C3 _).mono ?_; rintro e w3 ⟨rfl, he3⟩
    have E3 := E2.trans he3
    go_wp2_with fail
    refine (C4 _ E3).mono ?_; rintro e w4 ⟨rfl, he4⟩
    have E4 := E3.trans he4
    go_wp2_with fail
    refine (C5 _).mono ?_; rintro e w5 ⟨rfl, he5⟩
    have E5 := E4.trans he5
    go_wp2_with fail
    refine (C6 _ E5).mono ?_; rintro e w6 ⟨rfl, he6⟩
    have E6 := E5.trans he6
    go_wp2
    go_ret
    exact ⟨ret_b (Hv.out).symm, E6⟩
end Go.Sf
