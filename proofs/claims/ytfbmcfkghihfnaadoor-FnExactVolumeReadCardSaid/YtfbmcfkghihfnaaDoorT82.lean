/- The reference's volumes. -/
import Derived.Test.YtfbmcfkghihfnaaDoorT81
namespace Go.Sf
open Go Go.RowKit Go.Proofs
theorem fit_bad {l : List Hd} {ids : List Int} {k : Nat} {i : Int} (hx : ids[k]? = some i) (h : ∀ h, findH l i = some h → k + 1 < ids.length ∧ h.bytes.length < 8) : idsFit l ids = false := idsFit_false.2 fun hf => by
  obtain ⟨y, h1, h2⟩ := hf.2 k i hx
  obtain ⟨h3, h4⟩ := h y h1
  have := h2 h3
  omega
set_option maxRecDepth 4000 in
set_option maxHeartbeats 2000000 in
theorem l4Ids_c {B B' : Nat} {v vi : Value} {l : List Hd} {ids : List Int} (w : World) (h : Hds B w v l) (hi : Ints B' w vi ids) : Calls Tryd.prog 51 #[v, vi] w (Ret (.bool (idsFit l ids)) w) := by
  have H := Lib.hid h
  obtain ⟨A, c, rfl, hA⟩ := h
  obtain ⟨A2, c2, rfl, hA2⟩ := hi
  have hl := hA.2.2.1
  have hl2 := hA2.2.2.1
  unfold lim at hl hl2
  generalize hm : l.length = m at *
  generalize hn : ids.length = n at *
  have Hn := Lib.hid hn; clear hn
  have Hm := Lib.hid hm; clear hm
  have HA := Lib.hid hA; clear hA
  have HA2 := Lib.hid hA2; clear hA2
  go_enter Tryd.func51, Tryd.ntmps51
  go_wp2
  go_loopw [5] (fun i wr => ∃ k : Nat, k ≤ n ∧ i = .int .i64 k ∧ Ext w wr ∧ Hid (∀ j i, j < k → ids[j]? = some i → ∃ h, findH l i = some h ∧ (j + 1 < n → 8 ≤ h.bytes.length))) (fun i _ => n - (intOf i).toNat)
  case atStart => exact ⟨0, by omega, rfl, Ext.refl _, Lib.hid fun j i hj => absurd hj (by omega)⟩
  case round =>
    obtain ⟨k, hk, rfl, he, hall⟩ := hrel
    by_cases hlt : k < n
    · obtain ⟨x, hx⟩ := get_of_lt (l := ids) (k := k) (by rw [Hn.out]; exact hlt)
      obtain ⟨b, o, rfl, -, -, -, hc⟩ := Ints.at_ HA2.out hx
      have a0 := hc wr he
      have Hx := Lib.hid hx
      have Ca := l3At_c x wr (H.out.ext he)
      rw [hAt] at Ca
      clear hc hx
      rcases atG_find (idIs x) l 0 with ⟨f1, f2⟩ | ⟨i, y, f1, f2, f3, f4, -⟩
      · rw [f2] at Ca
        have Hr := Lib.hid (fit_bad (l := l) Hx.out fun h hh => by unfold findH at hh; rw [f1] at hh; cases hh)
        clear f1 f2 hall
        go_wp2_with (go_at_call 59; refine Ca.mono ?_; rintro e w2 ⟨rfl, he2⟩)
        go_ret
        exact ⟨ret_b Hr.out.symm, he.trans he2⟩
      · rw [f4] at Ca
        simp only [Nat.zero_add] at Ca
        have hi0 : ¬ ((i : Int) < 0) := by omega
        have him : i < m := by rw [← Hm.out]; exact lt_of_get f1
        obtain ⟨b', o', u, rfl, -, -, -, hu, -, -, hc1, -⟩ := Hds.at_ HA.out f1
        obtain ⟨Ay, cy, rfl, -⟩ := hu
        have c1 := fun W (e : Ext wr W) => hc1 W (he.trans e)
        have hw1 : IntKind.i64.wrap ((k : Int) + 1) = (k : Int) + 1 := IntWalk.i64_in _ (by omega)
        have Hf : Hid (findH l x = some y) := Lib.hid f3
        clear f1 f2 f3 f4 hc1
        obtain ⟨yk, yb, yu⟩ := y
        simp only at c1
        by_cases hk1 : k + 1 < n
        · have hk1' : (k : Int) + 1 < (n : Int) := by omega
          by_cases hb8 : yb.length < 8
          · have hb8' : ((yb.length : Nat) : Int) < 8 := by omega
            have Hr := Lib.hid (fit_bad (l := l) Hx.out fun h hh => by
              rw [Hf.out] at hh
              cases hh
              exact ⟨by rw [Hn.out]; exact hk1, hb8⟩)
            clear hall
            go_wp2_with (go_at_call 59; refine Ca.mono ?_; rintro e w2 ⟨rfl, he2⟩; have q1 := c1 w2 he2)
            go_ret
            exact ⟨ret_b Hr.out.symm, he.trans he2⟩
          · have hb8' : ¬ ((yb.length : Nat) : Int) < 8 := by omega
            have Hr : Hid (∀ j i, j < k + 1 → ids[j]? = some i → ∃ h, findH l i = some h ∧ (j + 1 < n → 8 ≤ h.bytes.length)) := Lib.hid fun j i hj hi => by
              rcases Nat.lt_or_ge j k with h | h
              · exact hall.out j i h hi
              · obtain rfl : j = k := by omega
                rw [Hx.out] at hi
                cases hi
                exact ⟨_, Hf.out, fun _ => by simp only; omega⟩
            clear hall
            go_wp2_with (go_at_call 59; refine Ca.mono ?_; rintro e w2 ⟨rfl, he2⟩; have q1 := c1 w2 he2)
            go_roundw
            case rel => exact ⟨k + 1, by omega, by go_num, he.trans he2, Hr⟩
            case measure => simp [intOf]; omega
        · have hk1' : ¬ (k : Int) + 1 < (n : Int) := by omega
          have Hr : Hid (∀ j i, j < k + 1 → ids[j]? = some i → ∃ h, findH l i = some h ∧ (j + 1 < n → 8 ≤ h.bytes.length)) := Lib.hid fun j i hj hi => by
            rcases Nat.lt_or_ge j k with h | h
            · exact hall.out j i h hi
            · obtain rfl : j = k := by omega
              rw [Hx.out] at hi
              cases hi
              exact ⟨_, Hf.out, fun h => absurd h hk1⟩
          clear hall
          go_wp2_with (go_at_call 59; refine Ca.mono ?_; rintro e w2 ⟨rfl, he2⟩; have q1 := c1 w2 he2)
          go_roundw
          case rel => exact ⟨k + 1, by omega, by go_num, he.trans he2, Hr⟩
          case measure => simp [intOf]; omega
    · have hks : k = n := by omega
      subst hks
      have Hr : Hid (idsFit l ids = decide (k ≤ 4)) := Lib.hid (by
        rw [Bool.eq_iff_iff, idsFit_iff]
        simp only [decide_eq_true_eq]
        refine ⟨fun h => by have := h.1; have := Hn.out; omega, fun h => ⟨by have := Hn.out; omega, fun j i hi => ?_⟩⟩
        obtain ⟨y, h1, h2⟩ := hall.out j i (by have := lt_of_get hi; have := Hn.out; omega) hi
        exact ⟨y, h1, fun hj => h2 (by have := Hn.out; omega)⟩)
      clear hall
      by_cases h4 : k ≤ 4
      · have h4' : ((k : Int) ≤ 4) := by omega
        go_wp2
        go_ret
        exact ⟨ret_b (by rw [Hr.out]; simp [h4]), he⟩
      · have h4' : ¬ ((k : Int) ≤ 4) := by omega
        go_wp2
        go_ret
        exact ⟨ret_b (by rw [Hr.out]; simp [h4]), he⟩
set_option maxRecDepth 4000 in
set_option maxHeartbeats 1000000 in
theorem l11Files_c {B B' : Nat} {v vt : Value} {l : List Hd} {t : List It} (w : World) (h : Hds B w v l) (ht : Its B' w vt t) : Calls Tryd.prog 26 #[v, vt] w (Ret (.bool (filesFit l t)) w) := by
  have H := Lib.hid h
  obtain ⟨A, c, rfl, -⟩ := h
  obtain ⟨A2, c2, rfl, hA2⟩ := ht
  have hl2 := hA2.2.2.1
  unfold lim at hl2
  generalize hn : t.length = n at *
  have Hn := Lib.hid hn; clear hn
  have HA2 := Lib.hid hA2; clear hA2
  go_enter Tryd.func26, Tryd.ntmps26
  go_wp2
  go_loopw [5] (fun i wr => ∃ k : Nat, k ≤ n ∧ i = .int .i64 k ∧ Ext w wr ∧ Hid ((t.take k).all (fun x => idsFit l x.ids) = true)) (fun i _ => n - (intOf i).toNat)
  case atStart => exact ⟨0, by omega, rfl, Ext.refl _, Lib.hid rfl⟩
  case round =>
    obtain ⟨k, hk, rfl, he, hall⟩ := hrel
    by_cases hlt : k < n
    · obtain ⟨x, hx⟩ := get_of_lt (l := t) (k := k) (by rw [Hn.out]; exact hlt)
      obtain ⟨b, o, u, rfl, -, -, -, hu, -, -, hc2⟩ := Its.at_ HA2.out hx
      have q2 := hc2 wr he
      have Hx := Lib.hid hx
      have Cl := l4Ids_c wr (H.out.ext he) (hu.ext he)
      obtain ⟨Au, cu, rfl, -⟩ := hu
      clear hc2 hx
      cases hf : idsFit l x.ids with
      | false =>
        rw [hf] at Cl
        have Hr : Hid (filesFit l t = false) := Lib.hid (all_bad Hx.out hf)
        clear hf hall
        go_wp2_with (go_at_call 51; refine Cl.mono ?_; rintro e w2 ⟨rfl, he2⟩)
        go_ret
        exact ⟨ret_b Hr.out.symm, he.trans he2⟩
      | true =>
        rw [hf] at Cl
        have Hr := Lib.hid (all_take hall.out Hx.out hf)
        clear hf hall
        go_wp2_with (go_at_call 51; refine Cl.mono ?_; rintro e w2 ⟨rfl, he2⟩)
        go_roundw
        case rel => exact ⟨k + 1, by omega, by go_num, he.trans he2, Hr⟩
        case measure => simp [intOf]; omega
    · have hks : k = n := by omega
      subst hks
      have Hr : Hid (filesFit l t = true) := Lib.hid (all_end hall.out Hn.out)
      clear hall
      go_wp2
      go_ret
      exact ⟨ret_b Hr.out.symm, he⟩
set_option maxRecDepth 4000 in
set_option maxHeartbeats 1000000 in
theorem l11Count_c {B : Nat} {vt : Value} {t : List It} (p : Int) (w : World) (ht : Its B w vt t) : Calls Tryd.prog 27 #[vt, .int .i64 p] w (Ret (.int .i64 (cntT p t : Nat)) w) := by
  obtain ⟨A2, c2, rfl, hA2⟩ := ht
  have hl2 := hA2.2.2.1
  unfold lim at hl2
  generalize hn : t.length = n at *
  have Hn := Lib.hid hn; clear hn
  have HA2 := Lib.hid hA2; clear hA2
  go_enter Tryd.func27, Tryd.ntmps27
  go_wp2
  go_loopw [5, 6] (fun c i wr => ∃ k : Nat, k ≤ n ∧ i = .int .i64 k ∧ c = .int .i64 (cntT p (t.take k) : Nat) ∧ Ext w wr ∧ cntT p (t.take k) ≤ k * 4194304) (fun _ i _ => n - (intOf i).toNat)
  case atStart => exact ⟨0, by omega, rfl, rfl, Ext.refl _, by simp [cntT]⟩
  case round =>
    obtain ⟨k, hk, rfl, rfl, he, hcb⟩ := hrel
    by_cases hlt : k < n
    · obtain ⟨x, hx⟩ := get_of_lt (l := t) (k := k) (by rw [Hn.out]; exact hlt)
      obtain ⟨b, o, u, rfl, -, -, -, hu, -, -, hc2⟩ := Its.at_ HA2.out hx
      have a2 := fun W (e : Ext wr W) => hc2 W (he.trans e)
      obtain ⟨Au, cu, rfl, hU⟩ := hu
      have hul := hU.2.2.1
      unfold lim at hul
      have Hc := Lib.hid (cntT_take (i := p) hx)
      generalize hq : x.ids.length = q at *
      have Hq := Lib.hid hq; clear hq
      have HU := Lib.hid hU
      generalize hC : cntT p (t.take k) = C at *
      have hC0 : C ≤ 4194304 * 4194304 := Nat.le_trans hcb (Nat.mul_le_mul_right _ (by omega))
      clear hc2 hU hC hx
      go_wp2
      go_loopw [5, 7] (fun c i wr' => ∃ m : Nat, m ≤ q ∧ i = .int .i64 m ∧ c = .int .i64 ((C + cntI p (x.ids.take m) : Nat) : Int) ∧ Ext wr wr' ∧ cntI p (x.ids.take m) ≤ m) (fun _ i _ => q - (intOf i).toNat)
      case atStart => exact ⟨0, by omega, rfl, by simp [cntI], Ext.refl _, by simp [cntI]⟩
      case round =>
        obtain ⟨m, hm, rfl, rfl, he2, hmb⟩ := hrel
        have q2 := a2 wr he2
        by_cases hlt2 : m < q
        · obtain ⟨y, hy⟩ := get_of_lt (l := x.ids) (k := m) (by rw [Hq.out]; exact hlt2)
          obtain ⟨b', o', rfl, -, -, -, hy0⟩ := Ints.at_ HU.out hy
          have r0 := hy0 wr (he.trans he2)
          have hct := cntI_take (i := p) hy
          by_cases hyp : y = p
          · have hb : (y == p) = true := by simpa using hyp
            rw [if_pos hyp] at hct
            have Hct := Lib.hid hct
            generalize cntI p (x.ids.take m) = D at *
            clear hy hy0 hct hyp
            go_wp2
            go_roundw
            case rel => exact ⟨m + 1, by omega, by go_num, by rw [Hct.out]; go_num, he2, by rw [Hct.out]; omega⟩
            case measure => simp [intOf]; omega
          · have hb : (y == p) = false := by simpa using hyp
            rw [if_neg hyp] at hct
            simp only [Nat.add_zero] at hct
            have Hct := Lib.hid hct
            generalize cntI p (x.ids.take m) = D at *
            clear hy hy0 hct hyp
            go_wp2
            go_roundw
            case rel => exact ⟨m + 1, by omega, by go_num, by rw [Hct.out], he2, by rw [Hct.out]; omega⟩
            case measure => simp [intOf]; omega
        · have hmq : m = q := by omega
          subst hmq
          have Hs : Hid (cntT p (t.take (k + 1)) = C + cntI p (x.ids.take m)) := Lib.hid (by rw [Hc.out, List.take_of_length_le (by rw [Hq.out]; exact Nat.le_refl _)])
          generalize cntI p (x.ids.take m) = D at *
          go_wp2
          go_roundw
          case rel => exact ⟨k + 1, by omega, by go_num, by rw [Hs.out], he.trans he2, by rw [Hs.out]; omega⟩
          case measure => simp [intOf]; omega
    · have hks : k = n := by omega
      subst hks
      have Hr : Hid (cntT p (t.take k) = cntT p t) := Lib.hid (by rw [List.take_of_length_le (by rw [Hn.out]; exact Nat.le_refl _)])
      generalize cntT p (t.take k) = C at *
      go_wp2
      go_ret
      exact ⟨by rw [← Hr.out]; rfl, he⟩
theorem volOk_of {s : List Hd} {t : List It} {a b c d : Bool} (h1 : storeOk s = a) (h2 : treeOk t = b) (h3 : filesFit s t = c) (h4 : usesFit s t = d) : volOk s t = (a && (b && (c && d))) := by unfold volOk; rw [h1, h2, h3, h4]
set_option maxRecDepth 4000 in
set_option maxHeartbeats 2000000 in
theorem specVolumeValid_c {B B' : Nat} {vs vt : Value} {s : List Hd} {t : List It} (w : World) (hs : Hds B w vs s) (ht : Its B' w vt t) : Calls Tryd.prog 7 #[.agg #[vs, vt]] w (Ret (.bool (volOk s t)) w) := by
  have HS := Lib.hid hs; have HT := Lib.hid ht
  obtain ⟨A, c, rfl, hA⟩ := hs
  obtain ⟨A2, c2, rfl, -⟩ := ht
  have hl := hA.2.2.1
  unfold lim at hl
  have e0 : Ext w (w.alloc (.cells #[.slice A s.length c, .slice A2 t.length c2] 31)) := (Ext.refl w).alloc _
  have hbk := Blk.new w 31 #[.slice A s.length c, .slice A2 t.length c2]
  have d0 := fun W (e : Ext _ W) => hbk.at_ (i := 0) (u := .slice A s.length c) rfl W e
  have d1 := fun W (e : Ext _ W) => hbk.at_ (i := 1) (u := .slice A2 t.length c2) rfl W e
  have C1 := fun W (e : Ext (w.alloc (.cells #[.slice A s.length c, .slice A2 t.length c2] 31)) W) => specStoreValid_c W (HS.out.ext (e0.trans e))
  have C2 := fun W (e : Ext (w.alloc (.cells #[.slice A s.length c, .slice A2 t.length c2] 31)) W) => specTreeValid_c W (HT.out.ext (e0.trans e))
  have C3 := fun W (e : Ext (w.alloc (.cells #[.slice A s.length c, .slice A2 t.length c2] 31)) W) => l11Files_c W (HS.out.ext (e0.trans e)) (HT.out.ext (e0.trans e))
  have HA := Lib.hid hA
  clear hbk hA
  cases h1 : storeOk s with
  | false =>
    rw [h1] at C1
    have Hr : Hid (volOk s t = false) := Lib.hid (by unfold volOk; rw [h1]; rfl)
    clear h1 C2 C3
    go_enter Tryd.func7, Tryd.ntmps7
    go_wp2_with (go_at_call 24; refine (C1 _ (Ext.refl _)).mono ?_; rintro e w2 ⟨rfl, he2⟩)
    go_ret
    exact ⟨ret_b Hr.out.symm, e0.trans he2⟩
  | true =>
  rw [h1] at C1
  cases h2 : treeOk t with
  | false =>
    rw [h2] at C2
    have Hr : Hid (volOk s t = false) := Lib.hid (by unfold volOk; rw [h1, h2]; rfl)
    clear h1 h2 C3
    go_enter Tryd.func7, Tryd.ntmps7
    go_wp2_with (first | (go_at_call 24; refine (C1 _ (Ext.refl _)).mono ?_; rintro e w2 ⟨rfl, he2⟩; have q1 := d1 w2 he2) | (go_at_call 25; refine (C2 _ he2).mono ?_; rintro e w3 ⟨rfl, he3⟩))
    go_ret
    exact ⟨ret_b Hr.out.symm, (e0.trans he2).trans he3⟩
  | true =>
  rw [h2] at C2
  cases h3 : filesFit s t with
  | false =>
    rw [h3] at C3
    have Hr : Hid (volOk s t = false) := Lib.hid (by unfold volOk; rw [h1, h2, h3]; rfl)
    clear h1 h2 h3
    go_enter Tryd.func7, Tryd.ntmps7
    go_wp2_with (first | (go_at_call 24; refine (C1 _ (Ext.refl _)).mono ?_; rintro e w2 ⟨rfl, he2⟩; have q1 := d1 w2 he2) | (go_at_call 25; refine (C2 _ he2).mono ?_; rintro e w3 ⟨rfl, he3⟩; have he4 := he2.trans he3; have r0 := d0 w3 he4; have r1 := d1 w3 he4) | (go_at_call 26; refine (C3 _ he4).mono ?_; rintro e w5 ⟨rfl, he5⟩))
    go_ret
    exact ⟨ret_b Hr.out.symm, (e0.trans he4).trans he5⟩
  | true =>
  rw [h3] at C3
  have Hv : Hid (volOk s t = usesFit s t) := Lib.hid (by unfold volOk; rw [h1, h2, h3]; rfl)
  clear h1 h2 h3
  generalize hn : s.length = n at *
  have Hn := Lib.hid hn; clear hn
  go_enter Tryd.func7, Tryd.ntmps7
  go_wp2_with (first | (go_at_call 24; refine (C1 _ (Ext.refl _)).mono ?_; rintro e w2 ⟨rfl, he2⟩; have q1 := d1 w2 he2) | (go_at_call 25; refine (C2 _ he2).mono ?_; rintro e w3 ⟨rfl, he3⟩; have he4 := he2.trans he3; have r0 := d0 w3 he4; have r1 := d1 w3 he4) | (go_at_call 26; refine (C3 _ he4).mono ?_; rintro e w5 ⟨rfl, he5⟩))
  have he6 := he4.trans he5
  clear C1 C2 C3 q1 r0 r1 he2 he3 he4 he5
  go_loopw [3] (fun i wr => ∃ k : Nat, k ≤ n ∧ i = .int .i64 k ∧ Ext (w.alloc (.cells #[.slice A n c, .slice A2 t.length c2] 31)) wr ∧ Hid ((s.take k).all (fun h => eqb (cntT h.id t : Int) h.uses) = true)) (fun i _ => n - (intOf i).toNat)
  case atStart => exact ⟨0, by omega, rfl, he6, Lib.hid rfl⟩
  case round =>
    obtain ⟨k, hk, rfl, he, hall⟩ := hrel
    have q0 := d0 wr he
    by_cases hlt : k < n
    · obtain ⟨x, hx⟩ := get_of_lt (l := s) (k := k) (by rw [Hn.out]; exact hlt)
      obtain ⟨b, o, u, rfl, -, -, -, -, -, hc0, -, hc2⟩ := Hds.at_ HA.out hx
      have a0 := fun W (e : Ext wr W) => hc0 W ((e0.trans he).trans e)
      have a2 := fun W (e : Ext wr W) => hc2 W ((e0.trans he).trans e)
      have D0 := fun W (e : Ext wr W) => d0 W (he.trans e)
      have D1 := fun W (e : Ext wr W) => d1 W (he.trans e)
      have Cc := fun W (e : Ext wr W) => l11Count_c x.id W (HT.out.ext ((e0.trans he).trans e))
      have Hx := Lib.hid hx
      obtain ⟨xk, xb, xu⟩ := x
      simp only at a0 a2 Cc
      generalize hC : cntT xk t = C at *
      have HC := Lib.hid hC
      clear hc0 hc2 hx hC
      by_cases hcu : (C : Int) = xu
      · have hb : ((C : Int) != xu) = false := by simp [hcu]
        have Hr := Lib.hid (all_take hall.out Hx.out (by simp only [HC.out]; exact eqb_true.2 hcu))
        clear hall
        go_wp2
        refine wp_region_ext (by kernel_rfl) (by kernel_rfl) ?_
        repeat (first | (apply q_plain rfl; (· intro W eW; go_simp; (first | done | rfl | (rw [if_pos] <;> first | omega | rfl))); (try simp only [Act.put, List.setIfInBounds_toArray, List.set_cons_zero, List.set_cons_succ])) | (refine qg_skip (by rfl) ?_; (try simp only [Act.put, List.setIfInBounds_toArray, List.set_cons_zero, List.set_cons_succ])) | (apply qg_plain (by rfl); (· intro W eW; go_simp; (first | done | rfl | (rw [if_pos] <;> first | omega | rfl))); (try simp only [Act.put, List.setIfInBounds_toArray, List.set_cons_zero, List.set_cons_succ])))
        ((first | apply q_call rfl | apply qg_call (by rfl)); (· intro W eW; go_simp; (first | done | (constructor <;> rfl))); (· intro W eW; exact Cc W eW); (try simp only [Act.put, List.setIfInBounds_toArray, List.set_cons_zero, List.set_cons_succ]))
        repeat (first | (apply q_plain rfl; (· intro W eW; go_simp; (first | done | rfl | (rw [if_pos] <;> first | omega | rfl))); (try simp only [Act.put, List.setIfInBounds_toArray, List.set_cons_zero, List.set_cons_succ])) | (refine qg_skip (by rfl) ?_; (try simp only [Act.put, List.setIfInBounds_toArray, List.set_cons_zero, List.set_cons_succ])) | (apply qg_plain (by rfl); (· intro W eW; go_simp; (first | done | rfl | (rw [if_pos] <;> first | omega | rfl))); (try simp only [Act.put, List.setIfInBounds_toArray, List.set_cons_zero, List.set_cons_succ])))
        refine q_nil ?_
        intro w7 e7
        go_wp2
        go_roundw
        case rel => exact ⟨k + 1, by omega, by go_num, he.trans e7, Hr⟩
        case measure => simp [intOf]; omega
      · have hb : ((C : Int) != xu) = true := by simp [hcu]
        have Hr : Hid (usesFit s t = false) := Lib.hid (all_bad Hx.out (by simp only [HC.out]; exact eqb_false.2 hcu))
        clear hall
        go_wp2
        refine wp_region_ext (by kernel_rfl) (by kernel_rfl) ?_
        repeat (first | (apply q_plain rfl; (· intro W eW; go_simp; (first | done | rfl | (rw [if_pos] <;> first | omega | rfl))); (try simp only [Act.put, List.setIfInBounds_toArray, List.set_cons_zero, List.set_cons_succ])) | (refine qg_skip (by rfl) ?_; (try simp only [Act.put, List.setIfInBounds_toArray, List.set_cons_zero, List.set_cons_succ])) | (apply qg_plain (by rfl); (· intro W eW; go_simp; (first | done | rfl | (rw [if_pos] <;> first | omega | rfl))); (try simp only [Act.put, List.setIfInBounds_toArray, List.set_cons_zero, List.set_cons_succ])))
        ((first | apply q_call rfl | apply qg_call (by rfl)); (· intro W eW; go_simp; (first | done | (constructor <;> rfl))); (· intro W eW; exact Cc W eW); (try simp only [Act.put, List.setIfInBounds_toArray, List.set_cons_zero, List.set_cons_succ]))
        repeat (first | (apply q_plain rfl; (· intro W eW; go_simp; (first | done | rfl | (rw [if_pos] <;> first | omega | rfl))); (try simp only [Act.put, List.setIfInBounds_toArray, List.set_cons_zero, List.set_cons_succ])) | (refine qg_skip (by rfl) ?_; (try simp only [Act.put, List.setIfInBounds_toArray, List.set_cons_zero, List.set_cons_succ])) | (apply qg_plain (by rfl); (· intro W eW; go_simp; (first | done | rfl | (rw [if_pos] <;> first | omega | rfl))); (try simp only [Act.put, List.setIfInBounds_toArray, List.set_cons_zero, List.set_cons_succ])))
        refine q_nil ?_
        intro w7 e7
        go_wp2
        go_ret
        exact ⟨ret_b (by rw [Hv.out, Hr.out]), e0.trans (he.trans e7)⟩
    · have hks : k = n := by omega
      subst hks
      have Hr : Hid (usesFit s t = true) := Lib.hid (all_end hall.out Hn.out)
      clear hall
      go_wp2
      go_ret
      exact ⟨ret_b (by rw [Hv.out, Hr.out]), e0.trans he⟩
end Go.Sf
