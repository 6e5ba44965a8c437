/- The reference's functions on items and trees that answer a number or a bool. -/
import Derived.Test.YtpldhlpegpgmcaaDoorGC
import Derived.Test.YtpldhlpegpgmcaaDoorGB
import Derived.Test.YtpldhlpegpgmcaaDoorGA
import Derived.StillTailTactics
/-! The reference's functions on items and trees that answer a number or a bool. -/
namespace Go.Sf
open Go Go.RowKit Go.Proofs
theorem not_true_of {b : Bool} (h : (!b) = true) : b = false := by simpa using h
theorem not_false_of {b : Bool} (h : (!b) = false) : b = true := by simpa using h
set_option maxHeartbeats 1000000 in
theorem specPathValid_c (s : ByteArray) (w : World) (hs : s.size < lim) : Calls Tryd.prog 39 #[.string s] w (Ret (.bool (pathOk s)) w) := by
  go_enter Tryd.func39, Tryd.ntmps39
  go_wp2_with (go_at_call 53; refine (l1Cut_c _ _ hs).mono ?_; rintro e w1 ⟨v, rfl, ⟨ps, hps, A, c, rfl, hA⟩, he1⟩)
  have hl := hA.2.2.1
  unfold lim at hl
  generalize hn : ps.length = n at *
  have Hn := Lib.hid hn; clear hn
  have HA := Lib.hid hA; clear hA
  have Hps := Lib.hid hps; clear hps
  go_loopw [4] (fun i wr => ∃ k : Nat, k ≤ n ∧ i = .int .i64 k ∧ Ext w1 wr ∧ Hid (∀ j p, j < k → ps[j]? = some p → wordOk (bl p) = true)) (fun i _ => n - (intOf i).toNat)
  case atStart => exact ⟨0, by omega, rfl, Ext.refl _, Lib.hid (fun j p h => absurd h (by omega))⟩
  case round =>
    obtain ⟨k, hk, rfl, he, hall⟩ := hrel
    by_cases hlt : k < n
    · obtain ⟨x, hx⟩ := get_of_lt (l := ps) (k := k) (by rw [Hn.out]; exact hlt)
      obtain ⟨b, o, rfl, -, -, hxs, hc⟩ := Strs.at_ HA.out hx
      have ha := fun W (h : Ext wr W) => hc W (he.trans h)
      have Hx := Lib.hid hx
      clear hc hx
      go_wp2_with (go_at_call 54; refine (l1Word_c _ _ hxs).mono ?_; rintro e w2 ⟨rfl, he2⟩)
      · have hw : wordOk (bl x) = false := not_true_of (by assumption)
        go_ret
        refine ⟨ret_b ?_, he1.trans (he.trans he2)⟩
        have : (cut (bl s)).all wordOk = false := by
          rw [← Hps.out, List.all_eq_false]
          exact ⟨bl x, List.mem_map.2 ⟨x, List.mem_of_getElem? Hx.out, rfl⟩, by simp [hw]⟩
        simp [pathOk, pathOkL, this]
      · have hw : wordOk (bl x) = true := not_false_of (by assumption)
        have Hw := Lib.hid hw
        go_roundw
        case rel =>
          refine ⟨k + 1, by omega, by go_num, he.trans he2, Lib.hid fun j p hj hp => ?_⟩
          rcases Nat.lt_or_ge j k with h | h
          · exact hall.out j p h hp
          · have : j = k := by omega
            subst this
            rw [Hx.out] at hp
            rw [← Option.some.inj hp]; exact Hw.out
        case measure => simp [intOf]; omega
    · have hks : k = n := by omega
      subst hks
      go_wp2
      go_ret
      refine ⟨ret_b ?_, he1.trans he⟩
      have h1 : (cut (bl s)).all wordOk = true := by
        rw [← Hps.out, List.all_eq_true]
        intro q hq
        obtain ⟨p, hp, rfl⟩ := List.mem_map.1 hq
        obtain ⟨j, hj⟩ := List.mem_iff_getElem?.1 hp
        have : j < ps.length := by
          rcases Nat.lt_or_ge j ps.length with h | h
          · exact h
          · rw [List.getElem?_eq_none h] at hj; cases hj
        exact hall.out j p (by rw [← Hn.out]; exact this) hj
      have h2 : (cut (bl s)).length = k := by rw [← Hps.out, List.length_map, Hn.out]
      rw [Bool.eq_iff_iff]
      simp [pathOk, pathOkL, h1, h2]
      omega
set_option maxHeartbeats 1000000 in
theorem l5At_c {B : Nat} {v : Value} {l : List It} (p : ByteArray) (w : World) (h : Its B w v l) : Calls Tryd.prog 41 #[v, .string p] w (Ret (.int .i64 (atPath l p)) w) := by
  obtain ⟨A, c, rfl, hA⟩ := h
  have hl := hA.2.2.1
  unfold lim at hl
  generalize hn : l.length = n at *
  have Hn := Lib.hid hn; clear hn
  have HA := Lib.hid hA; clear hA
  go_enter Tryd.func41, Tryd.ntmps41
  go_wp2
  go_loopw [5] (fun i wr => ∃ k : Nat, k ≤ n ∧ i = .int .i64 k ∧ Ext w wr ∧ Hid (atG (pathIs p) (l.drop k) k = atPath l p)) (fun i _ => n - (intOf i).toNat)
  case atStart => exact ⟨0, by omega, rfl, Ext.refl _, Lib.hid rfl⟩
  case round =>
    obtain ⟨k, hk, rfl, he, hrest⟩ := hrel
    by_cases hlt : k < n
    · obtain ⟨x, hx⟩ := get_of_lt (l := l) (k := k) (by rw [Hn.out]; exact hlt)
      obtain ⟨b, o, u2, rfl, -, -, -, -, hc0, -, -⟩ := Its.at_ HA.out hx
      have ha := hc0 wr he
      have Hd := Lib.hid (drop_cons hx)
      clear hc0 hx
      go_wp2
      · have hp : (x.path.toList == p.toList) = true := by assumption
        go_ret
        refine ⟨ret_i ?_, he⟩
        have := hrest.out
        rw [bytes_ne_iff, decide_eq_true_iff] at hp
        rw [Hd.out] at this
        simpa [atG, pathIs, eqb, hp] using this
      · have hp : (x.path.toList == p.toList) = false := by assumption
        rw [bytes_ne_iff, decide_eq_false_iff_not] at hp
        go_roundw
        case rel => exact ⟨k + 1, by omega, by go_num, he, Lib.hid (by have := hrest.out; rw [Hd.out] at this; simpa [atG, pathIs, eqb, hp] using this)⟩
        case measure => simp [intOf]; omega
    · have hks : k = n := by omega
      subst hks
      go_wp2
      go_ret
      refine ⟨ret_i ?_, he⟩
      have := hrest.out
      rw [List.drop_of_length_le (by rw [Hn.out]; omega)] at this
      exact this

theorem nil_iff {s : ByteArray} : s.toList = [] ↔ eqb s emptyB = true := by
  rw [eqb_iff, ← bytes_inj]
  have : emptyB.toList = [] := by rw [ByteArray.toList_eq]; rfl
  rw [this]
theorem not_nil_iff {s : ByteArray} : ¬ s.toList = [] ↔ eqb s emptyB = false := by
  rw [nil_iff]; simp
set_option maxHeartbeats 1000000 in
theorem l5Home_c {B : Nat} {v : Value} {l : List It} (p : ByteArray) (w : World) (h : Its B w v l) (hp : p.size < lim) : Calls Tryd.prog 26 #[v, .string p] w (Ret (.bool (homeOk l p)) w) := by
  have H := Lib.hid h
  rcases atG_find (pathIs (parentB p)) l 0 with ⟨h1, h2⟩ | ⟨i, x, h1, h2, h3, h4, -⟩
  · have hc : ∀ W, Ext w W → Calls Tryd.prog 41 #[v, .string (parentB p)] W (Ret (.int .i64 (-1)) W) := fun W e => by rw [← h2]; exact l5At_c _ _ (H.out.ext e)
    have Hd := Lib.hid h1
    clear h1 h2 h
    go_enter Tryd.func26, Tryd.ntmps26
    go_wp2_with (first | (go_at_call 40; refine (l5Parent_c _ _ hp).mono ?_; rintro e w1 ⟨rfl, he1⟩) | (go_at_call 41; refine (hc _ he1).mono ?_; rintro e w2 ⟨rfl, he2⟩))
    · have q : (parentB p).toList = [] := by assumption
      rw [nil_iff] at q
      go_ret
      exact ⟨ret_b (by simp [homeOk, q]), he1.trans he2⟩
    · have q0 : ¬ (parentB p).toList = [] := by assumption
      have q := not_nil_iff.1 q0
      go_ret
      exact ⟨ret_b (by simp [homeOk, q, q0, dirAt, findIt, Hd.out]), he1.trans he2⟩
  · have hc : ∀ W, Ext w W → Calls Tryd.prog 41 #[v, .string (parentB p)] W (Ret (.int .i64 (i : Int)) W) := fun W e => by
      have := l5At_c (parentB p) W (H.out.ext e)
      rw [atPath, h4] at this; simpa using this
    obtain ⟨A, c, rfl, hA⟩ := h
    have hl := hA.2.2.1
    unfold lim at hl
    obtain ⟨b, o, u2, rfl, -, -, -, -, -, hc1, -⟩ := Its.at_ hA h1
    have hil : i < l.length := by
      rcases Nat.lt_or_ge i l.length with h | h
      · exact h
      · rw [List.getElem?_eq_none h] at h1; cases h1
    generalize l.length = n at *
    have Hf := Lib.hid h3
    clear h1 h2 h3 h4 hA
    go_enter Tryd.func26, Tryd.ntmps26
    go_wp2_with (first | (go_at_call 40; refine (l5Parent_c _ _ hp).mono ?_; rintro e w1 ⟨rfl, he1⟩) | (go_at_call 41; refine (hc _ he1).mono ?_; rintro e w2 ⟨rfl, he2⟩; have hcc := hc1 w2 (he1.trans he2)))
    · have q : (parentB p).toList = [] := by assumption
      rw [nil_iff] at q
      go_ret
      exact ⟨ret_b (by simp [homeOk, q]), he1.trans he2⟩
    · have q0 : ¬ (parentB p).toList = [] := by assumption
      have q := not_nil_iff.1 q0
      go_ret
      exact ⟨ret_b (by simp [homeOk, q, q0, dirAt, findIt, Hf.out]), he1.trans he2⟩
/-- the first k ids of an item are in order -/
def IdsTo (xd : Bool) (xi : List Int) (k : Nat) : Prop := ∀ j q, j < k → xi[j]? = some q → (!xd && inB q 1 99) = true
theorem lt_of_get {α : Type} {l : List α} {k : Nat} {x : α} (h : l[k]? = some x) : k < l.length := by
  rcases Nat.lt_or_ge k l.length with hlt | hge
  · exact hlt
  · rw [List.getElem?_eq_none hge] at h; cases h
theorem IdsTo.succ {xd : Bool} {xi : List Int} {k : Nat} {q : Int} (h : IdsTo xd xi k) (hx : xi[k]? = some q) (hq : (!xd && inB q 1 99) = true) : IdsTo xd xi (k + 1) := fun j p hj hp => by
  rcases Nat.lt_or_ge j k with hlt | hge
  · exact h j p hlt hp
  · have : j = k := by omega
    subst this
    rw [hx] at hp
    rw [← Option.some.inj hp]; exact hq
theorem IdsTo.all {xd : Bool} {xi : List Int} {k : Nat} (h : IdsTo xd xi k) (hk : xi.length = k) : (xi.all fun i => !xd && inB i 1 99) = true := by
  refine List.all_eq_true.2 fun q hq => ?_
  obtain ⟨j, hj⟩ := List.mem_iff_getElem?.1 hq
  exact h j q (by rw [← hk]; exact lt_of_get hj) hj
theorem ids_bad {xd : Bool} {xi : List Int} {k : Nat} {q : Int} (hx : xi[k]? = some q) (hq : (!xd && inB q 1 99) = false) : (xi.all fun i => !xd && inB i 1 99) = false := by
  rw [List.all_eq_false]; exact ⟨q, List.mem_of_getElem? hx, by simp [hq]⟩
set_option maxHeartbeats 1000000 in
theorem l5Item_c {B : Nat} {v : Value} {x : It} (w : World) (h : ItV B w v x) : Calls Tryd.prog 25 #[v] w (Ret (.bool (itemOk x)) w) := by
  obtain ⟨xp, xd, xi⟩ := x
  obtain ⟨u2, rfl, hps, A, c, rfl, hA⟩ := h
  have hl := hA.2.2.1
  unfold lim at hl
  simp only at hl hA hps
  generalize hn : xi.length = n at *
  have Hn := Lib.hid hn; clear hn
  have HA := Lib.hid hA; clear hA
  rcases xd with _ | _
  · go_enter Tryd.func25, Tryd.ntmps25
    go_wp2
    generalize hw1 : w.alloc (.cells #[.string xp, .bool false, .slice A n c] 34) = w1
    have he1 : Ext w w1 := by rw [← hw1]; exact (Ext.refl w).alloc _
    have hb : Blk w1 w.heap.size 34 #[.string xp, .bool false, .slice A n c] := by rw [← hw1]; exact Blk.new _ _ _
    clear hw1
    go_loopw [3] (fun i wr => ∃ k : Nat, k ≤ n ∧ i = .int .i64 k ∧ Ext w1 wr ∧ IdsTo false xi k) (fun i _ => n - (intOf i).toNat)
    case atStart => exact ⟨0, by omega, rfl, Ext.refl _, fun j p h => absurd h (by omega)⟩
    case round =>
      obtain ⟨k, hk, rfl, he, hall⟩ := hrel
      have b0 := hb.at_ (i := 0) rfl wr he
      have b1 := hb.at_ (i := 1) rfl wr he
      have b2 := hb.at_ (i := 2) rfl wr he
      by_cases hlt : k < n
      · obtain ⟨q, hx⟩ := get_of_lt (l := xi) (k := k) (by rw [Hn.out]; exact hlt)
        obtain ⟨b, o, rfl, -, -, -, hc⟩ := Ints.at_ HA.out hx
        have ha := hc wr (he1.trans he)
        have Hx := Lib.hid hx
        have Hall := Lib.hid hall
        clear hc hx hall
        go_wp2_with (go_at_call 22; refine (l6In_c _ _ _ _).mono ?_; rintro e w2 ⟨rfl, he2⟩)
        · have hq : inB q 1 99 = false := not_true_of (by assumption)
          go_ret
          refine ⟨ret_b ?_, he1.trans (he.trans he2)⟩
          have hb : idsOk ⟨xp, false, xi⟩ = false := ids_bad (xd := false) Hx.out (by simp [hq])
          simp [itemOk, hb]
        · have hq : inB q 1 99 = true := not_false_of (by assumption)
          have Hq := Lib.hid (Hall.out.succ Hx.out (by simp [hq]))
          go_roundw
          case rel => exact ⟨k + 1, by omega, by go_num, he.trans he2, Hq.out⟩
          case measure => simp [intOf]; omega
      · have hks : k = n := by omega
        subst hks
        have hids := Lib.hid (hall.all Hn.out)
        clear hall
        go_wp2_with (go_at_call 39; refine (specPathValid_c _ _ hps).mono ?_; rintro e w2 ⟨rfl, he2⟩; have c2 := hb.at_ (i := 2) rfl w2 (he.trans he2))
        · have hp : pathOk xp = true := by assumption
          go_ret
          refine ⟨ret_b ?_, he1.trans (he.trans he2)⟩
          rw [Bool.eq_iff_iff]
          simp only [itemOk, idsOk, hids.out, hp, Hn.out]
          simp; omega
        · have hp : ¬ pathOk xp = true := by assumption
          go_ret
          refine ⟨ret_b ?_, he1.trans (he.trans he2)⟩
          simp [itemOk, hp]
  · go_enter Tryd.func25, Tryd.ntmps25
    go_wp2
    generalize hw1 : w.alloc (.cells #[.string xp, .bool true, .slice A n c] 34) = w1
    have he1 : Ext w w1 := by rw [← hw1]; exact (Ext.refl w).alloc _
    have hb : Blk w1 w.heap.size 34 #[.string xp, .bool true, .slice A n c] := by rw [← hw1]; exact Blk.new _ _ _
    clear hw1
    go_loopw [3] (fun i wr => ∃ k : Nat, k ≤ n ∧ i = .int .i64 k ∧ Ext w1 wr ∧ IdsTo true xi k) (fun i _ => n - (intOf i).toNat)
    case atStart => exact ⟨0, by omega, rfl, Ext.refl _, fun j p h => absurd h (by omega)⟩
    case round =>
      obtain ⟨k, hk, rfl, he, hall⟩ := hrel
      have b0 := hb.at_ (i := 0) rfl wr he
      have b1 := hb.at_ (i := 1) rfl wr he
      have b2 := hb.at_ (i := 2) rfl wr he
      by_cases hlt : k < n
      · obtain ⟨q, hx⟩ := get_of_lt (l := xi) (k := k) (by rw [Hn.out]; exact hlt)
        have Hx := Lib.hid hx
        clear hx hall
        go_wp2
        go_ret
        refine ⟨ret_b ?_, he1.trans he⟩
        have hb : idsOk ⟨xp, true, xi⟩ = false := ids_bad (xd := true) Hx.out (by simp)
        simp [itemOk, hb]
      · have hks : k = n := by omega
        subst hks
        have hids := Lib.hid (hall.all Hn.out)
        clear hall
        go_wp2_with (go_at_call 39; refine (specPathValid_c _ _ hps).mono ?_; rintro e w2 ⟨rfl, he2⟩; have c2 := hb.at_ (i := 2) rfl w2 (he.trans he2))
        · have hp : pathOk xp = true := by assumption
          go_ret
          refine ⟨ret_b ?_, he1.trans (he.trans he2)⟩
          rw [Bool.eq_iff_iff]
          simp only [itemOk, idsOk, hids.out, hp, Hn.out]
          simp; omega
        · have hp : ¬ pathOk xp = true := by assumption
          go_ret
          refine ⟨ret_b ?_, he1.trans (he.trans he2)⟩
          simp [itemOk, hp]
/-- the first k items of a list are those of a tree -/
def ItsTo (l : List It) (k : Nat) : Prop := ∀ j x, j < k → l[j]? = some x → ItAt l j x
theorem ItsTo.succ {l : List It} {k : Nat} {x : It} (h : ItsTo l k) (hx : l[k]? = some x) (hq : ItAt l k x) : ItsTo l (k + 1) := fun j p hj hp => by
  rcases Nat.lt_or_ge j k with hlt | hge
  · exact h j p hlt hp
  · have : j = k := by omega
    subst this
    rw [hx] at hp
    rw [← Option.some.inj hp]; exact hq
set_option maxHeartbeats 2000000 in
theorem specTreeValid_c {B : Nat} {v : Value} {l : List It} (w : World) (h : Its B w v l) : Calls Tryd.prog 13 #[v] w (Ret (.bool (treeOk l)) w) := by
  have H := Lib.hid h
  obtain ⟨A, c, rfl, hA⟩ := h
  have hl := hA.2.2.1
  unfold lim at hl
  generalize hn : l.length = n at *
  have Hn := Lib.hid hn; clear hn
  have HA := Lib.hid hA; clear hA
  go_enter Tryd.func13, Tryd.ntmps13
  go_wp2
  go_loopw [3] (fun i wr => ∃ k : Nat, k ≤ n ∧ i = .int .i64 k ∧ Ext w wr ∧ ItsTo l k) (fun i _ => n - (intOf i).toNat)
  case atStart => exact ⟨0, by omega, rfl, Ext.refl _, fun j p h => absurd h (by omega)⟩
  case round =>
    obtain ⟨k, hk, rfl, he, hall⟩ := hrel
    by_cases hlt : k < n
    · obtain ⟨x, hx⟩ := get_of_lt (l := l) (k := k) (by rw [Hn.out]; exact hlt)
      obtain ⟨b, o, u2, rfl, hBb, hbl, hps, hu2, hc0, hc1, hc2⟩ := Its.at_ HA.out hx
      have a0 := fun W (h : Ext wr W) => hc0 W (he.trans h)
      have a1 := fun W (h : Ext wr W) => hc1 W (he.trans h)
      have a2 := fun W (h : Ext wr W) => hc2 W (he.trans h)
      have hv : ∀ W, Ext wr W → ItV B W (.agg #[.string x.path, .bool x.dir, u2]) x := fun W e => ⟨u2, rfl, hps, hu2.ext (he.trans e)⟩
      have ho : ∀ W, Ext wr W → Its B W (.slice (some ⟨b, o, none⟩) n c) l := fun W e => H.out.ext (he.trans e)
      have Hx := Lib.hid hx
      clear hc0 hc1 hc2 hx
      cases hio : itemOk x with
      | false =>
        have Ci : ∀ W, Ext wr W → Calls Tryd.prog 25 #[.agg #[.string x.path, .bool x.dir, u2]] W (Ret (.bool false) W) := fun W e => by rw [← hio]; exact l5Item_c W (hv W e)
        have Hio := Lib.hid hio; have Hv := Lib.hid hv; have Ho := Lib.hid ho
        clear hio hv ho
        go_wp2
        refine wp_region_ext (by kernel_rfl) (by kernel_rfl) ?_
        repeat (first | (apply q_plain rfl; (· intro W eW; go_simp; (first | done | rfl | (rw [if_pos] <;> first | omega | rfl))); (try simp only [Act.put, List.setIfInBounds_toArray, List.set_cons_zero, List.set_cons_succ])) | (refine qg_skip (by rfl) ?_; (try simp only [Act.put, List.setIfInBounds_toArray, List.set_cons_zero, List.set_cons_succ])) | (apply qg_plain (by rfl); (· intro W eW; go_simp; (first | done | rfl | (rw [if_pos] <;> first | omega | rfl))); (try simp only [Act.put, List.setIfInBounds_toArray, List.set_cons_zero, List.set_cons_succ])))
        ((first | apply q_call rfl | apply qg_call (by rfl)); (· intro W eW; go_simp; (first | done | (constructor <;> rfl))); (· intro W eW; exact Ci W eW); (try simp only [Act.put, List.setIfInBounds_toArray, List.set_cons_zero, List.set_cons_succ]))
        repeat (first | (apply q_plain rfl; (· intro W eW; go_simp; (first | done | rfl | (rw [if_pos] <;> first | omega | rfl))); (try simp only [Act.put, List.setIfInBounds_toArray, List.set_cons_zero, List.set_cons_succ])) | (refine qg_skip (by rfl) ?_; (try simp only [Act.put, List.setIfInBounds_toArray, List.set_cons_zero, List.set_cons_succ])) | (apply qg_plain (by rfl); (· intro W eW; go_simp; (first | done | rfl | (rw [if_pos] <;> first | omega | rfl))); (try simp only [Act.put, List.setIfInBounds_toArray, List.set_cons_zero, List.set_cons_succ])))
        refine q_nil ?_
        intro w2 e2
        clear a0 a1 a2 Ci
        go_wp2
        go_ret
        refine ⟨ret_b (Eq.symm ?_), he.trans e2⟩
        rw [treeOk_false]
        intro ht
        have := (ht.2 k x Hx.out).1
        rw [Hio.out] at this
        cases this
      | true =>
        have Ci : ∀ W, Ext wr W → Calls Tryd.prog 25 #[.agg #[.string x.path, .bool x.dir, u2]] W (Ret (.bool true) W) := fun W e => by rw [← hio]; exact l5Item_c W (hv W e)
        have Ch : ∀ W, Ext wr W → Calls Tryd.prog 26 #[.slice (some ⟨b, o, none⟩) n c, .string x.path] W (Ret (.bool (homeOk l x.path)) W) := fun W e => l5Home_c _ W (ho W e) hps
        have Hio := Lib.hid hio; have Hv := Lib.hid hv; have Ho := Lib.hid ho; have Hall := Lib.hid hall
        clear hio hv ho hall
        rcases k with _ | j
        · simp only [Nat.zero_mul, Nat.add_zero] at a0 a1 a2
          go_wp2
          refine wp_region_ext (by kernel_rfl) (by kernel_rfl) ?_
          repeat (first | (apply q_plain rfl; (· intro W eW; go_simp; (first | done | rfl | (rw [if_pos] <;> first | omega | rfl))); (try simp only [Act.put, List.setIfInBounds_toArray, List.set_cons_zero, List.set_cons_succ])) | (refine qg_skip (by rfl) ?_; (try simp only [Act.put, List.setIfInBounds_toArray, List.set_cons_zero, List.set_cons_succ])) | (apply qg_plain (by rfl); (· intro W eW; go_simp; (first | done | rfl | (rw [if_pos] <;> first | omega | rfl))); (try simp only [Act.put, List.setIfInBounds_toArray, List.set_cons_zero, List.set_cons_succ])))
          ((first | apply q_call rfl | apply qg_call (by rfl)); (· intro W eW; go_simp; (first | done | (constructor <;> rfl))); (· intro W eW; exact Ci W eW); (try simp only [Act.put, List.setIfInBounds_toArray, List.set_cons_zero, List.set_cons_succ]))
          repeat (first | (apply q_plain rfl; (· intro W eW; go_simp; (first | done | rfl | (rw [if_pos] <;> first | omega | rfl))); (try simp only [Act.put, List.setIfInBounds_toArray, List.set_cons_zero, List.set_cons_succ])) | (refine qg_skip (by rfl) ?_; (try simp only [Act.put, List.setIfInBounds_toArray, List.set_cons_zero, List.set_cons_succ])) | (apply qg_plain (by rfl); (· intro W eW; go_simp; (first | done | rfl | (rw [if_pos] <;> first | omega | rfl))); (try simp only [Act.put, List.setIfInBounds_toArray, List.set_cons_zero, List.set_cons_succ])))
          ((first | apply q_call rfl | apply qg_call (by rfl)); (· intro W eW; go_simp; (first | done | (constructor <;> rfl))); (· intro W eW; exact Ch W eW); (try simp only [Act.put, List.setIfInBounds_toArray, List.set_cons_zero, List.set_cons_succ]))
          repeat (first | (apply q_plain rfl; (· intro W eW; go_simp; (first | done | rfl | (rw [if_pos] <;> first | omega | rfl))); (try simp only [Act.put, List.setIfInBounds_toArray, List.set_cons_zero, List.set_cons_succ])) | (refine qg_skip (by rfl) ?_; (try simp only [Act.put, List.setIfInBounds_toArray, List.set_cons_zero, List.set_cons_succ])) | (apply qg_plain (by rfl); (· intro W eW; go_simp; (first | done | rfl | (rw [if_pos] <;> first | omega | rfl))); (try simp only [Act.put, List.setIfInBounds_toArray, List.set_cons_zero, List.set_cons_succ])))
          refine q_nil ?_
          intro w2 e2
          clear a0 a1 a2 Ci Ch
          go_wp2
          · have hh : homeOk l x.path = false := not_true_of (by assumption)
            go_ret
            refine ⟨ret_b (Eq.symm ?_), he.trans e2⟩
            rw [treeOk_false]
            intro ht
            have := (ht.2 _ x Hx.out).2.2
            rw [hh] at this
            cases this
          · have hh : homeOk l x.path = true := not_false_of (by assumption)
            have Hn' := Lib.hid (ItsTo.succ Hall.out Hx.out ⟨Hio.out, fun j y h => absurd h (by omega), hh⟩)
            go_roundw
            case rel => exact ⟨1, by omega, by go_num, he.trans e2, Hn'.out⟩
            case measure => simp [intOf]; omega
        · obtain ⟨y, hy⟩ := get_of_lt (l := l) (k := j) (by rw [Hn.out]; omega)
          obtain ⟨b', o', u', e', -, -, -, -, d0, -, -⟩ := Its.at_ HA.out hy
          simp only [Option.some.injEq, Addr.mk.injEq, and_true] at e'
          obtain ⟨rfl, rfl⟩ := e'
          have b0 := fun W (h : Ext wr W) => d0 W (he.trans h)
          have Hy := Lib.hid hy
          have hjn : j < n := by omega
          have hwj : IntKind.i64.wrap (j : Int) = (j : Int) := IntWalk.i64_in _ (by omega)
          clear d0 hy
          cases hlt' : Op.bytesLess y.path.toList x.path.toList with
          | true =>
            have Hlt := Lib.hid hlt'
            go_wp2
            refine wp_region_ext (by kernel_rfl) (by kernel_rfl) ?_
            repeat (first | (apply q_plain rfl; (· intro W eW; go_simp; (first | done | rfl | (rw [if_pos] <;> first | omega | rfl))); (try simp only [Act.put, List.setIfInBounds_toArray, List.set_cons_zero, List.set_cons_succ])) | (refine qg_skip (by rfl) ?_; (try simp only [Act.put, List.setIfInBounds_toArray, List.set_cons_zero, List.set_cons_succ])) | (apply qg_plain (by rfl); (· intro W eW; go_simp; (first | done | rfl | (rw [if_pos] <;> first | omega | rfl))); (try simp only [Act.put, List.setIfInBounds_toArray, List.set_cons_zero, List.set_cons_succ])))
            ((first | apply q_call rfl | apply qg_call (by rfl)); (· intro W eW; go_simp; (first | done | (constructor <;> rfl))); (· intro W eW; exact Ci W eW); (try simp only [Act.put, List.setIfInBounds_toArray, List.set_cons_zero, List.set_cons_succ]))
            repeat (first | (apply q_plain rfl; (· intro W eW; go_simp; (first | done | rfl | (rw [if_pos] <;> first | omega | rfl))); (try simp only [Act.put, List.setIfInBounds_toArray, List.set_cons_zero, List.set_cons_succ])) | (refine qg_skip (by rfl) ?_; (try simp only [Act.put, List.setIfInBounds_toArray, List.set_cons_zero, List.set_cons_succ])) | (apply qg_plain (by rfl); (· intro W eW; go_simp; (first | done | rfl | (rw [if_pos] <;> first | omega | rfl))); (try simp only [Act.put, List.setIfInBounds_toArray, List.set_cons_zero, List.set_cons_succ])))
            ((first | apply q_call rfl | apply qg_call (by rfl)); (· intro W eW; go_simp; (first | done | (constructor <;> rfl))); (· intro W eW; exact Ch W eW); (try simp only [Act.put, List.setIfInBounds_toArray, List.set_cons_zero, List.set_cons_succ]))
            repeat (first | (apply q_plain rfl; (· intro W eW; go_simp; (first | done | rfl | (rw [if_pos] <;> first | omega | rfl))); (try simp only [Act.put, List.setIfInBounds_toArray, List.set_cons_zero, List.set_cons_succ])) | (refine qg_skip (by rfl) ?_; (try simp only [Act.put, List.setIfInBounds_toArray, List.set_cons_zero, List.set_cons_succ])) | (apply qg_plain (by rfl); (· intro W eW; go_simp; (first | done | rfl | (rw [if_pos] <;> first | omega | rfl))); (try simp only [Act.put, List.setIfInBounds_toArray, List.set_cons_zero, List.set_cons_succ])))
            refine q_nil ?_
            intro w2 e2
            clear a0 a1 a2 b0 Ci Ch hwj
            go_wp2
            · have hh : homeOk l x.path = false := not_true_of (by assumption)
              go_ret
              refine ⟨ret_b (Eq.symm ?_), he.trans e2⟩
              rw [treeOk_false]
              intro ht
              have := (ht.2 _ x Hx.out).2.2
              rw [hh] at this
              cases this
            · have hh : homeOk l x.path = true := not_false_of (by assumption)
              have Hn' := Lib.hid (ItsTo.succ Hall.out Hx.out ⟨Hio.out, fun i z h hz => by
                have : i = j := by omega
                subst this
                rw [Hy.out] at hz
                rw [← Option.some.inj hz]; exact Hlt.out, hh⟩)
              go_roundw
              case rel => exact ⟨j + 1 + 1, by omega, by go_num, he.trans e2, Hn'.out⟩
              case measure => simp [intOf]; omega
          | false =>
            have Hlt := Lib.hid hlt'
            go_wp2
            refine wp_region_ext (by kernel_rfl) (by kernel_rfl) ?_
            repeat (first | (apply q_plain rfl; (· intro W eW; go_simp; (first | done | rfl | (rw [if_pos] <;> first | omega | rfl))); (try simp only [Act.put, List.setIfInBounds_toArray, List.set_cons_zero, List.set_cons_succ])) | (refine qg_skip (by rfl) ?_; (try simp only [Act.put, List.setIfInBounds_toArray, List.set_cons_zero, List.set_cons_succ])) | (apply qg_plain (by rfl); (· intro W eW; go_simp; (first | done | rfl | (rw [if_pos] <;> first | omega | rfl))); (try simp only [Act.put, List.setIfInBounds_toArray, List.set_cons_zero, List.set_cons_succ])))
            ((first | apply q_call rfl | apply qg_call (by rfl)); (· intro W eW; go_simp; (first | done | (constructor <;> rfl))); (· intro W eW; exact Ci W eW); (try simp only [Act.put, List.setIfInBounds_toArray, List.set_cons_zero, List.set_cons_succ]))
            repeat (first | (apply q_plain rfl; (· intro W eW; go_simp; (first | done | rfl | (rw [if_pos] <;> first | omega | rfl))); (try simp only [Act.put, List.setIfInBounds_toArray, List.set_cons_zero, List.set_cons_succ])) | (refine qg_skip (by rfl) ?_; (try simp only [Act.put, List.setIfInBounds_toArray, List.set_cons_zero, List.set_cons_succ])) | (apply qg_plain (by rfl); (· intro W eW; go_simp; (first | done | rfl | (rw [if_pos] <;> first | omega | rfl))); (try simp only [Act.put, List.setIfInBounds_toArray, List.set_cons_zero, List.set_cons_succ])))
            refine q_nil ?_
            intro w2 e2
            clear a0 a1 a2 b0 Ci Ch hwj
            go_wp2
            go_ret
            refine ⟨ret_b (Eq.symm ?_), he.trans e2⟩
            rw [treeOk_false]
            intro ht
            have := (ht.2 _ x Hx.out).2.1 j y rfl Hy.out
            rw [blt, Hlt.out] at this
            cases this
    · have hks : k = n := by omega
      subst hks
      have Hall := Lib.hid hall; clear hall
      go_wp2
      go_ret
      refine ⟨ret_b ?_, he⟩
      rw [Bool.eq_iff_iff, treeOk_iff]
      unfold TreeOk
      rw [Hn.out]
      simp only [decide_eq_true_iff]
      constructor
      · intro h; exact ⟨by omega, fun j x hx => Hall.out j x (by rw [← Hn.out]; exact lt_of_get hx) hx⟩
      · intro h; omega
end Go.Sf

/-! The reference's functions on items and trees that make memory. -/
namespace Go.Sf
open Go Go.RowKit Go.Proofs
set_option maxHeartbeats 1000000 in
theorem l5Copy_c {B : Nat} {v : Value} {x : It} (w : World) (h : ItV B w v x) : Calls Tryd.prog 65 #[v] w (RetP (fun v' w' => ItV w.heap.size w' v' x) w) := by
  obtain ⟨xp, xd, xi⟩ := x
  obtain ⟨u2, rfl, hps, hI⟩ := h
  simp only at hps hI
  have hl := hI.len
  have HI := Lib.hid hI; have Hps := Lib.hid hps
  clear hI hps
  go_enter Tryd.func65, Tryd.ntmps65
  go_wp2_with (at_builtin; go_must (refine wp_apS (w0 := w) (by rfl) _ _ (by rfl) el_int eint_ok ?_ _ u2 [] xi (by rfl) (OwnS.lit _ _ _ _ ?_ (by simp)) (by rfl) (Ints.ext HI.out ?_) ?_ ?_))
  · (repeat' (first | exact Ext.refl _ | assumption | refine Ext.alloc ?_ _ | refine Ext.drew ?_ | refine Ext.drewN ?_ _))
  · simp; omega
  · (repeat' (first | exact Ext.refl _ | assumption | refine Ext.alloc ?_ _ | refine Ext.drew ?_ | refine Ext.drewN ?_ _))
  · simpa using hl
  · intro v' w' hO he hk
    have hb1 := hk _ _ _ (by decide) (((Blk.new w 34 #[.string xp, .bool xd, u2]).alloc (.cells #[.string ⟨#[]⟩, .bool false, .slice none 0 0] 34)).alloc (.cells #[] 3))
    have hb2 := hk _ _ _ (by decide) ((Blk.new (w.alloc (.cells #[.string xp, .bool xd, u2] 34)) 34 #[.string ⟨#[]⟩, .bool false, .slice none 0 0]).alloc (.cells #[] 3))
    simp only [World.size_alloc] at hb2
    have c0 := hb1.cell 0; have c1 := hb1.cell 1; have c2 := hb1.cell 2
    have d0 := hb2.cell 0; have d1 := hb2.cell 1; have d2 := hb2.cell 2
    have f0 := hb1.frozen 2
    have g0 := hb2.frozen 0; have g1 := hb2.frozen 1; have g2 := hb2.frozen 2
    simp at c0 c1 c2 d0 d1 d2
    obtain ⟨A', c', rfl⟩ := hO.form
    have HO := Lib.hid hO; have Hk := Lib.hid hk; have Hb1 := Lib.hid hb1; have Hb2 := Lib.hid hb2
    clear hO hk hb1 hb2
    go_wp2
    have B1 := Hb1.out.set_ 2 (.slice A' xi.length c')
    have B2 := Hb2.out.far (p := ⟨w.heap.size, 2, none⟩) (by simp) (.slice A' xi.length c')
    have K1 : KeepsT 34 w' _ := KeepsT.set (i := 2) Hb1.out (.slice A' xi.length c') rfl
    have E1 := he.setCell (p := ⟨w.heap.size, 2, none⟩) (Nat.le_refl _) (.slice A' xi.length c')
    generalize w'.setCell ⟨w.heap.size, 2, none⟩ (.slice A' xi.length c') = w2 at *
    have K2 := K1.trans (KeepsT.set (i := 0) B2 (.string xp) rfl)
    have E2 := E1.setCell (p := ⟨w.heap.size + 1, 0, none⟩) (by simp) (.string xp)
    have B3 := B2.set_ 0 (.string xp)
    generalize w2.setCell ⟨w.heap.size + 1, 0, none⟩ (.string xp) = w3 at *
    have K3 := K2.trans (KeepsT.set (i := 1) B3 (.bool xd) rfl)
    have E3 := E2.setCell (p := ⟨w.heap.size + 1, 1, none⟩) (by simp) (.bool xd)
    have B4 := B3.set_ 1 (.bool xd)
    generalize w3.setCell ⟨w.heap.size + 1, 1, none⟩ (.bool xd) = w4 at *
    have K4 := K3.trans (KeepsT.set (i := 2) B4 (.slice A' xi.length c') rfl)
    have E4 := E3.setCell (p := ⟨w.heap.size + 1, 2, none⟩) (by simp) (.slice A' xi.length c')
    have B5 := B4.set_ 2 (.slice A' xi.length c')
    generalize w4.setCell ⟨w.heap.size + 1, 2, none⟩ (.slice A' xi.length c') = w5 at *
    have z0 := B5.cell 0; have z1 := B5.cell 1; have z2 := B5.cell 2
    simp at z0 z1 z2
    have HI' : Ints w.heap.size w5 (.slice A' xi.length c') xi := (HO.out.sl eint_ok (Nat.le_refl _) hl).keepT K4 (by decide) (fun _ _ _ h => h)
    exact bodyPost_ret (v := .agg #[.string xp, .bool xd, .slice A' xi.length c']) (by simp [results, Tryd.results65, go_sem, z0, z1, z2]) rfl ⟨_, rfl, ⟨_, rfl, Hps.out, HI'⟩, E4⟩
end Go.Sf

/-! The reference's copies of trees. -/
namespace Go.Sf
open Go Go.RowKit Go.Proofs
theorem take_succ_get {α : Type} {l : List α} {k : Nat} {x : α} (h : l[k]? = some x) : l.take (k + 1) = l.take k ++ [x] := by
  rw [List.take_add_one, h]; rfl
theorem eit_of_v {B : Nat} {w : World} {x : It} {u : Value} (h1 : x.path.size < lim) (h2 : Ints B w u x.ids) : EIt B w #[.string x.path, .bool x.dir, u] 0 x :=
  ⟨rfl, h1, rfl, u, rfl, h2⟩
theorem one3 {u : Value} {p : ByteArray} {d : Bool} (h : u.oneCell' = true) : ∀ c ∈ (#[.string p, .bool d, u] : Array Value).toList, c.oneCell' = true := by
  intro c hc
  simp at hc
  rcases hc with rfl | rfl | rfl
  · rfl
  · rfl
  · exact h
set_option maxHeartbeats 1000000 in
theorem l5All_c {B : Nat} {v : Value} {l : List It} (w : World) (h : Its B w v l) : Calls Tryd.prog 57 #[v] w (RetP (fun v' w' => OwnS w.heap.size 34 3 (EIt w.heap.size) w' v' l) w) := by
  obtain ⟨A, c, rfl, hA⟩ := h
  have hl := hA.2.2.1
  unfold lim at hl
  generalize hn : l.length = n at *
  have Hn := Lib.hid hn; clear hn
  have HA := Lib.hid hA; clear hA
  go_enter Tryd.func57, Tryd.ntmps57
  go_wp2
  go_loopw [3, 4] (fun v i wr => ∃ k : Nat, k ≤ n ∧ i = .int .i64 k ∧ Ext w wr ∧ OwnS w.heap.size 34 3 (EIt w.heap.size) wr v (l.take k)) (fun _ i _ => n - (intOf i).toNat)
  case atStart => exact ⟨0, by omega, rfl, (Ext.refl w).alloc _, OwnS.lit0 _ _ _ _ (Nat.le_refl _)⟩
  case round =>
    obtain ⟨k, hk, rfl, he, hO⟩ := hrel
    by_cases hlt : k < n
    · obtain ⟨x, hx⟩ := get_of_lt (l := l) (k := k) (by rw [Hn.out]; exact hlt)
      obtain ⟨b, o, u2, rfl, -, -, hps, hu, hc0, hc1, hc2⟩ := Its.at_ HA.out hx
      have a0 := hc0 wr he; have a1 := hc1 wr he; have a2 := hc2 wr he
      have Hx := Lib.hid (take_succ_get hx)
      have HO := Lib.hid hO
      have Hu := Lib.hid hu
      clear hc0 hc1 hc2 hx hO hu
      go_wp2_with (first | (go_at_call 65; refine (l5Copy_c (x := x) _ ⟨u2, rfl, hps, Hu.out.ext he⟩).mono ?_; rintro e w2 ⟨v2, rfl, ⟨u9, rfl, hps', hu'⟩, he2⟩; have he3 := he.trans he2; have HO2 := Lib.hid (HO.out.ext (EIt_ok _) he2); have Hu2 := Lib.hid (hu'.keep (Ext.size he) (fun _ _ _ => rfl)); clear hu' a0 a1 a2) | (at_builtin; go_must (refine wp_ap1 (w0 := w) (by rfl) _ _ (by rfl) el_It (EIt_ok _) he3 _ (l.take k) [x] (by rfl) HO2.out 1 1 rfl #[.string x.path, .bool x.dir, u9] _ (by rfl) (by first | rfl | simp) rfl (one3 Hu2.out.one) (one_E (eit_of_v hps Hu2.out)) ?_ ?_)))
      · simp; unfold lim; omega
      · intro v' w' hO' he' _
        have HO' := Lib.hid hO'
        clear hO' he he2 he3
        go_wp2
        go_roundw
        case rel => exact ⟨k + 1, by omega, by go_num, he', by rw [Hx.out]; exact HO'.out⟩
        case measure => simp [intOf]; omega
    · have hks : k = n := by omega
      subst hks
      have HO := Lib.hid hO; clear hO
      go_wp2
      go_ret
      have := HO.out
      rw [List.take_of_length_le (by rw [Hn.out]; omega)] at this
      exact ⟨_, rfl, this, he⟩

/-- a tree without an item -/
noncomputable def treeDrop (l : List It) (p : ByteArray) : Option (List It) :=
  if treeOk l = true ∧ 0 ≤ atPath l p ∧ treeOk (l.eraseIdx (atPath l p).toNat) = true then some (l.eraseIdx (atPath l p).toNat) else none
/-- a tree and whether there is one -/
def OptIts (B : Nat) (o : Option (List It)) (r : Value) (w : World) : Prop := ∃ v, r = .tuple #[v, .bool o.isSome] ∧ Its B w v (o.getD [])
theorem OptIts.none_ {B g : Nat} {w : World} {o : Option (List It)} (h : o = none) : OptIts B o (.tuple #[.slice (some ⟨g, 0, none⟩) 0 0, .bool false]) w := by
  subst h; exact ⟨_, rfl, SlOf.empty _ _ _ _ _ _ _ (Nat.zero_le _) (fun _ => rfl)⟩
set_option maxRecDepth 4000 in
set_option maxHeartbeats 1000000 in
theorem specTreeDrop_c {B : Nat} {v : Value} {l : List It} (p : ByteArray) (w : World) (h : Its B w v l) :
    Calls Tryd.prog 45 #[v, .string p] w (RetP (OptIts w.heap.size (treeDrop l p)) w) := by
  have H := Lib.hid h
  have hl := h.len
  cases ht : treeOk l with
  | false =>
    have hd : treeDrop l p = none := by simp [treeDrop, ht]
    have Ct : ∀ W, Ext w W → Calls Tryd.prog 13 #[v] W (Ret (.bool false) W) := fun W e => by rw [← ht]; exact specTreeValid_c W (H.out.ext e)
    have Hd := Lib.hid hd; clear hd ht h
    go_enter Tryd.func45, Tryd.ntmps45
    go_wp2_with (first | (go_at_call 41; refine (l5At_c p _ H.out).mono ?_; rintro e w1 ⟨rfl, he1⟩) | (go_at_call 13; refine (Ct _ he1).mono ?_; rintro e w2 ⟨rfl, he2⟩))
    go_ret2
    exact ⟨_, rfl, OptIts.none_ Hd.out, (he1.trans he2).alloc _⟩
  | true =>
    have Ct : ∀ W, Ext w W → Calls Tryd.prog 13 #[v] W (Ret (.bool true) W) := fun W e => by rw [← ht]; exact specTreeValid_c W (H.out.ext e)
    rcases atG_find (pathIs p) l 0 with ⟨h1, h2⟩ | ⟨i, x, h1, h2, h3, h4, -⟩
    · have hd : treeDrop l p = none := by simp [treeDrop, atPath, h2]
      have Ca : ∀ W, Ext w W → Calls Tryd.prog 41 #[v, .string p] W (Ret (.int .i64 (-1)) W) := fun W e => by rw [← h2]; exact l5At_c p W (H.out.ext e)
      have Hd := Lib.hid hd; clear hd ht h h1 h2
      go_enter Tryd.func45, Tryd.ntmps45
      go_wp2_with (first | (go_at_call 41; refine (Ca _ (Ext.refl _)).mono ?_; rintro e w1 ⟨rfl, he1⟩) | (go_at_call 13; refine (Ct _ he1).mono ?_; rintro e w2 ⟨rfl, he2⟩))
      go_ret2
      exact ⟨_, rfl, OptIts.none_ Hd.out, (he1.trans he2).alloc _⟩
    · have Ca : ∀ W, Ext w W → Calls Tryd.prog 41 #[v, .string p] W (Ret (.int .i64 (i : Int)) W) := fun W e => by
        have := l5At_c p W (H.out.ext e); rw [atPath, h4] at this; simpa using this
      have hil := lt_of_get h1
      have hat : atPath l p = (i : Int) := by rw [atPath, h4]; simp
      have Hd : Hid (treeDrop l p = if treeOk (l.eraseIdx i) = true then some (l.eraseIdx i) else none) := Lib.hid (by simp [treeDrop, hat, ht])
      clear ht h h1 h2 h3 h4 hat
      unfold lim at hl
      go_enter Tryd.func45, Tryd.ntmps45
      go_wp2_with (first | (go_at_call 41; refine (Ca _ (Ext.refl _)).mono ?_; rintro e w1 ⟨rfl, he1⟩) | (go_at_call 13; refine (Ct _ he1).mono ?_; rintro e w2 ⟨rfl, he2⟩; have he3 := he1.trans he2; clear he2) | (go_at_call 57; refine (l5All_c _ (H.out.ext he3)).mono ?_; rintro e w3 ⟨v2, rfl, hO, he4⟩))
      obtain ⟨g, c, rfl, hg, hnc, hcm⟩ := hO.formP (by omega)
      have HO := Lib.hid hO; clear hO
      have hw1 : IntKind.i64.wrap ((i : Int) + 1) = (i : Int) + 1 := IntWalk.i64_in _ (by omega)
      have hp1 : (0 : Int) ≤ (i : Int) + 1 := by omega
      have hn1 : ((i : Int) + 1).toNat = i + 1 := by omega
      have hle : i + 1 ≤ l.length := hil
      have hle' : (i : Int) + 1 ≤ (l.length : Int) := by omega
      have hic : i ≤ c := by omega
      have HF : Hid (l.length ≤ c ∧ l.length ≤ 4194304) := Lib.hid ⟨hnc, hl⟩
      clear hcm hnc hl
      refine wp_region_still_tail 7 (by kernel_rfl) (by kernel_rfl) ?_
      simp only [List.take_succ_cons, List.take_zero, List.drop_succ_cons, List.drop_zero]
      repeat still_step
      refine wpStill_nil ?_
      refine wp_del (w0 := w2) rfl _ _ rfl el_It (EIt_ok _) (he4.drew) g c i l hil (HO.out.ext (EIt_ok _) (Ext.refl _).drew) (by rfl) (if c = i + 1 then ⟨g, 0, none⟩ else ⟨g, (i + 1) * 3, none⟩) (c - (i + 1)) ?_ ?_ ?_
      · show Value.slice _ _ _ = _
        congr 1
        split <;> simp [*]
      · intro hlt
        have := HF.out
        rw [if_neg (by omega)]
      · intro w5 hO5 he5 hk5
        have HI : Hid (Its w2.heap.size w5 (.slice (some ⟨g, 0, none⟩) (l.length - 1) c) (l.eraseIdx i)) := Lib.hid (hO5.sl (EIt_ok _) (Nat.le_refl _) (by have := HF.out; rw [List.length_eraseIdx, if_pos hil]; unfold lim; omega))
        have he6 : Ext w w5 := he3.trans he5
        clear hO5 hk5 HO hw1 hp1 hn1 hle hle' hic HF
        have hee : Ext w5 w5 := Ext.refl _
        cases hv : treeOk (l.eraseIdx i) with
        | false =>
          have Cv : ∀ W, Ext w5 W → Calls Tryd.prog 13 #[.slice (some ⟨g, 0, none⟩) (l.length - 1) c] W (Ret (.bool false) W) := fun W e => by rw [← hv]; exact specTreeValid_c _ (HI.out.ext e)
          have hd : treeDrop l p = none := by rw [Hd.out, hv]; rfl
          have Hd' := Lib.hid hd
          clear hd hv Hd
          go_wp2_with (first | (go_at_call 13; refine (Cv _ hee).mono ?_; rintro e w7 ⟨rfl, he7⟩))
          all_goals
            go_ret2
            exact ⟨_, rfl, OptIts.none_ Hd'.out, (he6.trans he7).alloc _⟩
        | true =>
          have Cv : ∀ W, Ext w5 W → Calls Tryd.prog 13 #[.slice (some ⟨g, 0, none⟩) (l.length - 1) c] W (Ret (.bool true) W) := fun W e => by rw [← hv]; exact specTreeValid_c _ (HI.out.ext e)
          have hd : treeDrop l p = some (l.eraseIdx i) := by rw [Hd.out, hv]; rfl
          have Hd' := Lib.hid hd
          clear hd hv Hd
          go_wp2_with (first | (go_at_call 13; refine (Cv _ hee).mono ?_; rintro e w7 ⟨rfl, he7⟩))
          all_goals
            go_ret2
            refine ⟨_, rfl, ?_, he6.trans he7⟩
            rw [Hd'.out]
            have HI' := (HI.out.ext he7).keep (Ext.size he3) (fun _ _ _ => rfl)
            first
              | exact ⟨.slice (some ⟨g, 0, none⟩) (l.length - 1) c, rfl, HI'⟩
              | exact ⟨.slice (some ⟨g, 0, none⟩) (l.length - 1) (i + 1), rfl, by rw [← ‹c = i + 1›]; exact HI'⟩
end Go.Sf

/-! The program's functions on paths. -/
namespace Go.Sf
open Go Go.RowKit Go.Proofs
set_option maxHeartbeats 1000000 in
theorem partValid_c (s : ByteArray) (w : World) (hs : s.size < lim) : Calls Tryd.prog 83 #[.string s] w (Ret (.bool (wordOk (bl s))) w) := by
  unfold lim at hs
  by_cases hlen : 1 ≤ s.size ∧ s.size ≤ 5
  · obtain ⟨h1, h5⟩ := hlen
    go_enter Tryd.func83, Tryd.ntmps83
    go_wp2
    go_loopw [3] (fun i wr => ∃ k : Nat, k ≤ s.size ∧ i = .int .i64 k ∧ Ext w wr ∧ Hid (((bl s).take k).all low = true)) (fun i _ => s.size - (intOf i).toNat)
    case atStart => exact ⟨0, by omega, rfl, Ext.refl w, by simp [Hid]⟩
    case round =>
      obtain ⟨k, hk, rfl, he, hall⟩ := hrel
      by_cases hlt : k < s.size
      · have hget := Lib.hid (bl_get s hlt)
        generalize hc : s[k] = c at *
        have Hc := Lib.hid hc
        by_cases g1 : (97 : Int) ≤ (c.toNat : Int)
        · by_cases g2 : (c.toNat : Int) ≤ 122
          · go_wp2_with fail
            go_roundw
            case rel =>
              refine ⟨k + 1, by omega, by go_num, he, ?_⟩
              show _ = true
              rw [List.take_add_one, hget.out]
              have := hall.out
              simp [this, low]; omega
            case measure => simp [intOf]; omega
          · go_wp2_with fail
            go_ret
            refine ⟨ret_b ?_, he⟩
            have : (bl s).all low = false := by
              rw [List.all_eq_false]
              exact ⟨c, List.mem_of_getElem? hget.out, by simp [low]; omega⟩
            simp [wordOk, this]
        · go_wp2_with fail
          go_ret
          refine ⟨ret_b ?_, he⟩
          have : (bl s).all low = false := by
            rw [List.all_eq_false]
            exact ⟨c, List.mem_of_getElem? hget.out, by simp [low]; omega⟩
          simp [wordOk, this]
      · have hks : k = s.size := by omega
        subst hks
        go_wp2
        go_ret
        refine ⟨ret_b ?_, he⟩
        have := hall.out
        rw [List.take_of_length_le (by rw [bl_length]; omega)] at this
        simp [wordOk, this, bl_length, h1, h5]
  · have hf : wordOk (bl s) = false := by
      simp only [wordOk, bl_length]
      by_cases h1 : 1 ≤ s.size
      · have : ¬ s.size ≤ 5 := fun h => hlen ⟨h1, h⟩
        simp [this]
      · simp [h1]
    have Hf := Lib.hid hf; clear hf
    by_cases h1 : 1 ≤ s.size
    · have h5 : 5 < s.size := by omega
      clear hlen
      go_enter Tryd.func83, Tryd.ntmps83
      go_wp2
      go_ret
      exact ⟨ret_b Hf.out.symm, Ext.refl w⟩
    · have h0 : s.size < 1 := by omega
      clear hlen h1
      go_enter Tryd.func83, Tryd.ntmps83
      go_wp2
      go_ret
      exact ⟨ret_b Hf.out.symm, Ext.refl w⟩
end Go.Sf
