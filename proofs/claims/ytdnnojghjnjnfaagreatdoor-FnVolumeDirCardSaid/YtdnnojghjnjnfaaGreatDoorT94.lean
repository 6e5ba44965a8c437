/- Disks: what is asked of them; the reference's way. -/
import Derived.Test.YtdnnojghjnjnfaaGreatDoorGQ
import Derived.Test.YtdnnojghjnjnfaaGreatDoorT93
namespace Go.Sf
open Go Go.RowKit Go.Proofs
def snIs (n : ByteArray) (x : Sn) : Bool := eqb x.name n
def snAt (l : List Sn) (n : ByteArray) : Int := atG (snIs n) l 0
/-- what is asked of the snapshot at k -/
def SnAt (s : List Hd) (l : List Sn) (k : Nat) (x : Sn) : Prop := wordOk (bl x.name) = true ∧ (∀ j y, j < k → l[j]? = some y → y.name ≠ x.name) ∧ treeOk x.tree = true ∧ filesFit s x.tree = true
def SnapsOk (s : List Hd) (l : List Sn) : Prop := l.length ≤ 6 ∧ ∀ k x, l[k]? = some x → SnAt s l k x
open Classical in
noncomputable def snapsOk (s : List Hd) (l : List Sn) : Bool := decide (SnapsOk s l)
theorem snapsOk_iff {s : List Hd} {l : List Sn} : snapsOk s l = true ↔ SnapsOk s l := by unfold snapsOk; simp
theorem snapsOk_false {s : List Hd} {l : List Sn} : snapsOk s l = false ↔ ¬ SnapsOk s l := by unfold snapsOk; simp
theorem snaps_bad {s : List Hd} {l : List Sn} {k : Nat} {x : Sn} (hx : l[k]? = some x) (h : ¬ SnAt s l k x) : snapsOk s l = false := snapsOk_false.2 fun hs => h (hs.2 k x hx)
def treesOf (t : List It) (l : List Sn) : List (List It) := t :: l.map Sn.tree
noncomputable def diskUses (s : List Hd) (t : List It) (l : List Sn) : Bool := s.all fun h => eqb (cntTs h.id (treesOf t l) : Int) h.uses
noncomputable def diskOk (s : List Hd) (t : List It) (l : List Sn) : Bool := storeOk s && (treeOk t && (filesFit s t && (snapsOk s l && diskUses s t l)))
theorem snAt_of {l : List Sn} {k : Nat} {x : Sn} (hx : l[k]? = some x) : ∃ i, i ≤ k ∧ snAt l x.name = (i : Int) ∧ (i < k → ∃ y, l[i]? = some y ∧ y.name = x.name) ∧ (i = k → ∀ j y, j < k → l[j]? = some y → y.name ≠ x.name) := by
  rcases atG_find (snIs x.name) l 0 with ⟨f1, -⟩ | ⟨i, y, f1, f2, -, f4, f5⟩
  · exact absurd (List.find?_eq_none.1 f1 x (List.mem_of_getElem? hx)) (by simp [snIs, eqb_iff])
  · have hik : i ≤ k := by
      rcases Nat.lt_or_ge k i with h | h
      · have := f5 k x h hx
        rw [snIs, eqb_true.2 rfl] at this; cases this
      · exact h
    refine ⟨i, hik, by unfold snAt; rw [f4, Nat.zero_add], fun _ => ⟨y, f1, by simpa [snIs, eqb_iff] using f2⟩, fun e j z hj hz hn => ?_⟩
    subst e
    have := f5 j z hj hz
    rw [snIs, eqb_true.2 hn] at this; cases this
theorem cntTs_cons (i : Int) (t : List It) (ts : List (List It)) : cntTs i (t :: ts) = cntT i t + cntTs i ts := by simp [cntTs]
theorem cntT_bound {B : Nat} {w : World} {v : Value} {t : List It} (i : Int) (h : Its B w v t) : cntT i t ≤ 17592186044416 := by
  obtain ⟨A, c, -, -, -, hl, he⟩ := h
  have hb : ∀ x, x ∈ t → x.ids.length ≤ 4194304 := fun x hx => by
    obtain ⟨k, hk⟩ := List.mem_iff_getElem?.1 hx
    obtain ⟨_, _, _, -, -, -, -, -, -, u, -, hi⟩ := he k x hk
    have := hi.len
    unfold lim at this; exact this
  have h2 : ∀ l : List It, (∀ x, x ∈ l → x.ids.length ≤ 4194304) → cntT i l ≤ l.length * 4194304 := by
    intro l
    induction l with
    | nil => intro _; simp [cntT]
    | cons a l ih =>
      intro hl
      have h1 := ih fun x hx => hl x (by simp [hx])
      have h3 := hl a (by simp)
      have h4 := cntI_le i a.ids
      unfold cntT at h1 ⊢
      rw [List.map_cons, List.sum_cons, List.length_cons, Nat.add_mul, Nat.one_mul]
      omega
  have h3 := h2 t hb
  unfold lim at hl
  have := Nat.mul_le_mul_right 4194304 hl
  omega
set_option maxHeartbeats 1000000 in
theorem l12At_c {B : Nat} {v : Value} {l : List Sn} (p : ByteArray) (w : World) (h : Sns B w v l) : Calls Tryz.prog 69 #[v, .string p] w (Ret (.int .i64 (snAt l p)) w) := by
  obtain ⟨A, c, rfl, hA⟩ := h
  have hl := hA.2.2.1
  unfold lim at hl
  generalize hn : l.length = n at *
  have Hn := Lib.hid hn; clear hn
  have HA := Lib.hid hA; clear hA
  go_enter Tryz.func69, Tryz.ntmps69
  go_wp2
  go_loopw [5] (fun i wr => ∃ k : Nat, k ≤ n ∧ i = .int .i64 k ∧ Ext w wr ∧ Hid (atG (snIs p) (l.drop k) k = snAt l p)) (fun i _ => n - (RowKit.intOf i).toNat)
  case atStart => exact ⟨0, by omega, rfl, Ext.refl _, Lib.hid rfl⟩
  case round =>
    obtain ⟨k, hk, rfl, he, hrest⟩ := hrel
    by_cases hlt : k < n
    · obtain ⟨x, hx⟩ := get_of_lt (l := l) (k := k) (by rw [Hn.out]; exact hlt)
      obtain ⟨b, o, u2, rfl, -, -, -, -, hc0, -⟩ := Sns.at_ HA.out hx
      have ha := hc0 wr he
      have Hd := Lib.hid (drop_cons hx)
      clear hc0 hx
      go_wp2
      · have hp : (x.name.toList == p.toList) = true := by assumption
        go_ret
        refine ⟨ret_i ?_, he⟩
        have := hrest.out
        rw [bytes_ne_iff, decide_eq_true_iff] at hp
        rw [Hd.out] at this
        simpa [atG, snIs, eqb, hp] using this
      · have hp : (x.name.toList == p.toList) = false := by assumption
        rw [bytes_ne_iff, decide_eq_false_iff_not] at hp
        go_roundw
        case rel => exact ⟨k + 1, by omega, by go_num, he, Lib.hid (by have := hrest.out; rw [Hd.out] at this; simpa [atG, snIs, eqb, hp] using this)⟩
        case measure => simp [RowKit.intOf]; omega
    · have hks : k = n := by omega
      subst hks
      go_wp2
      go_ret
      refine ⟨ret_i ?_, he⟩
      have := hrest.out
      rw [List.drop_of_length_le (by rw [Hn.out]; omega)] at this
      exact this
set_option maxRecDepth 8000 in
set_option maxHeartbeats 2000000 in
theorem l12Snaps_c {B B' B2 : Nat} {vs vt vn : Value} {s : List Hd} {t : List It} {l : List Sn} (w : World) (hs : Hds B w vs s) (ht : Its B' w vt t) (hn : Sns B2 w vn l) : Calls Tryz.prog 66 #[.agg #[vs, vt, vn]] w (Ret (.bool (snapsOk s l)) w) := by
  have HS := Lib.hid hs; have HN := Lib.hid hn
  obtain ⟨A, c, rfl, -⟩ := hs
  obtain ⟨A2, c2, rfl, -⟩ := ht
  obtain ⟨A3, c3, rfl, hA⟩ := hn
  have hl := hA.2.2.1
  unfold lim at hl
  have e0 : Ext w (w.alloc (.cells #[.slice A s.length c, .slice A2 t.length c2, .slice A3 l.length c3] 40)) := (Ext.refl w).alloc _
  have hbk := Blk.new w 40 #[.slice A s.length c, .slice A2 t.length c2, .slice A3 l.length c3]
  have d0 := fun W (e : Ext _ W) => hbk.at_ (i := 0) (u := .slice A s.length c) rfl W e
  have d2 := fun W (e : Ext _ W) => hbk.at_ (i := 2) (u := .slice A3 l.length c3) rfl W e
  have C2 := fun W (p : ByteArray) (e : Ext (w.alloc (.cells #[.slice A s.length c, .slice A2 t.length c2, .slice A3 l.length c3] 40)) W) => l12At_c p W (HN.out.ext (e0.trans e))
  have HA := Lib.hid hA
  clear hbk hA
  generalize hnn : l.length = n at *
  have Hn := Lib.hid hnn; clear hnn
  go_enter Tryz.func66, Tryz.ntmps66
  go_wp2
  go_loopw [3] (fun i wr => ∃ k : Nat, k ≤ n ∧ i = .int .i64 k ∧ Ext (w.alloc (.cells #[.slice A s.length c, .slice A2 t.length c2, .slice A3 n c3] 40)) wr ∧ Hid (∀ j y, j < k → l[j]? = some y → SnAt s l j y)) (fun i _ => n - (RowKit.intOf i).toNat)
  case atStart => exact ⟨0, by omega, rfl, Ext.refl _, Lib.hid fun j y hj => absurd hj (by omega)⟩
  case round =>
    obtain ⟨k, hk, rfl, he, hall⟩ := hrel
    have q2 := d2 wr he
    by_cases hlt : k < n
    · obtain ⟨x, hx⟩ := get_of_lt (l := l) (k := k) (by rw [Hn.out]; exact hlt)
      obtain ⟨b, o, u, rfl, -, -, hns, hu, hc0, hc1⟩ := Sns.at_ HA.out hx
      have a0 := hc0 wr (e0.trans he); have a1 := hc1 wr (e0.trans he)
      have HU := Lib.hid (hu.ext (e0.trans he))
      obtain ⟨i, hik, hsa, hdup, hnd⟩ := snAt_of hx
      have Hx := Lib.hid hx
      obtain ⟨Au, cu, rfl, -⟩ := hu
      obtain ⟨xn, xt⟩ := x
      simp only at a0 a1 HU hns hsa hdup hnd
      have ea : Ext wr (wr.alloc (.cells #[.string xn, .slice Au xt.length cu] 49)) := (Ext.refl wr).alloc _
      have hbs := Blk.new wr 49 #[.string xn, .slice Au xt.length cu]
      have s0 := fun W (e : Ext _ W) => hbs.at_ (i := 0) (u := .string xn) rfl W e
      have s1 := fun W (e : Ext _ W) => hbs.at_ (i := 1) (u := .slice Au xt.length cu) rfl W e
      have D0 := fun W (e : Ext (wr.alloc (.cells #[.string xn, .slice Au xt.length cu] 49)) W) => d0 W (he.trans (ea.trans e))
      have D2 := fun W (e : Ext (wr.alloc (.cells #[.string xn, .slice Au xt.length cu] 49)) W) => d2 W (he.trans (ea.trans e))
      have C1 := l1Word_c xn (wr.alloc (.cells #[.string xn, .slice Au xt.length cu] 49)) hns
      have K2 := fun W (e : Ext (wr.alloc (.cells #[.string xn, .slice Au xt.length cu] 49)) W) => C2 W xn (he.trans (ea.trans e))
      have C3 := fun W (e : Ext (wr.alloc (.cells #[.string xn, .slice Au xt.length cu] 49)) W) => specTreeValid_c W (HU.out.ext (ea.trans e))
      have C4 := fun W (e : Ext (wr.alloc (.cells #[.string xn, .slice Au xt.length cu] 49)) W) => l11Files_c W (HS.out.ext (e0.trans (he.trans (ea.trans e)))) (HU.out.ext (ea.trans e))
      have HE := Lib.hid (e0.trans (he.trans ea))
      have He := Lib.hid (he.trans ea)
      clear hbs hc0 hc1 hx d0 d2 C2
      rw [hsa] at K2
      cases h1 : wordOk (bl xn) with
      | false =>
        rw [h1] at C1
        have Hr : Hid (snapsOk s l = false) := Lib.hid (snaps_bad Hx.out fun h => by have := h.1; rw [h1] at this; cases this)
        clear h1 hall hdup hnd K2 C3 C4 s1 D0 D2
        go_wp2_with (go_at_call 92; refine C1.mono ?_; rintro e w2 ⟨rfl, he2⟩)
        go_ret
        exact ⟨ret_b Hr.out.symm, HE.out.trans he2⟩
      | true =>
      rw [h1] at C1
      by_cases hik2 : i < k
      · have hlti : ((i : Nat) : Int) < (k : Int) := by omega
        have Hr : Hid (snapsOk s l = false) := Lib.hid (snaps_bad Hx.out fun h => by
          obtain ⟨y, hy, hyn⟩ := hdup hik2
          exact h.2.1 i y hik2 hy hyn)
        clear h1 hall hdup hnd C3 C4 s1
        go_wp2_with (first | (go_at_call 92; refine C1.mono ?_; rintro e w2 ⟨rfl, he2⟩; have q3 := D2 w2 he2; have q4 := s0 w2 he2) | (go_at_call 69; refine (K2 _ he2).mono ?_; rintro e w3 ⟨rfl, he3⟩))
        go_ret
        exact ⟨ret_b Hr.out.symm, HE.out.trans (he2.trans he3)⟩
      have hik3 : i = k := by omega
      have Hnd := Lib.hid (hnd hik3)
      have hlti : ¬ ((i : Nat) : Int) < (k : Int) := by omega
      clear hdup hnd
      cases h3 : treeOk xt with
      | false =>
        rw [h3] at C3
        have Hr : Hid (snapsOk s l = false) := Lib.hid (snaps_bad Hx.out fun h => by have := h.2.2.1; rw [h3] at this; cases this)
        clear h1 h3 hall C4
        go_wp2_with (first | (go_at_call 92; refine C1.mono ?_; rintro e w2 ⟨rfl, he2⟩; have q3 := D2 w2 he2; have q4 := s0 w2 he2) | (go_at_call 69; refine (K2 _ he2).mono ?_; rintro e w3 ⟨rfl, he3⟩; have q5 := s1 w3 (he2.trans he3)) | (go_at_call 64; refine (C3 _ (he2.trans he3)).mono ?_; rintro e w4 ⟨rfl, he4⟩))
        go_ret
        exact ⟨ret_b Hr.out.symm, HE.out.trans ((he2.trans he3).trans he4)⟩
      | true =>
      rw [h3] at C3
      cases h4 : filesFit s xt with
      | false =>
        rw [h4] at C4
        have Hr : Hid (snapsOk s l = false) := Lib.hid (snaps_bad Hx.out fun h => by have := h.2.2.2; rw [h4] at this; cases this)
        clear h1 h3 h4 hall
        go_wp2_with (first | (go_at_call 92; refine C1.mono ?_; rintro e w2 ⟨rfl, he2⟩; have q3 := D2 w2 he2; have q4 := s0 w2 he2) | (go_at_call 69; refine (K2 _ he2).mono ?_; rintro e w3 ⟨rfl, he3⟩; have q5 := s1 w3 (he2.trans he3)) | (go_at_call 64; refine (C3 _ (he2.trans he3)).mono ?_; rintro e w4 ⟨rfl, he4⟩; have hh4 := (he2.trans he3).trans he4; have q6 := D0 w4 hh4; have q7 := s1 w4 hh4) | (go_at_call 65; refine (C4 _ hh4).mono ?_; rintro e w5 ⟨rfl, he5⟩))
        go_ret
        exact ⟨ret_b Hr.out.symm, HE.out.trans (hh4.trans he5)⟩
      | true =>
        rw [h4] at C4
        have Hr : Hid (∀ j y, j < k + 1 → l[j]? = some y → SnAt s l j y) := Lib.hid fun j y hj hy => by
          rcases Nat.lt_or_ge j k with h | h
          · exact hall.out j y h hy
          · obtain rfl : j = k := by omega
            rw [Hx.out] at hy
            cases hy
            exact ⟨h1, Hnd.out, h3, h4⟩
        clear h1 h3 h4 hall
        go_wp2_with (first | (go_at_call 92; refine C1.mono ?_; rintro e w2 ⟨rfl, he2⟩; have q3 := D2 w2 he2; have q4 := s0 w2 he2) | (go_at_call 69; refine (K2 _ he2).mono ?_; rintro e w3 ⟨rfl, he3⟩; have q5 := s1 w3 (he2.trans he3)) | (go_at_call 64; refine (C3 _ (he2.trans he3)).mono ?_; rintro e w4 ⟨rfl, he4⟩; have hh4 := (he2.trans he3).trans he4; have q6 := D0 w4 hh4; have q7 := s1 w4 hh4) | (go_at_call 65; refine (C4 _ hh4).mono ?_; rintro e w5 ⟨rfl, he5⟩))
        go_roundw
        case rel => exact ⟨k + 1, by omega, by go_num, He.out.trans (hh4.trans he5), Hr⟩
        case measure => simp [RowKit.intOf]; omega
    · have hks : k = n := by omega
      subst hks
      have Hr : Hid (snapsOk s l = decide (k ≤ 6)) := Lib.hid (by
        rw [Bool.eq_iff_iff, snapsOk_iff]
        simp only [decide_eq_true_eq]
        exact ⟨fun h => by have := h.1; have := Hn.out; omega, fun h => ⟨by have := Hn.out; omega, fun j x hj => hall.out j x (by have := lt_of_get hj; have := Hn.out; omega) hj⟩⟩)
      clear hall
      by_cases h6 : k ≤ 6
      · have h6' : ((k : Int) ≤ 6) := by omega
        go_wp2
        go_ret
        exact ⟨ret_b (by rw [Hr.out]; simp [h6]), e0.trans he⟩
      · have h6' : ¬ ((k : Int) ≤ 6) := by omega
        go_wp2
        go_ret
        exact ⟨ret_b (by rw [Hr.out]; simp [h6]), e0.trans he⟩
set_option maxRecDepth 8000 in
set_option maxHeartbeats 2000000 in
theorem l12Count_c {B B' B2 : Nat} {vs vt vn : Value} {s : List Hd} {t : List It} {l : List Sn} (p : Int) (w : World) (hs : Hds B w vs s) (ht : Its B' w vt t) (hn : Sns B2 w vn l) (h6 : l.length ≤ 6) : Calls Tryz.prog 67 #[.agg #[vs, vt, vn], .int .i64 p] w (Ret (.int .i64 (cntTs p (treesOf t l) : Nat)) w) := by
  have hb0 := cntT_bound p ht
  have HT := Lib.hid ht
  obtain ⟨A, c, rfl, -⟩ := hs
  obtain ⟨A2, c2, rfl, -⟩ := ht
  obtain ⟨A3, c3, rfl, hA⟩ := hn
  have hbs : Hid (∀ k, k ≤ 6 → cntTs p ((l.take k).map Sn.tree) ≤ k * 17592186044416) := Lib.hid fun k => by
    induction k with
    | zero => intro _; exact Nat.zero_le _
    | succ k ih =>
      intro hk
      have h1 := ih (by omega)
      cases hx : l[k]? with
      | none => rw [List.take_add_one, hx, Option.toList_none, List.append_nil]; exact Nat.le_trans h1 (Nat.mul_le_mul_right _ (Nat.le_succ k))
      | some x =>
        obtain ⟨_, _, u, -, -, -, -, hu, -, -⟩ := Sns.at_ hA hx
        have := cntT_bound p hu
        rw [List.take_add_one, hx, Option.toList_some, List.map_append, Nat.add_mul, Nat.one_mul]
        unfold cntTs at h1 ⊢
        rw [List.map_append, List.sum_append]
        refine Nat.add_le_add h1 ?_
        simpa using this
  have e0 : Ext w (w.alloc (.cells #[.slice A s.length c, .slice A2 t.length c2, .slice A3 l.length c3] 40)) := (Ext.refl w).alloc _
  have hbk := Blk.new w 40 #[.slice A s.length c, .slice A2 t.length c2, .slice A3 l.length c3]
  have d2 := fun W (e : Ext _ W) => hbk.at_ (i := 2) (u := .slice A3 l.length c3) rfl W e
  have Ct := l11Count_c p _ (HT.out.ext e0)
  have HA := Lib.hid hA
  clear hbk hA
  generalize hC0 : cntT p t = C0 at *
  have HC0 := Lib.hid hC0; clear hC0
  generalize hnn : l.length = n at *
  have Hn := Lib.hid hnn; clear hnn
  go_enter Tryz.func67, Tryz.ntmps67
  go_wp2_with (go_at_call 102; refine Ct.mono ?_; rintro e w1 ⟨rfl, he1⟩)
  clear Ct
  go_loopw [5, 6] (fun v i wr => ∃ k : Nat, k ≤ n ∧ i = .int .i64 k ∧ v = .int .i64 ((C0 + cntTs p ((l.take k).map Sn.tree) : Nat) : Int) ∧ Ext (w.alloc (.cells #[.slice A s.length c, .slice A2 t.length c2, .slice A3 n c3] 40)) wr) (fun _ i _ => n - (RowKit.intOf i).toNat)
  case atStart => exact ⟨0, by omega, rfl, by simp [cntTs], he1⟩
  case round =>
    obtain ⟨k, hk, rfl, rfl, he⟩ := hrel
    have q2 := d2 wr he
    by_cases hlt : k < n
    · obtain ⟨x, hx⟩ := get_of_lt (l := l) (k := k) (by rw [Hn.out]; exact hlt)
      obtain ⟨b, o, u, rfl, -, -, hns, hu, hc0, hc1⟩ := Sns.at_ HA.out hx
      have a1 := hc1 wr (e0.trans he)
      have Cu := l11Count_c p wr (hu.ext (e0.trans he))
      have hb2 := cntT_bound p hu
      have hb1 := hbs.out k (by omega)
      have Hnx : Hid (cntTs p ((l.take (k + 1)).map Sn.tree) = cntTs p ((l.take k).map Sn.tree) + cntT p x.tree) := Lib.hid (by
        rw [List.take_add_one, hx, Option.toList_some, List.map_append]
        unfold cntTs
        rw [List.map_append, List.sum_append]; simp)
      obtain ⟨Au, cu, rfl, -⟩ := hu
      generalize cntTs p ((l.take k).map Sn.tree) = D at *
      generalize cntT p x.tree = E at *
      have hD : D ≤ 105553116266496 := by omega
      clear hc0 hc1 hx hb1
      go_wp2_with (go_at_call 102; refine Cu.mono ?_; rintro e w2 ⟨rfl, he2⟩)
      go_roundw
      case rel => exact ⟨k + 1, by omega, by go_num, by rw [Hnx.out]; go_num, he.trans he2⟩
      case measure => simp [RowKit.intOf]; omega
    · have hks : k = n := by omega
      subst hks
      have Hr : Hid (C0 + cntTs p ((l.take k).map Sn.tree) = cntTs p (treesOf t l)) := Lib.hid (by rw [List.take_of_length_le (by rw [Hn.out]; exact Nat.le_refl _), treesOf, cntTs_cons, HC0.out])
      generalize C0 + cntTs p ((l.take k).map Sn.tree) = D at *
      go_wp2
      go_ret
      exact ⟨by rw [← Hr.out]; rfl, e0.trans he⟩
end Go.Sf
