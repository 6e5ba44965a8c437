/- Paths within others and paths moved: the reference's and the program's. -/
import Derived.Test.YtbdgpbakhjpklaaGreatDoorGE
import Derived.Test.YtbdgpbakhjpklaaGreatDoorGI
import Derived.Test.YtbdgpbakhjpklaaGreatDoorGD
/-! Paths within others and paths moved: the reference's and the program's. -/
namespace Go.Sf
open Go Go.RowKit Go.Proofs
theorem emp_iff {s : ByteArray} : s.toList = [] ↔ bl s = [] := by
  rw [ByteArray.toList_eq]; exact Iff.rfl
theorem emp_false {s : ByteArray} (h : bl s ≠ []) : s.toList.isEmpty = false := by
  cases hs : s.toList with
  | nil => exact absurd (emp_iff.1 hs) h
  | cons _ _ => rfl
theorem within_emp {p d : ByteArray} (h : bl d = []) : within p d = true := by unfold within; simp [h]
theorem within_eq {p d : ByteArray} (h : p = d) : within p d = true := by unfold within; simp [h]
theorem bl_push (d : ByteArray) : bl (d ++ (⟨#[47]⟩ : ByteArray)) = bl d ++ [47] := by rw [bl_app]; rfl
/-- the third way of lying within, byte by byte -/
theorem within_long {p d : ByteArray} (h0 : bl d ≠ []) (h1 : p ≠ d) : within p d = true ↔ d.size < p.size ∧ p.extract 0 d.size = d ∧ (bl p)[d.size]? = some 47 := by
  unfold within
  rw [decide_eq_true_eq]
  constructor
  · rintro (h | h | ⟨r, h⟩)
    · exact absurd h h0
    · exact absurd h h1
    · have hl : (bl p).length = (bl d).length + 1 + r.length := by rw [← h]; simp; omega
      rw [bl_length, bl_length] at hl
      refine ⟨by omega, bl_inj ?_, ?_⟩
      · rw [bl_extract, List.drop_zero, ← h, List.append_assoc, ← bl_length d, List.take_left]
      · rw [← h, List.append_assoc, ← bl_length d, List.getElem?_append_right (Nat.le_refl _), Nat.sub_self]; rfl
  · rintro ⟨h2, h3, h4⟩
    refine .inr (.inr ⟨(bl p).drop (d.size + 1), ?_⟩)
    have h5 : (bl p).take d.size = bl d := by
      have := congrArg bl h3
      rw [bl_extract, List.drop_zero] at this
      exact this
    conv => rhs; rw [← List.take_append_drop d.size (bl p)]
    rw [h5, List.append_assoc]
    congr 1
    have hl : d.size < (bl p).length := by rw [bl_length]; exact h2
    rw [List.drop_eq_getElem_cons hl]
    rw [List.getElem?_eq_getElem hl] at h4
    rw [Option.some.inj h4]; rfl
set_option maxHeartbeats 1000000 in
theorem l1Within_c (p d : ByteArray) (w : World) (_hp : p.size < lim) (hd : d.size < lim) : Calls Tryz.prog 55 #[.string p, .string d] w (Ret (.bool (within p d)) w) := by
  unfold lim at hd
  by_cases h0 : bl d = []
  · have h0' : d.toList.isEmpty = true := by rw [emp_iff.2 h0]; rfl
    have Hr := Lib.hid (within_emp (p := p) h0)
    clear h0
    go_enter Tryz.func55, Tryz.ntmps55
    go_wp2
    go_ret
    exact ⟨ret_b Hr.out.symm, Ext.refl w⟩
  by_cases h1 : p = d
  · have h0' : d.toList.isEmpty = false := emp_false h0
    have Hr := Lib.hid (within_eq h1)
    subst h1
    clear h0
    go_enter Tryz.func55, Tryz.ntmps55
    go_wp2
    go_ret
    exact ⟨ret_b Hr.out.symm, Ext.refl w⟩
  have Hr := Lib.hid (within_long h0 h1)
  have h0' : d.toList.isEmpty = false := emp_false h0
  have h1' : (p.toList == d.toList) = false := by rw [bytes_ne_iff, decide_eq_false_iff_not]; exact h1
  clear h0 h1
  by_cases h2 : d.size < p.size
  · have h2' : (d.size : Int) < (p.size : Int) := by omega
    obtain ⟨c, hc⟩ : ∃ c, (bl p)[d.size]? = some c := ⟨_, bl_get p h2⟩
    go_enter Tryz.func55, Tryz.ntmps55
    have hcc : p[d.size] = c := by
      rw [bl_get p h2] at hc; exact Option.some.inj hc
    go_wp2
    · have he : p.extract 0 d.size = d := bytes_inj.1 (by assumption)
      go_ret
      refine ⟨ret_b ?_, Ext.refl w⟩
      rw [Bool.eq_iff_iff, Hr.out, beq_iff_eq]
      simp only [he, hc, h2, true_and, Option.some.injEq]
      constructor
      · intro h; exact UInt8.toNat_inj.1 (by have : c.toNat = 47 := by omega
                                             exact this)
      · rintro rfl; rfl
    · have he : p.extract 0 d.size ≠ d := fun e => absurd (bytes_inj.2 e) (by assumption)
      go_ret
      refine ⟨ret_b ?_, Ext.refl w⟩
      cases hw : within p d with
      | false => rfl
      | true => exact absurd (Hr.out.1 hw).2.1 he
  · have h2' : ¬ (d.size : Int) < (p.size : Int) := by omega
    have Hw : Hid (within p d = false) := Lib.hid (by
      cases hw : within p d with
      | false => rfl
      | true => exact absurd (Hr.out.1 hw).1 h2)
    clear h2
    go_enter Tryz.func55, Tryz.ntmps55
    go_wp2
    go_ret
    exact ⟨ret_b Hw.out.symm, Ext.refl w⟩
theorem bv {b c : Bool} (h : b = c) : Value.bool b = .bool c := by rw [h]
/-- the answer of a move of a path -/
def pmV (o : Option ByteArray) : Value := .tuple #[.string (o.getD ⟨#[]⟩), .bool o.isSome]
theorem pmove_no {p f t : ByteArray} (h : ¬ (pathOk p = true ∧ pathOk f = true ∧ pathOk t = true ∧ within p f = true)) : pmove p f t = none := if_neg h
theorem ret_pm {o o' : Option ByteArray} (h : o = o') : Ending.returned (pmV o) = .returned (pmV o') := by rw [h]
set_option maxHeartbeats 1000000 in
theorem specPathMove_c (p f t : ByteArray) (w : World) (hp : p.size < lim) (hf : f.size < lim) (ht : t.size < lim) : Calls Tryz.prog 92 #[.string p, .string f, .string t] w (Ret (pmV (pmove p f t)) w) := by
  have Cp : ∀ W, Calls Tryz.prog 90 #[.string p] W (Ret (.bool (pathOk p)) W) := fun W => specPathValid_c p W hp
  have Cf : ∀ W, Calls Tryz.prog 90 #[.string f] W (Ret (.bool (pathOk f)) W) := fun W => specPathValid_c f W hf
  have Ct : ∀ W, Calls Tryz.prog 90 #[.string t] W (Ret (.bool (pathOk t)) W) := fun W => specPathValid_c t W ht
  have Cw : ∀ W, Calls Tryz.prog 55 #[.string p, .string f] W (Ret (.bool (within p f)) W) := fun W => l1Within_c p f W hp hf
  unfold lim at hp hf ht
  cases h1 : pathOk p with
  | false =>
    rw [h1] at Cp
    have Hn := Lib.hid (pmove_no (p := p) (f := f) (t := t) fun h => by rw [h1] at h; cases h.1)
    go_enter Tryz.func92, Tryz.ntmps92
    go_wp2_with fail
    refine (Cp _).mono ?_; rintro e w1 ⟨rfl, he1⟩
    go_wp2
    go_ret2
    exact ⟨ret_pm Hn.out.symm, he1⟩
  | true =>
  rw [h1] at Cp
  cases h2 : pathOk f with
  | false =>
    rw [h2] at Cf
    have Hn := Lib.hid (pmove_no (p := p) (f := f) (t := t) fun h => by rw [h2] at h; cases h.2.1)
    go_enter Tryz.func92, Tryz.ntmps92
    go_wp2_with fail
    refine (Cp _).mono ?_; rintro e w1 ⟨rfl, he1⟩
    go_wp2_with fail
    refine (Cf _).mono ?_; rintro e w2 ⟨rfl, he2⟩
    go_wp2
    go_ret2
    exact ⟨ret_pm Hn.out.symm, he1.trans he2⟩
  | true =>
  rw [h2] at Cf
  cases h3 : pathOk t with
  | false =>
    rw [h3] at Ct
    have Hn := Lib.hid (pmove_no (p := p) (f := f) (t := t) fun h => by rw [h3] at h; cases h.2.2.1)
    go_enter Tryz.func92, Tryz.ntmps92
    go_wp2_with fail
    refine (Cp _).mono ?_; rintro e w1 ⟨rfl, he1⟩
    go_wp2_with fail
    refine (Cf _).mono ?_; rintro e w2 ⟨rfl, he2⟩
    go_wp2_with fail
    refine (Ct _).mono ?_; rintro e w3 ⟨rfl, he3⟩
    go_wp2
    go_ret2
    exact ⟨ret_pm Hn.out.symm, (he1.trans he2).trans he3⟩
  | true =>
  rw [h3] at Ct
  cases h4 : within p f with
  | false =>
    rw [h4] at Cw
    have Hn := Lib.hid (pmove_no (p := p) (f := f) (t := t) fun h => by rw [h4] at h; cases h.2.2.2)
    go_enter Tryz.func92, Tryz.ntmps92
    go_wp2_with fail
    refine (Cp _).mono ?_; rintro e w1 ⟨rfl, he1⟩
    go_wp2_with fail
    refine (Cf _).mono ?_; rintro e w2 ⟨rfl, he2⟩
    go_wp2_with fail
    refine (Ct _).mono ?_; rintro e w3 ⟨rfl, he3⟩
    go_wp2_with fail
    refine (Cw _).mono ?_; rintro e w4 ⟨rfl, he4⟩
    go_wp2
    go_ret2
    exact ⟨ret_pm Hn.out.symm, ((he1.trans he2).trans he3).trans he4⟩
  | true =>
  rw [h4] at Cw
  have hle : f.size ≤ p.size := by
    obtain ⟨ws, hws⟩ := (within_key h2).1 h4
    by_cases hn : ws = []
    · subst hn
      rw [List.append_nil] at hws
      rw [bl_inj (cut_inj hws)]; exact Nat.le_refl _
    · have hp' : bl p = bl f ++ 47 :: joinS ws := by rw [← joinS_cut (bl p), ← hws, joinS_app _ _ (cut_ne _) hn, joinS_cut]
      have := congrArg List.length hp'
      rw [bl_length, List.length_append, bl_length] at this
      omega
  have hlen1 := pathOk_len h1
  have hlen3 := pathOk_len h3
  have Hm : Hid (pmove p f t = if pathOk (t ++ p.extract f.size p.size) = true then some (t ++ p.extract f.size p.size) else none) := Lib.hid (if_pos ⟨h1, h2, h3, h4⟩)
  have hxs : (p.extract f.size p.size).size = p.size - f.size := by simp
  have hsz : (t ++ p.extract f.size p.size).size < lim := by rw [ByteArray.size_append, hxs]; unfold lim; omega
  have Co : ∀ W, Calls Tryz.prog 90 #[.string (t ++ p.extract f.size p.size)] W (Ret (.bool (pathOk (t ++ p.extract f.size p.size))) W) := fun W => specPathValid_c _ W hsz
  clear h1 h2 h3 h4
  cases h5 : pathOk (t ++ p.extract f.size p.size) with
  | false =>
    rw [h5] at Co
    rw [h5] at Hm
    have Hn : Hid (pmove p f t = none) := Lib.hid (Hm.out.trans (if_neg (by simp)))
    clear h5 Hm
    go_enter Tryz.func92, Tryz.ntmps92
    go_wp2_with fail
    refine (Cp _).mono ?_; rintro e w1 ⟨rfl, he1⟩
    go_wp2_with fail
    refine (Cf _).mono ?_; rintro e w2 ⟨rfl, he2⟩
    go_wp2_with fail
    refine (Ct _).mono ?_; rintro e w3 ⟨rfl, he3⟩
    go_wp2_with fail
    refine (Cw _).mono ?_; rintro e w4 ⟨rfl, he4⟩
    go_wp2_with fail
    refine (Co _).mono ?_; rintro e w5 ⟨rfl, he5⟩
    go_wp2
    go_ret2
    exact ⟨ret_pm Hn.out.symm, (((he1.trans he2).trans he3).trans he4).trans he5⟩
  | true =>
    rw [h5] at Co
    rw [h5] at Hm
    have Hn : Hid (pmove p f t = some (t ++ p.extract f.size p.size)) := Lib.hid (Hm.out.trans (if_pos rfl))
    clear h5 Hm
    go_enter Tryz.func92, Tryz.ntmps92
    go_wp2_with fail
    refine (Cp _).mono ?_; rintro e w1 ⟨rfl, he1⟩
    go_wp2_with fail
    refine (Cf _).mono ?_; rintro e w2 ⟨rfl, he2⟩
    go_wp2_with fail
    refine (Ct _).mono ?_; rintro e w3 ⟨rfl, he3⟩
    go_wp2_with fail
    refine (Cw _).mono ?_; rintro e w4 ⟨rfl, he4⟩
    go_wp2_with fail
    refine (Co _).mono ?_; rintro e w5 ⟨rfl, he5⟩
    go_wp2
    go_ret2
    exact ⟨ret_pm Hn.out.symm, (((he1.trans he2).trans he3).trans he4).trans he5⟩
end Go.Sf

/-! The reference puts an item into a tree. -/
namespace Go.Sf
open Go Go.RowKit Go.Proofs
def neP (x y : It) : Bool := !eqb y.path x.path
def restPut (x : It) (b : Bool) (l : List It) : List It := if b = true then l.filter (neP x) else putIt x l
theorem restPut_before {x y : It} {r : List It} (h : blt y.path x.path = true) : restPut x false (y :: r) = y :: restPut x false r := by
  simp [restPut, putIt, h]
theorem restPut_at {x y : It} {r : List It} (h : blt y.path x.path = false) : restPut x false (y :: r) = x :: restPut x true (y :: r) := by
  simp only [restPut, putIt]
  rw [if_neg (by simp), if_neg (by simp [h]), if_true]; rfl
theorem restPut_skip {x y : It} {r : List It} (h : y.path = x.path) : restPut x true (y :: r) = restPut x true r := by
  simp only [restPut, if_true]
  rw [List.filter_cons_of_neg (by rw [neP, eqb_true.2 h]; simp)]
theorem restPut_keep {x y : It} {r : List It} (h : y.path ≠ x.path) : restPut x true (y :: r) = y :: restPut x true r := by
  simp only [restPut, if_true]
  rw [List.filter_cons_of_pos (by rw [neP, eqb_false.2 h]; rfl)]
def PutRel (w w0 : World) (x : It) (l : List It) (n : Nat) (v d i : Value) (wr : World) : Prop :=
  ∃ (k : Nat) (bd : Bool) (out : List It), k ≤ n ∧ i = .int .i64 k ∧ d = .bool bd ∧ Ext w0 wr ∧ OwnS w0.heap.size 32 3 (EIt w.heap.size) wr v out ∧ (out.length ≤ k + 1 ∧ (bd = false → out.length ≤ k)) ∧ Hid (out ++ restPut x bd (l.drop k) = putIt x l)
set_option maxRecDepth 8000 in
set_option maxHeartbeats 2000000 in
theorem l5Put_c {B B' : Nat} {v xv : Value} {l : List It} {x : It} (w : World) (h : Its B w v l) (hx : ItV B' w xv x) (hlen : l.length + 1 < lim) :
    Calls Tryz.prog 93 #[v, xv] w (RetP (fun v' w' => OwnS w.heap.size 32 3 (EIt w.heap.size) w' v' (putIt x l)) w) := by
  obtain ⟨A, c, rfl, hA⟩ := h
  have HXV := Lib.hid hx
  obtain ⟨ux, rfl, hpx, hux⟩ := hx
  have hul := hux.len
  obtain ⟨Ax, cx, rfl, hAx⟩ := hux
  unfold lim at hlen
  have hex : ∃ n, l.length = n := ⟨_, rfl⟩
  obtain ⟨n, hn⟩ := hex
  rw [hn] at hlen ⊢
  have Hn := Lib.hid hn
  have HA := Lib.hid hA
  have hbx := Blk.new w 32 #[.string x.path, .bool x.dir, .slice Ax x.ids.length cx]
  have hw0 : ∃ w0, w0 = w.alloc (.cells #[.string x.path, .bool x.dir, .slice Ax x.ids.length cx] 32) := ⟨_, rfl⟩
  obtain ⟨w0, hw0⟩ := hw0
  have hs0 : w.heap.size + 1 = w0.heap.size := by rw [hw0]; simp
  have e0 : Ext w w0 := by rw [hw0]; exact (Ext.refl w).alloc _
  rw [← hw0] at hbx
  have E0 := Lib.hid e0; have Hs0 := Lib.hid hs0
  have HBX := Lib.hid hbx
  clear hA hn hAx e0 hbx hs0
  go_enter Tryz.func93, Tryz.ntmps93
  go_wp2
  rw [← hw0]
  clear hw0
  go_loopw [5, 6, 7] (fun v d i wr => PutRel w w0 x l n v d i wr) (fun _ _ i _ => n - (intOf i).toNat)
  case atStart => exact ⟨0, false, [], by omega, rfl, rfl, (Ext.refl w0).alloc _, OwnS.lit _ _ _ _ (Nat.le_refl _) Hs0.out, ⟨by simp, fun _ => by simp⟩, Lib.hid rfl⟩
  case round =>
    obtain ⟨k, bd, out, hk, rfl, rfl, he, hO, ⟨hol, hol2⟩, hrest⟩ := hrel
    have HO := Lib.hid hO; clear hO
    have HXc : Hid (∀ W, Ext w0 W → W.cell? ⟨w.heap.size, 0, none⟩ = some (.string x.path) ∧ W.cell? ⟨w.heap.size, 1, none⟩ = some (.bool x.dir) ∧ W.cell? ⟨w.heap.size, 2, none⟩ = some (.slice Ax x.ids.length cx)) := Lib.hid fun W e => ⟨HBX.out.at_ rfl W e, HBX.out.at_ rfl W e, HBX.out.at_ rfl W e⟩
    have HX : Hid (∀ W, Ext w0 W → ItV B' W (.agg #[.string x.path, .bool x.dir, .slice Ax x.ids.length cx]) x) := Lib.hid fun W e => HXV.out.ext (E0.out.trans e)
    by_cases hlt : k < n
    · obtain ⟨y, hy⟩ := get_of_lt (l := l) (k := k) (by rw [Hn.out]; exact hlt)
      obtain ⟨b, o, u2, rfl, -, -, hpy, ⟨Ay, cy, rfl, huy⟩, hc0, hc1, hc2⟩ := Its.at_ HA.out hy
      have HYc : Hid (∀ W, Ext w0 W → W.cell? ⟨b, o + k * 3, none⟩ = some (.string y.path) ∧ W.cell? ⟨b, o + k * 3 + 1, none⟩ = some (.bool y.dir) ∧ W.cell? ⟨b, o + k * 3 + 2, none⟩ = some (.slice Ay y.ids.length cy)) := Lib.hid fun W e => ⟨hc0 W (E0.out.trans e), hc1 W (E0.out.trans e), hc2 W (E0.out.trans e)⟩
      have HY : Hid (∀ W, Ext w0 W → ItV B W (.agg #[.string y.path, .bool y.dir, .slice Ay y.ids.length cy]) y) := Lib.hid fun W e => ⟨_, rfl, hpy, Ints.ext (show Ints B w _ _ from ⟨_, _, rfl, huy⟩) (E0.out.trans e)⟩
      have hd := drop_cons hy
      rw [hd] at hrest
      clear hc0 hc1 hc2 huy hy hd hpy
      cases bd with
      | true =>
        by_cases hyx : y.path = x.path
        · have hbe : (y.path.toList == x.path.toList) = true := by rw [hyx]; simp
          rw [restPut_skip hyx] at hrest
          have Hr := hrest
          clear hyx hrest
          have y0 := fun W (e : Ext wr W) => (HYc.out W (he.trans e)).1
          have y1 := fun W (e : Ext wr W) => (HYc.out W (he.trans e)).2.1
          have y2 := fun W (e : Ext wr W) => (HYc.out W (he.trans e)).2.2
          have x0 := fun W (e : Ext wr W) => (HXc.out W (he.trans e)).1
          have x1 := fun W (e : Ext wr W) => (HXc.out W (he.trans e)).2.1
          have x2 := fun W (e : Ext wr W) => (HXc.out W (he.trans e)).2.2
          go_wp2
          refine wp_region_ext (by kernel_rfl) (by kernel_rfl) ?_
          repeat (first | (apply q_plain rfl; (· intro W eW; go_simp; (first | done | rfl | (rw [if_pos] <;> first | omega | rfl))); (try simp only [Act.put, List.setIfInBounds_toArray, List.set_cons_zero, List.set_cons_succ])) | (refine qg_skip (by rfl) ?_; (try simp only [Act.put, List.setIfInBounds_toArray, List.set_cons_zero, List.set_cons_succ])) | (apply qg_plain (by rfl); (· intro W eW; go_simp; (first | done | rfl | (rw [if_pos] <;> first | omega | rfl))); (try simp only [Act.put, List.setIfInBounds_toArray, List.set_cons_zero, List.set_cons_succ])))
          refine q_nil ?_
          intro w2 e2
          clear y0 y1 y2 x0 x1 x2
          have h2 := he.trans e2
          have y0 := fun W (e : Ext w2 W) => (HYc.out W (h2.trans e)).1
          have y1 := fun W (e : Ext w2 W) => (HYc.out W (h2.trans e)).2.1
          have y2 := fun W (e : Ext w2 W) => (HYc.out W (h2.trans e)).2.2
          have x0 := fun W (e : Ext w2 W) => (HXc.out W (h2.trans e)).1
          have x1 := fun W (e : Ext w2 W) => (HXc.out W (h2.trans e)).2.1
          have x2 := fun W (e : Ext w2 W) => (HXc.out W (h2.trans e)).2.2
          go_wp2
          refine wp_region_ext (by kernel_rfl) (by kernel_rfl) ?_
          repeat (first | (apply q_plain rfl; (· intro W eW; go_simp; (first | done | rfl | (rw [if_pos] <;> first | omega | rfl))); (try simp only [Act.put, List.setIfInBounds_toArray, List.set_cons_zero, List.set_cons_succ])) | (refine qg_skip (by rfl) ?_; (try simp only [Act.put, List.setIfInBounds_toArray, List.set_cons_zero, List.set_cons_succ])) | (apply qg_plain (by rfl); (· intro W eW; go_simp; (first | done | rfl | (rw [if_pos] <;> first | omega | rfl))); (try simp only [Act.put, List.setIfInBounds_toArray, List.set_cons_zero, List.set_cons_succ])))
          refine q_nil ?_
          intro w3 e3
          clear y0 y1 y2 x0 x1 x2
          have h3 := h2.trans e3
          go_wp2
          go_roundw
          case rel => exact ⟨k + 1, true, out, by omega, by go_num, rfl, h3, HO.out.ext (EIt_ok _) (e2.trans e3), ⟨by omega, fun h => by cases h⟩, Lib.hid (by simpa using Hr.out)⟩
          case measure => simp [intOf]; omega
        · have hbe : (y.path.toList == x.path.toList) = false := by rw [bytes_ne_iff, decide_eq_false_iff_not]; exact hyx
          rw [restPut_keep hyx] at hrest
          have Hr := hrest
          clear hyx hrest
          have y0 := fun W (e : Ext wr W) => (HYc.out W (he.trans e)).1
          have y1 := fun W (e : Ext wr W) => (HYc.out W (he.trans e)).2.1
          have y2 := fun W (e : Ext wr W) => (HYc.out W (he.trans e)).2.2
          have x0 := fun W (e : Ext wr W) => (HXc.out W (he.trans e)).1
          have x1 := fun W (e : Ext wr W) => (HXc.out W (he.trans e)).2.1
          have x2 := fun W (e : Ext wr W) => (HXc.out W (he.trans e)).2.2
          go_wp2
          refine wp_region_ext (by kernel_rfl) (by kernel_rfl) ?_
          repeat (first | (apply q_plain rfl; (· intro W eW; go_simp; (first | done | rfl | (rw [if_pos] <;> first | omega | rfl))); (try simp only [Act.put, List.setIfInBounds_toArray, List.set_cons_zero, List.set_cons_succ])) | (refine qg_skip (by rfl) ?_; (try simp only [Act.put, List.setIfInBounds_toArray, List.set_cons_zero, List.set_cons_succ])) | (apply qg_plain (by rfl); (· intro W eW; go_simp; (first | done | rfl | (rw [if_pos] <;> first | omega | rfl))); (try simp only [Act.put, List.setIfInBounds_toArray, List.set_cons_zero, List.set_cons_succ])))
          refine q_nil ?_
          intro w2 e2
          clear y0 y1 y2 x0 x1 x2
          have h2 := he.trans e2
          have y0 := fun W (e : Ext w2 W) => (HYc.out W (h2.trans e)).1
          have y1 := fun W (e : Ext w2 W) => (HYc.out W (h2.trans e)).2.1
          have y2 := fun W (e : Ext w2 W) => (HYc.out W (h2.trans e)).2.2
          have x0 := fun W (e : Ext w2 W) => (HXc.out W (h2.trans e)).1
          have x1 := fun W (e : Ext w2 W) => (HXc.out W (h2.trans e)).2.1
          have x2 := fun W (e : Ext w2 W) => (HXc.out W (h2.trans e)).2.2
          go_wp2
          refine wp_region_ext (by kernel_rfl) (by kernel_rfl) ?_
          repeat (first | (apply q_plain rfl; (· intro W eW; go_simp; (first | done | rfl | (rw [if_pos] <;> first | omega | rfl))); (try simp only [Act.put, List.setIfInBounds_toArray, List.set_cons_zero, List.set_cons_succ])) | (refine qg_skip (by rfl) ?_; (try simp only [Act.put, List.setIfInBounds_toArray, List.set_cons_zero, List.set_cons_succ])) | (apply qg_plain (by rfl); (· intro W eW; go_simp; (first | done | rfl | (rw [if_pos] <;> first | omega | rfl))); (try simp only [Act.put, List.setIfInBounds_toArray, List.set_cons_zero, List.set_cons_succ])))
          refine q_nil ?_
          intro w3 e3
          clear y0 y1 y2 x0 x1 x2
          have h3 := h2.trans e3
          have HOa := Lib.hid (HO.out.ext (EIt_ok _) (e2.trans e3))
          have q0 := (HYc.out w3 h3).1
          have q1 := (HYc.out w3 h3).2.1
          have q2 := (HYc.out w3 h3).2.2
          go_wp2_with (first | (go_at_call 68; refine (l5Copy_c (x := y) _ (HY.out _ h3)).mono ?_; rintro e wca ⟨v3, rfl, ⟨u9, rfl, hps', hu'⟩, he3⟩; have he4 := h3.trans he3; have HO2 := Lib.hid (HOa.out.ext (EIt_ok _) he3); have Hu2 := Lib.hid (hu'.keep (Ext.size (E0.out.trans h3)) (fun _ _ _ => rfl)); clear hu' q0 q1 q2) | (at_builtin; go_must (refine wp_ap1 (w0 := w0) (by rfl) _ _ (by rfl) el_It (EIt_ok _) he4 _ out [y] (by rfl) HO2.out 1 1 rfl #[.string y.path, .bool y.dir, u9] _ (by rfl) (by first | rfl | simp) rfl (one3 Hu2.out.one) (one_E (eit_of_v hps' Hu2.out)) ?_ ?_)))
          · simp; unfold lim; omega
          · intro v' w' hO' he' _
            have HO' := Lib.hid hO'; have HE' := Lib.hid he'
            clear hO' he' he3 he4
            go_wp2
            go_roundw
            case rel => exact ⟨k + 1, true, _, by omega, by go_num, rfl, HE'.out, HO'.out, ⟨by simp; omega, fun h => by cases h⟩, Lib.hid (by simpa using Hr.out)⟩
            case measure => simp [intOf]; omega
      | false =>
        have hol3 := hol2 rfl
        cases hb : blt y.path x.path with
        | true =>
          have hb2 : Op.bytesLess y.path.toList x.path.toList = true := hb
          have hbe : (y.path.toList == x.path.toList) = false := by rw [bytes_ne_iff, decide_eq_false_iff_not]; exact fun e => by rw [e, blt_irrefl] at hb; cases hb
          rw [restPut_before hb] at hrest
          have Hr := hrest
          clear hb hrest
          have y0 := fun W (e : Ext wr W) => (HYc.out W (he.trans e)).1
          have y1 := fun W (e : Ext wr W) => (HYc.out W (he.trans e)).2.1
          have y2 := fun W (e : Ext wr W) => (HYc.out W (he.trans e)).2.2
          have x0 := fun W (e : Ext wr W) => (HXc.out W (he.trans e)).1
          have x1 := fun W (e : Ext wr W) => (HXc.out W (he.trans e)).2.1
          have x2 := fun W (e : Ext wr W) => (HXc.out W (he.trans e)).2.2
          go_wp2
          refine wp_region_ext (by kernel_rfl) (by kernel_rfl) ?_
          repeat (first | (apply q_plain rfl; (· intro W eW; go_simp; (first | done | rfl | (rw [if_pos] <;> first | omega | rfl))); (try simp only [Act.put, List.setIfInBounds_toArray, List.set_cons_zero, List.set_cons_succ])) | (refine qg_skip (by rfl) ?_; (try simp only [Act.put, List.setIfInBounds_toArray, List.set_cons_zero, List.set_cons_succ])) | (apply qg_plain (by rfl); (· intro W eW; go_simp; (first | done | rfl | (rw [if_pos] <;> first | omega | rfl))); (try simp only [Act.put, List.setIfInBounds_toArray, List.set_cons_zero, List.set_cons_succ])))
          refine q_nil ?_
          intro w2 e2
          clear y0 y1 y2 x0 x1 x2
          have h2 := he.trans e2
          have y0 := fun W (e : Ext w2 W) => (HYc.out W (h2.trans e)).1
          have y1 := fun W (e : Ext w2 W) => (HYc.out W (h2.trans e)).2.1
          have y2 := fun W (e : Ext w2 W) => (HYc.out W (h2.trans e)).2.2
          have x0 := fun W (e : Ext w2 W) => (HXc.out W (h2.trans e)).1
          have x1 := fun W (e : Ext w2 W) => (HXc.out W (h2.trans e)).2.1
          have x2 := fun W (e : Ext w2 W) => (HXc.out W (h2.trans e)).2.2
          go_wp2
          refine wp_region_ext (by kernel_rfl) (by kernel_rfl) ?_
          repeat (first | (apply q_plain rfl; (· intro W eW; go_simp; (first | done | rfl | (rw [if_pos] <;> first | omega | rfl))); (try simp only [Act.put, List.setIfInBounds_toArray, List.set_cons_zero, List.set_cons_succ])) | (refine qg_skip (by rfl) ?_; (try simp only [Act.put, List.setIfInBounds_toArray, List.set_cons_zero, List.set_cons_succ])) | (apply qg_plain (by rfl); (· intro W eW; go_simp; (first | done | rfl | (rw [if_pos] <;> first | omega | rfl))); (try simp only [Act.put, List.setIfInBounds_toArray, List.set_cons_zero, List.set_cons_succ])))
          refine q_nil ?_
          intro w3 e3
          clear y0 y1 y2 x0 x1 x2
          have h3 := h2.trans e3
          have HOa := Lib.hid (HO.out.ext (EIt_ok _) (e2.trans e3))
          have q0 := (HYc.out w3 h3).1
          have q1 := (HYc.out w3 h3).2.1
          have q2 := (HYc.out w3 h3).2.2
          go_wp2_with (first | (go_at_call 68; refine (l5Copy_c (x := y) _ (HY.out _ h3)).mono ?_; rintro e wca ⟨v3, rfl, ⟨u9, rfl, hps', hu'⟩, he3⟩; have he4 := h3.trans he3; have HO2 := Lib.hid (HOa.out.ext (EIt_ok _) he3); have Hu2 := Lib.hid (hu'.keep (Ext.size (E0.out.trans h3)) (fun _ _ _ => rfl)); clear hu' q0 q1 q2) | (at_builtin; go_must (refine wp_ap1 (w0 := w0) (by rfl) _ _ (by rfl) el_It (EIt_ok _) he4 _ out [y] (by rfl) HO2.out 1 1 rfl #[.string y.path, .bool y.dir, u9] _ (by rfl) (by first | rfl | simp) rfl (one3 Hu2.out.one) (one_E (eit_of_v hps' Hu2.out)) ?_ ?_)))
          · simp; unfold lim; omega
          · intro v' w' hO' he' _
            have HO' := Lib.hid hO'; have HE' := Lib.hid he'
            clear hO' he' he3 he4
            go_wp2
            go_roundw
            case rel => exact ⟨k + 1, false, _, by omega, by go_num, rfl, HE'.out, HO'.out, ⟨by simp; omega, fun _ => by simp; omega⟩, Lib.hid (by simpa using Hr.out)⟩
            case measure => simp [intOf]; omega
        | false =>
          have hb2 : Op.bytesLess y.path.toList x.path.toList = false := hb
          rw [restPut_at hb] at hrest
          have Hr0 := hrest
          clear hb hrest
          have y0 := fun W (e : Ext wr W) => (HYc.out W (he.trans e)).1
          have y1 := fun W (e : Ext wr W) => (HYc.out W (he.trans e)).2.1
          have y2 := fun W (e : Ext wr W) => (HYc.out W (he.trans e)).2.2
          have x0 := fun W (e : Ext wr W) => (HXc.out W (he.trans e)).1
          have x1 := fun W (e : Ext wr W) => (HXc.out W (he.trans e)).2.1
          have x2 := fun W (e : Ext wr W) => (HXc.out W (he.trans e)).2.2
          go_wp2
          refine wp_region_ext (by kernel_rfl) (by kernel_rfl) ?_
          repeat (first | (apply q_plain rfl; (· intro W eW; go_simp; (first | done | rfl | (rw [if_pos] <;> first | omega | rfl))); (try simp only [Act.put, List.setIfInBounds_toArray, List.set_cons_zero, List.set_cons_succ])) | (refine qg_skip (by rfl) ?_; (try simp only [Act.put, List.setIfInBounds_toArray, List.set_cons_zero, List.set_cons_succ])) | (apply qg_plain (by rfl); (· intro W eW; go_simp; (first | done | rfl | (rw [if_pos] <;> first | omega | rfl))); (try simp only [Act.put, List.setIfInBounds_toArray, List.set_cons_zero, List.set_cons_succ])))
          refine q_nil ?_
          intro w2 e2
          clear y0 y1 y2 x0 x1 x2
          have h2 := he.trans e2
          have HOa := Lib.hid (HO.out.ext (EIt_ok _) e2)
          have q0 := (HXc.out w2 h2).1
          have q1 := (HXc.out w2 h2).2.1
          have q2 := (HXc.out w2 h2).2.2
          go_wp2_with (first | (go_at_call 68; refine (l5Copy_c (x := x) _ (HX.out _ h2)).mono ?_; rintro e wca ⟨v3, rfl, ⟨u9, rfl, hps', hu'⟩, he3⟩; have he4 := h2.trans he3; have HO2 := Lib.hid (HOa.out.ext (EIt_ok _) he3); have Hu2 := Lib.hid (hu'.keep (Ext.size (E0.out.trans h2)) (fun _ _ _ => rfl)); clear hu' q0 q1 q2) | (at_builtin; go_must (refine wp_ap1 (w0 := w0) (by rfl) _ _ (by rfl) el_It (EIt_ok _) he4 _ out [x] (by rfl) HO2.out 1 1 rfl #[.string x.path, .bool x.dir, u9] _ (by rfl) (by first | rfl | simp) rfl (one3 Hu2.out.one) (one_E (eit_of_v hps' Hu2.out)) ?_ ?_)))
          · simp; unfold lim; omega
          · intro v' w' hO' he' _
            have HO' := Lib.hid hO'
            clear hO' he3 he4
            obtain ⟨A', c', rfl⟩ := HO'.out.form
            have HO1 := HO'.out
            rw [show (out ++ [x]).length = out.length + 1 by simp] at HO1 ⊢
            have HO' := Lib.hid HO1
            clear HO1
            by_cases hyx : y.path = x.path
            · have hbe : (y.path.toList == x.path.toList) = true := by rw [hyx]; simp
              rw [restPut_skip hyx] at Hr0
              have Hr := Hr0
              clear hyx Hr0
              have y0 := fun W (e : Ext w' W) => (HYc.out W (he'.trans e)).1
              have y1 := fun W (e : Ext w' W) => (HYc.out W (he'.trans e)).2.1
              have y2 := fun W (e : Ext w' W) => (HYc.out W (he'.trans e)).2.2
              have x0 := fun W (e : Ext w' W) => (HXc.out W (he'.trans e)).1
              have x1 := fun W (e : Ext w' W) => (HXc.out W (he'.trans e)).2.1
              have x2 := fun W (e : Ext w' W) => (HXc.out W (he'.trans e)).2.2
              go_wp2
              refine wp_region_ext (by kernel_rfl) (by kernel_rfl) ?_
              repeat (first | (apply q_plain rfl; (· intro W eW; go_simp; (first | done | rfl | (rw [if_pos] <;> first | omega | rfl))); (try simp only [Act.put, List.setIfInBounds_toArray, List.set_cons_zero, List.set_cons_succ])) | (refine qg_skip (by rfl) ?_; (try simp only [Act.put, List.setIfInBounds_toArray, List.set_cons_zero, List.set_cons_succ])) | (apply qg_plain (by rfl); (· intro W eW; go_simp; (first | done | rfl | (rw [if_pos] <;> first | omega | rfl))); (try simp only [Act.put, List.setIfInBounds_toArray, List.set_cons_zero, List.set_cons_succ])))
              refine q_nil ?_
              intro w3 e3
              clear y0 y1 y2 x0 x1 x2
              have h3 := he'.trans e3
              go_wp2
              go_roundw
              case rel => exact ⟨k + 1, true, _, by omega, by go_num, rfl, h3, HO'.out.ext (EIt_ok _) e3, ⟨by simp; omega, fun h => by cases h⟩, Lib.hid (by simpa using Hr.out)⟩
              case measure => simp [intOf]; omega
            · have hbe : (y.path.toList == x.path.toList) = false := by rw [bytes_ne_iff, decide_eq_false_iff_not]; exact hyx
              rw [restPut_keep hyx] at Hr0
              have Hr := Hr0
              clear hyx Hr0
              have y0 := fun W (e : Ext w' W) => (HYc.out W (he'.trans e)).1
              have y1 := fun W (e : Ext w' W) => (HYc.out W (he'.trans e)).2.1
              have y2 := fun W (e : Ext w' W) => (HYc.out W (he'.trans e)).2.2
              have x0 := fun W (e : Ext w' W) => (HXc.out W (he'.trans e)).1
              have x1 := fun W (e : Ext w' W) => (HXc.out W (he'.trans e)).2.1
              have x2 := fun W (e : Ext w' W) => (HXc.out W (he'.trans e)).2.2
              go_wp2
              refine wp_region_ext (by kernel_rfl) (by kernel_rfl) ?_
              repeat (first | (apply q_plain rfl; (· intro W eW; go_simp; (first | done | rfl | (rw [if_pos] <;> first | omega | rfl))); (try simp only [Act.put, List.setIfInBounds_toArray, List.set_cons_zero, List.set_cons_succ])) | (refine qg_skip (by rfl) ?_; (try simp only [Act.put, List.setIfInBounds_toArray, List.set_cons_zero, List.set_cons_succ])) | (apply qg_plain (by rfl); (· intro W eW; go_simp; (first | done | rfl | (rw [if_pos] <;> first | omega | rfl))); (try simp only [Act.put, List.setIfInBounds_toArray, List.set_cons_zero, List.set_cons_succ])))
              refine q_nil ?_
              intro w3 e3
              clear y0 y1 y2 x0 x1 x2
              have h3 := he'.trans e3
              have HOb := Lib.hid (HO'.out.ext (EIt_ok _) e3)
              have q0 := (HYc.out w3 h3).1
              have q1 := (HYc.out w3 h3).2.1
              have q2 := (HYc.out w3 h3).2.2
              go_wp2_with (first | (go_at_call 68; refine (l5Copy_c (x := y) _ (HY.out _ h3)).mono ?_; rintro e wcb ⟨v3, rfl, ⟨u9, rfl, hps', hu'⟩, he3⟩; have he4 := h3.trans he3; have HO2 := Lib.hid (HOb.out.ext (EIt_ok _) he3); have Hu2 := Lib.hid (hu'.keep (Ext.size (E0.out.trans h3)) (fun _ _ _ => rfl)); clear hu' q0 q1 q2) | (at_builtin; go_must (refine wp_ap1 (w0 := w0) (by rfl) _ _ (by rfl) el_It (EIt_ok _) he4 _ (out ++ [x]) [y] (by rfl) HO2.out 1 1 rfl #[.string y.path, .bool y.dir, u9] _ (by rfl) (by first | rfl | simp) rfl (one3 Hu2.out.one) (one_E (eit_of_v hps' Hu2.out)) ?_ ?_)))
              · simp; unfold lim; omega
              · intro v'' w'' hO'' he'' _
                have HO'' := Lib.hid hO''; have HE'' := Lib.hid he''
                clear hO'' he'' he3 he4
                go_wp2
                go_roundw
                case rel => exact ⟨k + 1, true, _, by omega, by go_num, rfl, HE''.out, HO''.out, ⟨by simp; omega, fun h => by cases h⟩, Lib.hid (by simpa using Hr.out)⟩
                case measure => simp [intOf]; omega
    · have hks : k = n := by omega
      subst hks
      have hdn : l.drop k = [] := List.drop_eq_nil_of_le (by rw [Hn.out]; exact Nat.le_refl _)
      rw [hdn] at hrest
      have Hr := hrest
      clear hrest hdn
      cases bd with
      | true =>
        go_wp2
        go_ret
        have h1 := HO.out
        have h2 : out = putIt x l := by have := Hr.out; simpa [restPut] using this
        rw [h2] at h1
        exact ⟨_, rfl, h1.mono E0.out.size, E0.out.trans he⟩
      | false =>
        have q0 := (HXc.out wr he).1
        have q1 := (HXc.out wr he).2.1
        have q2 := (HXc.out wr he).2.2
        go_wp2_with (first | (go_at_call 68; refine (l5Copy_c (x := x) _ (HX.out _ he)).mono ?_; rintro e wca ⟨v3, rfl, ⟨u9, rfl, hps', hu'⟩, he3⟩; have he4 := he.trans he3; have HO2 := Lib.hid (HO.out.ext (EIt_ok _) he3); have Hu2 := Lib.hid (hu'.keep (Ext.size (E0.out.trans he)) (fun _ _ _ => rfl)); clear hu' q0 q1 q2) | (at_builtin; go_must (refine wp_ap1 (w0 := w0) (by rfl) _ _ (by rfl) el_It (EIt_ok _) he4 _ out [x] (by rfl) HO2.out 1 1 rfl #[.string x.path, .bool x.dir, u9] _ (by rfl) (by first | rfl | simp) rfl (one3 Hu2.out.one) (one_E (eit_of_v hps' Hu2.out)) ?_ ?_)))
        · simp; unfold lim; omega
        · intro v' w' hO' he' _
          have HO' := Lib.hid hO'; have HE' := Lib.hid he'
          clear hO' he' he3 he4
          go_wp2
          go_ret
          have h1 := HO'.out
          have h2 : out ++ [x] = putIt x l := by have := Hr.out; simpa [restPut, putIt] using this
          rw [h2] at h1
          exact ⟨_, rfl, h1.mono E0.out.size, E0.out.trans HE'.out⟩
end Go.Sf

/-! The reference moves and clones items of a tree. -/
namespace Go.Sf
open Go Go.RowKit Go.Proofs
theorem copyAll_out {f t : ByteArray} {x : It} {r : List It} (h : within x.path f = false) : copyAll f t (x :: r) = copyAll f t r := by rw [copyAll, if_neg (by simp [h])]
theorem copyAll_fail {f t : ByteArray} {x : It} {r : List It} (h : within x.path f = true) (hp : pmove x.path f t = none) : copyAll f t (x :: r) = none := by
  rw [copyAll, if_pos h, mvItem, hp]; rfl
theorem copyAll_in {f t p : ByteArray} {x : It} {r : List It} (h : within x.path f = true) (hp : pmove x.path f t = some p) : copyAll f t (x :: r) = (copyAll f t r).map fun ys => ⟨p, x.dir, x.ids⟩ :: ys := by
  rw [copyAll, if_pos h, mvItem, hp]; rfl
theorem OptIts.some_ {B : Nat} {w : World} {o : Option (List It)} {L : List It} {v : Value} (h : o = some L) (hs : Its B w v L) : OptIts B o (.tuple #[v, .bool true]) w := by
  subst h; exact ⟨_, rfl, hs⟩
set_option maxRecDepth 8000 in
set_option maxHeartbeats 2000000 in
theorem l23Copies_c {B : Nat} {v : Value} {l : List It} (f t : ByteArray) (w : World) (h : Its B w v l) (hf : f.size < lim) (ht : t.size < lim) :
    Calls Tryz.prog 48 #[v, .string f, .string t] w (RetP (OptIts w.heap.size (copyAll f t l)) w) := by
  obtain ⟨A, c, rfl, hA⟩ := h
  have hl := hA.2.2.1
  unfold lim at hl
  have hex : ∃ n, l.length = n := ⟨_, rfl⟩
  obtain ⟨n, hn⟩ := hex
  rw [hn] at hl ⊢
  have Hn := Lib.hid hn
  have HA := Lib.hid hA
  have Hf := Lib.hid hf; have Ht := Lib.hid ht
  clear hA hn hf ht
  go_enter Tryz.func48, Tryz.ntmps48
  go_wp2
  go_loopw [8, 9] (fun v i wr => ∃ (k : Nat) (out : List It), k ≤ n ∧ i = .int .i64 k ∧ Ext w wr ∧ OwnS w.heap.size 32 3 (EIt w.heap.size) wr v out ∧ out.length ≤ k ∧ Hid (copyAll f t l = (copyAll f t (l.drop k)).map fun ys => out ++ ys)) (fun _ i _ => n - (intOf i).toNat)
  case atStart => exact ⟨0, [], by omega, rfl, (Ext.refl w).alloc _, OwnS.lit0 _ _ _ _ (Nat.le_refl _), by simp, Lib.hid (by simp)⟩
  case round =>
    obtain ⟨k, out, hk, rfl, he, hO, hol, hrest⟩ := hrel
    by_cases hlt : k < n
    · obtain ⟨x, hx⟩ := get_of_lt (l := l) (k := k) (by rw [Hn.out]; exact hlt)
      obtain ⟨b, o, u2, rfl, -, -, hps, hu, hc0, hc1, hc2⟩ := Its.at_ HA.out hx
      obtain ⟨Ax, cx, rfl, hux⟩ := hu
      have a0 := fun W (e : Ext wr W) => hc0 W (he.trans e); have a1 := fun W (e : Ext wr W) => hc1 W (he.trans e); have a2 := fun W (e : Ext wr W) => hc2 W (he.trans e)
      have HX : Hid (∀ W, Ext wr W → ItV B W (.agg #[.string x.path, .bool x.dir, .slice Ax x.ids.length cx]) x) := Lib.hid fun W e => ⟨_, rfl, hps, Ints.ext (show Ints B w _ _ from ⟨_, _, rfl, hux⟩) (he.trans e)⟩
      have hd := drop_cons hx
      rw [hd] at hrest
      have HO := Lib.hid hO
      have Cw : ∀ W, Calls Tryz.prog 55 #[.string x.path, .string f] W (Ret (.bool (within x.path f)) W) := fun W => l1Within_c _ _ W hps Hf.out
      have Cm : ∀ W, Calls Tryz.prog 92 #[.string x.path, .string f, .string t] W (Ret (pmV (pmove x.path f t)) W) := fun W => specPathMove_c _ _ _ W hps Hf.out Ht.out
      have q0 := a0 wr (Ext.refl _)
      clear hc0 hc1 hc2 hux hx hd hO
      cases hw : within x.path f with
      | false =>
        rw [hw] at Cw
        rw [copyAll_out hw] at hrest
        clear hw
        go_wp2_with (go_at_call 55; refine (Cw _).mono ?_; rintro e w1 ⟨rfl, he1⟩)
        go_roundw
        case rel => exact ⟨k + 1, out, by omega, by go_num, he.trans he1, HO.out.ext (EIt_ok _) he1, by omega, hrest⟩
        case measure => simp [intOf]; omega
      | true =>
        rw [hw] at Cw
        cases hp : pmove x.path f t with
        | none =>
          rw [hp] at Cm
          have Hr : Hid (copyAll f t l = none) := Lib.hid (by rw [hrest.out, copyAll_fail hw hp]; rfl)
          change ∀ W, Calls Tryz.prog 92 _ W (Ret (.tuple #[.string ⟨#[]⟩, .bool false]) W) at Cm
          clear hw hp hrest
          go_wp2_with (first | (go_at_call 55; refine (Cw _).mono ?_; rintro e w1 ⟨rfl, he1⟩; have q0 := a0 w1 he1) | (go_at_call 92; refine (Cm _).mono ?_; rintro e w2 ⟨rfl, he2⟩))
          go_ret2
          exact ⟨_, rfl, OptIts.none_ Hr.out, ((he.trans he1).trans he2).alloc _⟩
        | some p =>
          rw [hp] at Cm
          have hpp : p.size < lim := by have := pathOk_len (pmove_some hp).2.2.2.2.1; unfold lim; omega
          have Hr : Hid (copyAll f t l = (copyAll f t (l.drop (k + 1))).map fun ys => (out ++ [⟨p, x.dir, x.ids⟩]) ++ ys) := Lib.hid (by
            rw [hrest.out, copyAll_in hw hp, Option.map_map]
            congr 1; funext ys; simp)
          change ∀ W, Calls Tryz.prog 92 _ W (Ret (.tuple #[.string p, .bool true]) W) at Cm
          have Hpp := Lib.hid hpp
          clear hw hp hrest
          go_wp2_with (first | (go_at_call 55; refine (Cw _).mono ?_; rintro e w1 ⟨rfl, he1⟩; have q0 := a0 w1 he1) | (go_at_call 92; refine (Cm _).mono ?_; rintro e w2 ⟨rfl, he2⟩; have he12 := he1.trans he2; have q0 := a0 w2 he12; have q1 := a1 w2 he12; have q2 := a2 w2 he12) | (go_at_call 68; refine (l5Copy_c (x := x) _ (HX.out _ he12)).mono ?_; rintro e w3 ⟨v3, rfl, ⟨u9, rfl, hps', ⟨A9, c9, rfl, hu9⟩⟩, he3⟩; have hu' : Ints w2.heap.size w3 (.slice A9 x.ids.length c9) x.ids := ⟨_, _, rfl, hu9⟩; have he4 : Ext w (w3.alloc (.cells #[.string p, .bool x.dir, .slice A9 x.ids.length c9] 32)) := ((he.trans he12).trans he3).alloc _; have HO3 := Lib.hid (HO.out.ext (EIt_ok _) ((he12.trans he3).alloc (.cells #[.string p, .bool x.dir, .slice A9 x.ids.length c9] 32))); have Hu3 : Hid (Ints w.heap.size (w3.alloc (.cells #[.string p, .bool x.dir, .slice A9 x.ids.length c9] 32)) (.slice A9 x.ids.length c9) x.ids) := Lib.hid ((hu'.keep (Ext.size (he.trans he12)) (fun _ _ _ => rfl)).ext ((Ext.refl w3).alloc _)); clear hu' hu9 q0 q1 q2 hps') | (at_builtin; go_must (refine wp_ap1 (w0 := w) (by rfl) _ _ (by rfl) el_It (EIt_ok _) he4 _ out [⟨p, x.dir, x.ids⟩] (by rfl) HO3.out 1 1 rfl #[.string p, .bool x.dir, .slice A9 x.ids.length c9] _ (by rfl) (by first | rfl | simp) rfl (one3 Hu3.out.one) (one_E (eit_of_v (x := ⟨p, x.dir, x.ids⟩) Hpp.out Hu3.out)) ?_ ?_)))
          · simp; unfold lim; omega
          · intro v' w' hO' he' _
            have HO' := Lib.hid hO'; have HE' := Lib.hid he'
            clear hO' he' a0 a1 a2 he4 he3
            go_wp2
            go_roundw
            case rel => exact ⟨k + 1, _, by omega, by go_num, HE'.out, HO'.out, by simp; omega, Hr⟩
            case measure => simp [intOf]; omega
    · have hks : k = n := by omega
      subst hks
      have Hr : Hid (copyAll f t l = some out) := Lib.hid (by
        rw [hrest.out, List.drop_eq_nil_of_le (by rw [Hn.out]; exact Nat.le_refl _), copyAll]; simp)
      have HO := Lib.hid hO
      clear hrest hO
      obtain ⟨A', c', rfl⟩ := HO.out.form
      go_wp2
      go_ret2
      exact ⟨_, rfl, OptIts.some_ Hr.out (HO.out.sl (EIt_ok _) (Nat.le_refl _) (by unfold lim; omega)), he⟩
end Go.Sf

/-! The reference moves and clones: the parts put together. -/
namespace Go.Sf
open Go Go.RowKit Go.Proofs
theorem find_cases (l : List It) (p : ByteArray) : ((findIt l p).isSome = false ∧ atPath l p = -1) ∨ ((findIt l p).isSome = true ∧ ∃ i : Nat, i < l.length ∧ atPath l p = (i : Int)) := by
  rcases atG_find (pathIs p) l 0 with ⟨h1, h2⟩ | ⟨i, x, h1, h2, h3, h4, -⟩
  · exact .inl ⟨by rw [findIt, h1]; rfl, h2⟩
  · exact .inr ⟨by rw [findIt, h3]; rfl, i, lt_of_get h1, by rw [atPath, h4]; simp⟩
theorem OwnS.both {base B B' : Nat} {w : World} {v : Value} {l : List It} (h : OwnS base 32 3 (EIt B) w v l) (hb : B' ≤ base) (hB : B' ≤ B) : OwnS B' 32 3 (EIt B') w v l :=
  let ⟨xs, h1, h2⟩ := h.mono hb; ⟨xs, h1, fun k x hx => EIt.keep (h2 k x hx) hB (fun _ _ _ => rfl)⟩
theorem placeOf_none {l cs : List It} (h : placeAll l cs = none) : placeOf l cs = none := by unfold placeOf; rw [h]; rfl
theorem placeOf_some' {l cs o : List It} (h : placeAll l cs = some o) : placeOf l cs = if treeOk o = true then some o else none := by unfold placeOf; rw [h]; rfl
theorem putIt_len_le (x : It) : ∀ l : List It, (putIt x l).length ≤ l.length + 1 := by
  intro l
  induction l with
  | nil => simp [putIt]
  | cons y r ih =>
    rw [putIt]
    split
    · simp only [List.length_cons]; omega
    · have := List.length_filter_le (fun z => !eqb z.path x.path) (y :: r)
      simp only [List.length_cons] at this ⊢; omega
set_option maxRecDepth 8000 in
set_option maxHeartbeats 2000000 in
theorem l23Put_c {B B' : Nat} {v1 v2 : Value} {l cs : List It} (w : World) (h1 : Its B w v1 l) (h2 : Its B' w v2 cs) (hlen : l.length + cs.length < 1000000) :
    Calls Tryz.prog 49 #[v1, v2] w (RetP (OptIts w.heap.size (placeOf l cs)) w) := by
  have H1 := Lib.hid h1
  obtain ⟨A, c, rfl, hA⟩ := h2
  have hex : ∃ n, cs.length = n := ⟨_, rfl⟩
  obtain ⟨n, hn⟩ := hex
  rw [hn] at hlen ⊢
  have Hn := Lib.hid hn
  have HA := Lib.hid hA
  clear hA hn h1
  go_enter Tryz.func49, Tryz.ntmps49
  go_wp2_with fail
  refine (l5All_c w H1.out).mono ?_
  rintro e w1 ⟨va, rfl, hO1, he1⟩
  have HO1 := Lib.hid hO1
  clear hO1
  go_wp2
  go_loopw [6, 7] (fun v i wr => ∃ (k : Nat) (out : List It), k ≤ n ∧ i = .int .i64 k ∧ Ext w wr ∧ OwnS w.heap.size 32 3 (EIt w.heap.size) wr v out ∧ out.length ≤ l.length + k ∧ Hid (placeAll l cs = placeAll out (cs.drop k))) (fun _ i _ => n - (intOf i).toNat)
  case atStart => exact ⟨0, l, by omega, rfl, he1, HO1.out, by omega, Lib.hid (by simp)⟩
  case round =>
    obtain ⟨k, out, hk, rfl, he, hO, hol, hrest⟩ := hrel
    have HO := Lib.hid hO
    by_cases hlt : k < n
    · obtain ⟨x, hx⟩ := get_of_lt (l := cs) (k := k) (by rw [Hn.out]; exact hlt)
      obtain ⟨b, o, u2, rfl, -, -, hps, hu, hc0, hc1, hc2⟩ := Its.at_ HA.out hx
      obtain ⟨Ax, cx, rfl, hux⟩ := hu
      have a0 := fun W (e : Ext wr W) => hc0 W (he.trans e); have a1 := fun W (e : Ext wr W) => hc1 W (he.trans e); have a2 := fun W (e : Ext wr W) => hc2 W (he.trans e)
      have HX : Hid (∀ W, Ext wr W → ItV B' W (.agg #[.string x.path, .bool x.dir, .slice Ax x.ids.length cx]) x) := Lib.hid fun W e => ⟨_, rfl, hps, Ints.ext (show Ints B' w _ _ from ⟨_, _, rfl, hux⟩) (he.trans e)⟩
      have HI : Hid (∀ W, Ext wr W → Its w.heap.size W _ out) := Lib.hid fun W e => Its.ext (hO.sl (EIt_ok _) (Nat.le_refl _) (by unfold lim; omega)) e
      have hd := drop_cons hx
      rw [hd] at hrest
      have q0 := a0 wr (Ext.refl _)
      have hfc := find_cases out x.path
      obtain ⟨A', c', rfl⟩ := hO.form
      clear hc0 hc1 hc2 hux hx hd hO
      rcases hfc with ⟨hf, hat⟩ | ⟨hf, i, hi, hat⟩
      · have Ca := l5At_c x.path wr (HI.out wr (Ext.refl _))
        rw [hat] at Ca
        have Hr : Hid (placeAll l cs = placeAll (putIt x out) (cs.drop (k + 1))) := Lib.hid (by rw [hrest.out, placeAll, if_neg (by simp [hf])])
        clear hf hat hrest
        go_wp2_with (go_at_call 91; refine Ca.mono ?_; rintro e w2 ⟨rfl, he2⟩; have q0 := a0 w2 he2; have q1 := a1 w2 he2; have q2 := a2 w2 he2)
        refine (l5Put_c _ (HI.out _ he2) (HX.out _ he2) (by unfold lim; omega)).mono ?_
        rintro e w3 ⟨v3, rfl, hO3, he3⟩
        have HO3 := Lib.hid (hO3.both (B' := w.heap.size) (he.trans he2).size (he.trans he2).size)
        have hpl := putIt_len_le x out
        have hf3 := hO3.form
        obtain ⟨A3, c3, rfl⟩ := hf3
        clear hO3 a0 a1 a2 q0 q1 q2 Ca
        go_wp2
        go_roundw
        case rel => exact ⟨k + 1, putIt x out, by omega, by go_num, (he.trans he2).trans he3, HO3.out, by omega, Hr⟩
        case measure => simp [intOf]; omega
      · have Ca := l5At_c x.path wr (HI.out wr (Ext.refl _))
        rw [hat] at Ca
        have Hr : Hid (placeOf l cs = none) := Lib.hid (placeOf_none (by rw [hrest.out, placeAll, if_pos hf]))
        clear hf hat hrest a0 a1 a2
        go_wp2_with (go_at_call 91; refine Ca.mono ?_; rintro e w2 ⟨rfl, he2⟩)
        go_ret2
        exact ⟨_, rfl, OptIts.none_ Hr.out, (he.trans he2).alloc _⟩
    · have hks : k = n := by omega
      subst hks
      have Hr : Hid (placeOf l cs = if treeOk out = true then some out else none) := Lib.hid (placeOf_some' (by
        rw [hrest.out, List.drop_eq_nil_of_le (by rw [Hn.out]; exact Nat.le_refl _), placeAll]))
      obtain ⟨A', c', rfl⟩ := hO.form
      have HI := Lib.hid (hO.sl (EIt_ok _) (Nat.le_refl _) (by unfold lim; omega))
      have Cv := specTreeValid_c wr HI.out
      clear hrest hO
      cases ht : treeOk out with
      | false =>
        rw [ht] at Cv
        have Hr2 : Hid (placeOf l cs = none) := Lib.hid (by rw [Hr.out, ht]; rfl)
        clear ht
        go_wp2_with (go_at_call 67; refine Cv.mono ?_; rintro e w2 ⟨rfl, he2⟩)
        go_ret2
        exact ⟨_, rfl, OptIts.none_ Hr2.out, (he.trans he2).alloc _⟩
      | true =>
        rw [ht] at Cv
        have Hr2 : Hid (placeOf l cs = some out) := Lib.hid (by rw [Hr.out, ht]; rfl)
        clear ht
        go_wp2_with (go_at_call 67; refine Cv.mono ?_; rintro e w2 ⟨rfl, he2⟩)
        go_ret2
        exact ⟨_, rfl, OptIts.some_ Hr2.out (Its.ext HI.out he2), he.trans he2⟩
theorem mvOk_if {l : List It} {f t : ByteArray} {b1 b2 b3 b4 b5 b6 : Bool} (h1 : treeOk l = b1) (h2 : pathOk f = b2) (h3 : pathOk t = b3) (h4 : (findIt l f).isSome = b4) (h5 : within t f = b5) (h6 : (findIt l t).isSome = b6) : mvOk l f t = (b1 && (b2 && (b3 && (b4 && (!b5 && !b6))))) := by
  unfold mvOk; rw [h1, h2, h3, h4, h5, h6]
set_option maxRecDepth 8000 in
set_option maxHeartbeats 2000000 in
theorem l23Ok_c {B : Nat} {v : Value} {l : List It} (f t : ByteArray) (w : World) (h : Its B w v l) (hf : f.size < lim) (ht : t.size < lim) :
    Calls Tryz.prog 47 #[v, .string f, .string t] w (Ret (.bool (mvOk l f t)) w) := by
  have H := Lib.hid h
  have C1 : ∀ W, Ext w W → Calls Tryz.prog 67 #[v] W (Ret (.bool (treeOk l)) W) := fun W e => specTreeValid_c W (H.out.ext e)
  have C2 : ∀ W, Calls Tryz.prog 90 #[.string f] W (Ret (.bool (pathOk f)) W) := fun W => specPathValid_c f W hf
  have C3 : ∀ W, Calls Tryz.prog 90 #[.string t] W (Ret (.bool (pathOk t)) W) := fun W => specPathValid_c t W ht
  have C4 : ∀ W, Ext w W → Calls Tryz.prog 91 #[v, .string f] W (Ret (.int .i64 (atPath l f)) W) := fun W e => l5At_c f W (H.out.ext e)
  have C5 : ∀ W, Calls Tryz.prog 55 #[.string t, .string f] W (Ret (.bool (within t f)) W) := fun W => l1Within_c t f W ht hf
  have C6 : ∀ W, Ext w W → Calls Tryz.prog 91 #[v, .string t] W (Ret (.int .i64 (atPath l t)) W) := fun W e => l5At_c t W (H.out.ext e)
  have hl := h.len
  unfold lim at hl
  clear h
  cases h1 : treeOk l with
  | false =>
    rw [h1] at C1
    have Hv : Hid (mvOk l f t = false) := Lib.hid (by rw [mvOk_if h1 rfl rfl rfl rfl rfl]; simp)
    clear h1
    go_enter Tryz.func47, Tryz.ntmps47
    go_wp2_with fail
    refine (C1 _ (Ext.refl w)).mono ?_; rintro e w1 ⟨rfl, he1⟩
    have E1 := (Ext.refl w).trans he1
    go_wp2
    go_ret
    exact ⟨ret_b (Hv.out).symm, E1⟩
  | true =>
  rw [h1] at C1
  cases h2 : pathOk f with
  | false =>
    rw [h2] at C2
    have Hv : Hid (mvOk l f t = false) := Lib.hid (by rw [mvOk_if h1 h2 rfl rfl rfl rfl]; simp)
    clear h2
    go_enter Tryz.func47, Tryz.ntmps47
    go_wp2_with fail
    refine (C1 _ (Ext.refl w)).mono ?_; rintro e w1 ⟨rfl, he1⟩
    have E1 := (Ext.refl w).trans he1
    go_wp2_with fail
    refine (C2 _).mono ?_; rintro e w2 ⟨rfl, he2⟩
    have E2 := E1.trans he2
    go_wp2
    go_ret
    exact ⟨ret_b (Hv.out).symm, E2⟩
  | true =>
  rw [h2] at C2
  cases h3 : pathOk t with
  | false =>
    rw [h3] at C3
    have Hv : Hid (mvOk l f t = false) := Lib.hid (by rw [mvOk_if h1 h2 h3 rfl rfl rfl]; simp)
    clear h3
    go_enter Tryz.func47, Tryz.ntmps47
    go_wp2_with fail
    refine (C1 _ (Ext.refl w)).mono ?_; rintro e w1 ⟨rfl, he1⟩
    have E1 := (Ext.refl w).trans he1
    go_wp2_with fail
    refine (C2 _).mono ?_; rintro e w2 ⟨rfl, he2⟩
    have E2 := E1.trans he2
    go_wp2_with fail
    refine (C3 _).mono ?_; rintro e w3 ⟨rfl, he3⟩
    have E3 := E2.trans he3
    go_wp2
    go_ret
    exact ⟨ret_b (Hv.out).symm, E3⟩
  | true =>
  rw [h3] at C3
  rcases find_cases l f with ⟨h4, a4⟩ | ⟨h4, i4, l4, a4⟩
  · rw [a4] at C4
    have Hv : Hid (mvOk l f t = false) := Lib.hid (by rw [mvOk_if h1 h2 h3 h4 rfl rfl]; simp)
    clear h4 a4
    go_enter Tryz.func47, Tryz.ntmps47
    go_wp2_with fail
    refine (C1 _ (Ext.refl w)).mono ?_; rintro e w1 ⟨rfl, he1⟩
    have E1 := (Ext.refl w).trans he1
    go_wp2_with fail
    refine (C2 _).mono ?_; rintro e w2 ⟨rfl, he2⟩
    have E2 := E1.trans he2
    go_wp2_with fail
    refine (C3 _).mono ?_; rintro e w3 ⟨rfl, he3⟩
    have E3 := E2.trans he3
    go_wp2_with fail
    refine (C4 _ E3).mono ?_; rintro e w4 ⟨rfl, he4⟩
    have E4 := E3.trans he4
    go_wp2
    go_ret
    exact ⟨ret_b (Hv.out).symm, E4⟩
  rw [a4] at C4
  cases h5 : within t f with
  | true =>
    rw [h5] at C5
    have Hv : Hid (mvOk l f t = false) := Lib.hid (by rw [mvOk_if h1 h2 h3 h4 h5 rfl]; simp)
    clear h5
    go_enter Tryz.func47, Tryz.ntmps47
    go_wp2_with fail
    refine (C1 _ (Ext.refl w)).mono ?_; rintro e w1 ⟨rfl, he1⟩
    have E1 := (Ext.refl w).trans he1
    go_wp2_with fail
    refine (C2 _).mono ?_; rintro e w2 ⟨rfl, he2⟩
    have E2 := E1.trans he2
    go_wp2_with fail
    refine (C3 _).mono ?_; rintro e w3 ⟨rfl, he3⟩
    have E3 := E2.trans he3
    go_wp2_with fail
    refine (C4 _ E3).mono ?_; rintro e w4 ⟨rfl, he4⟩
    have E4 := E3.trans he4
    go_wp2_with fail
    refine (C5 _).mono ?_; rintro e w5 ⟨rfl, he5⟩
    have E5 := E4.trans he5
    go_wp2
    go_ret
    exact ⟨ret_b (Hv.out).symm, E5⟩
  | false =>
  rw [h5] at C5
  rcases find_cases l t with ⟨h6, a6⟩ | ⟨h6, i6, l6, a6⟩
  · rw [a6] at C6
    have Hv : Hid (mvOk l f t = true) := Lib.hid (by rw [mvOk_if h1 h2 h3 h4 h5 h6]; rfl)
    clear h6 a6
    go_enter Tryz.func47, Tryz.ntmps47
    go_wp2_with fail
    refine (C1 _ (Ext.refl w)).mono ?_; rintro e w1 ⟨rfl, he1⟩
    have E1 := (Ext.refl w).trans he1
    go_wp2_with fail
    refine (C2 _).mono ?_; rintro e w2 ⟨rfl, he2⟩
    have E2 := E1.trans he2
    go_wp2_with fail
    refine (C3 _).mono ?_; rintro e w3 ⟨rfl, he3⟩
    have E3 := E2.trans he3
    go_wp2_with fail
    refine (C4 _ E3).mono ?_; rintro e w4 ⟨rfl, he4⟩
    have E4 := E3.trans he4
    go_wp2_with fail
    refine (C5 _).mono ?_; rintro e w5 ⟨rfl, he5⟩
    have E5 := E4.trans he5
    go_wp2_with fail
    refine (C6 _ E5).mono ?_; rintro e w6 ⟨rfl, he6⟩
    have E6 := E5.trans he6
    go_wp2
    go_ret
    exact ⟨ret_b (Hv.out).symm, E6⟩
  · rw [a6] at C6
    have Hv : Hid (mvOk l f t = false) := Lib.hid (by rw [mvOk_if h1 h2 h3 h4 h5 h6]; rfl)
    clear h6 a6
    go_enter Tryz.func47, Tryz.ntmps47
    go_wp2_with fail
    refine (C1 _ (Ext.refl w)).mono ?_; rintro e w1 ⟨rfl, he1⟩
    have E1 := (Ext.refl w).trans he1
    go_wp2_with fail
    refine (C2 _).mono ?_; rintro e w2 ⟨rfl, he2⟩
    have E2 := E1.trans he2
    go_wp2_with fail
    refine (C3 _).mono ?_; rintro e w3 ⟨rfl, he3⟩
    have E3 := E2.trans he3
    go_wp2_with fail
    refine (C4 _ E3).mono ?_; rintro e w4 ⟨rfl, he4⟩
    have E4 := E3.trans he4
    go_wp2_with fail
    refine (C5 _).mono ?_; rintro e w5 ⟨rfl, he5⟩
    have E5 := E4.trans he5
    go_wp2_with fail
    refine (C6 _ E5).mono ?_; rintro e w6 ⟨rfl, he6⟩
    have E6 := E5.trans he6
    go_wp2
    go_ret
    exact ⟨ret_b (Hv.out).symm, E6⟩
end Go.Sf

/-! The reference's TreeMove and TreeClone. -/
namespace Go.Sf
open Go Go.RowKit Go.Proofs
theorem moveOf_not {l : List It} {f t : ByteArray} (h : mvOk l f t = false) : moveOf l f t = none := by rw [moveOf, if_neg (by simp [h])]
theorem cloneOf_not {l : List It} {f t : ByteArray} (h : mvOk l f t = false) : cloneOf l f t = none := by rw [cloneOf, if_neg (by simp [h])]
theorem moveOf_none {l : List It} {f t : ByteArray} (h : mvOk l f t = true) (hc : copyAll f t l = none) : moveOf l f t = none := by rw [moveOf, if_pos h, hc]; rfl
theorem cloneOf_none {l : List It} {f t : ByteArray} (h : mvOk l f t = true) (hc : copyAll f t l = none) : cloneOf l f t = none := by rw [cloneOf, if_pos h, hc]; rfl
theorem moveOf_put {l cs : List It} {f t : ByteArray} (h : mvOk l f t = true) (hc : copyAll f t l = some cs) : moveOf l f t = placeOf (restOf l f) cs := by rw [moveOf, if_pos h, hc]; rfl
theorem cloneOf_put {l cs : List It} {f t : ByteArray} (h : mvOk l f t = true) (hc : copyAll f t l = some cs) : cloneOf l f t = placeOf l cs := by rw [cloneOf, if_pos h, hc]; rfl
theorem OptIts.eq {B : Nat} {o o' : Option (List It)} {v : Value} {w : World} (h : OptIts B o v w) (e : o = o') : OptIts B o' v w := e ▸ h
theorem OptIts.low {B B' : Nat} {o : Option (List It)} {v : Value} {w : World} (h : OptIts B o v w) (hB : B' ≤ B) : OptIts B' o v w := let ⟨u, h1, h2⟩ := h; ⟨u, h1, h2.keep hB (fun _ _ _ => rfl)⟩
theorem copy_len {l cs : List It} {f t : ByteArray} (h : copyAll f t l = some cs) : cs.length ≤ l.length := by
  rw [(copyAll_some h).1]; exact List.length_filter_le _ _
theorem rest_len (l : List It) (f : ByteArray) : (restOf l f).length ≤ l.length := List.length_filter_le _ _
theorem rest_take {l : List It} {f : ByteArray} {k : Nat} {x : It} (h : l[k]? = some x) : restOf (l.take (k + 1)) f = restOf (l.take k) f ++ if within x.path f = true then [] else [x] := by
  rw [take_succ_get h, restOf, restOf, List.filter_append]
  congr 1
  cases hw : within x.path f <;> simp [hw]
set_option maxRecDepth 8000 in
set_option maxHeartbeats 2000000 in
theorem specTreeMove_c {B : Nat} {v : Value} {l : List It} (f t : ByteArray) (w : World) (h : Its B w v l) (hf : f.size < lim) (ht : t.size < lim) :
    Calls Tryz.prog 21 #[v, .string f, .string t] w (RetP (OptIts w.heap.size (moveOf l f t)) w) := by
  have H := Lib.hid (h.keep (B' := 0) (Nat.zero_le _) (fun _ _ _ => rfl))
  clear h
  have Ck := l23Ok_c f t w H.out hf ht
  cases hok : mvOk l f t with
  | false =>
    rw [hok] at Ck
    have Hd := Lib.hid (moveOf_not hok)
    clear hok
    go_enter Tryz.func21, Tryz.ntmps21
    go_wp2_with fail
    refine Ck.mono ?_
    rintro e w1 ⟨rfl, he1⟩
    go_wp2
    go_ret2
    exact ⟨_, rfl, OptIts.none_ Hd.out, he1.alloc _⟩
  | true =>
  rw [hok] at Ck
  have hl12 : l.length ≤ 12 := (tree_set.1 (mvOk_iff.1 hok).1).1
  have Hok := Lib.hid hok
  clear hok
  cases hc : copyAll f t l with
  | none =>
    have Hd := Lib.hid (moveOf_none Hok.out hc)
    have Hc := Lib.hid hc
    clear hc
    go_enter Tryz.func21, Tryz.ntmps21
    go_wp2_with fail
    refine Ck.mono ?_
    rintro e w1 ⟨rfl, he1⟩
    go_wp2_with fail
    refine (l23Copies_c f t w1 (H.out.ext he1) hf ht).mono ?_
    rw [Hc.out]
    rintro e w2 ⟨v2, rfl, ⟨u2, rfl, -⟩, he2⟩
    go_wp2
    go_ret2
    exact ⟨_, rfl, OptIts.none_ Hd.out, (he1.trans he2).alloc _⟩
  | some cs =>
    have Hd := Lib.hid (moveOf_put Hok.out hc)
    have Hc := Lib.hid hc
    have hcl := copy_len hc
    clear hc
    have H' := H
    obtain ⟨A, c, rfl, hA⟩ := H'.out
    have HA := Lib.hid hA
    have hex : ∃ n, l.length = n := ⟨_, rfl⟩
    obtain ⟨n, hn⟩ := hex
    rw [hn] at hl12 hcl Ck ⊢
    have Hn := Lib.hid hn
    have H0 : Hid (Its 0 w (.slice A n c) l) := Lib.hid (by rw [← hn]; exact ⟨A, c, rfl, hA⟩)
    clear hA H' H hn
    go_enter Tryz.func21, Tryz.ntmps21
    go_wp2_with fail
    refine Ck.mono ?_
    rintro e w1 ⟨rfl, he1⟩
    go_wp2_with fail
    refine (l23Copies_c f t w1 (H0.out.ext he1) hf ht).mono ?_
    rw [Hc.out]
    rintro e w2 ⟨v2, rfl, ⟨u2, rfl, hI2⟩, he2⟩
    have HI2 : Hid (Its w1.heap.size w2 u2 cs) := Lib.hid hI2
    have he12 := he1.trans he2
    simp only [Option.isSome_some]
    clear hI2 he1 he2
    go_wp2
    go_loopw [10, 11] (fun v i wr => ∃ k : Nat, k ≤ n ∧ i = .int .i64 k ∧ Ext w2 wr ∧ OwnS w2.heap.size 32 3 (EIt 0) wr v (restOf (l.take k) f)) (fun _ i _ => n - (intOf i).toNat)
    case atStart => exact ⟨0, by omega, rfl, (Ext.refl w2).alloc _, OwnS.lit0 _ _ _ _ (Nat.le_refl _)⟩
    case round =>
      obtain ⟨k, hk, rfl, he, hO⟩ := hrel
      have HO := Lib.hid hO; clear hO
      by_cases hlt : k < n
      · obtain ⟨x, hx⟩ := get_of_lt (l := l) (k := k) (by rw [Hn.out]; exact hlt)
        obtain ⟨b, o, ux, rfl, -, -, hps, hu, hc0, hc1, hc2⟩ := Its.at_ HA.out hx
        obtain ⟨Ax, cx, rfl, hux⟩ := hu
        have ee := he12.trans he
        have a0 := fun W (e : Ext wr W) => hc0 W (ee.trans e); have a1 := fun W (e : Ext wr W) => hc1 W (ee.trans e); have a2 := fun W (e : Ext wr W) => hc2 W (ee.trans e)
        have HU : Hid (∀ W, Ext wr W → Ints 0 W (.slice Ax x.ids.length cx) x.ids) := Lib.hid fun W e => Ints.ext (show Ints 0 w _ _ from ⟨_, _, rfl, hux⟩) (ee.trans e)
        have Cw : ∀ W, Calls Tryz.prog 55 #[.string x.path, .string f] W (Ret (.bool (within x.path f)) W) := fun W => l1Within_c _ _ W hps hf
        have hrt := rest_take (f := f) hx
        have hrl := rest_len (l.take k) f
        have htl := List.length_take_le' k l
        have hHn := Hn.out
        have q0 := a0 wr (Ext.refl _)
        clear hc0 hc1 hc2 hux hx
        cases hw : within x.path f with
        | true =>
          rw [hw] at Cw
          rw [hw, if_pos rfl, List.append_nil] at hrt
          have Hrt := Lib.hid hrt
          clear hw hrt
          go_wp2_with (go_at_call 55; refine (Cw _).mono ?_; rintro e w3 ⟨rfl, he3⟩)
          go_roundw
          case rel => exact ⟨k + 1, by omega, by go_num, he.trans he3, by rw [Hrt.out]; exact HO.out.ext (EIt_ok _) he3⟩
          case measure => simp [intOf]; omega
        | false =>
          rw [hw] at Cw
          rw [hw, if_neg (by simp)] at hrt
          have Hrt := Lib.hid hrt
          clear hw hrt
          go_wp2_with (first | (go_at_call 55; refine (Cw _).mono ?_; rintro e w3 ⟨rfl, he3⟩; have q0 := a0 w3 he3; have q1 := a1 w3 he3; have q2 := a2 w3 he3; have he4 := he.trans he3; have HO3 := Lib.hid (HO.out.ext (EIt_ok _) he3); have HU3 := Lib.hid (HU.out w3 he3)) | (at_builtin; go_must (refine wp_ap1 (w0 := w2) (by rfl) _ _ (by rfl) el_It (EIt_ok _) he4 _ (restOf (l.take k) f) [x] (by rfl) HO3.out 1 1 rfl #[.string x.path, .bool x.dir, .slice Ax x.ids.length cx] _ (by rfl) (by first | rfl | simp) rfl (one3 rfl) (one_E (eit_of_v hps HU3.out)) ?_ ?_)))
          · simp; unfold lim; omega
          · intro v' w' hO' he' _
            have HO' := Lib.hid hO'; have HE' := Lib.hid he'
            clear hO' he' a0 a1 a2 he4 q0 q1 q2
            go_wp2
            go_roundw
            case rel => exact ⟨k + 1, by omega, by go_num, HE'.out, by rw [Hrt.out]; exact HO'.out⟩
            case measure => simp [intOf]; omega
      · have hks : k = n := by omega
        subst hks
        have e : l.take k = l := List.take_of_length_le (by rw [Hn.out]; exact Nat.le_refl _)
        have HO1 := HO.out
        rw [e] at HO1
        have hrl := rest_len l f
        rw [Hn.out] at hrl
        have HR : Hid (Its 0 wr _ (restOf l f)) := Lib.hid (HO1.sl (EIt_ok _) (Nat.zero_le _) (by unfold lim; omega))
        obtain ⟨A', c', rfl⟩ := HO1.form
        clear HO HO1 e
        go_wp2_with fail
        refine (l23Put_c (l := restOf l f) (cs := cs) wr HR.out (HI2.out.ext he) (by omega)).mono ?_
        rintro e w5 ⟨v5, rfl, hP, he5⟩
        have HP : Hid (OptIts w.heap.size (moveOf l f t) v5 w5) := Lib.hid ((hP.eq Hd.out.symm).low (he12.trans he).size)
        obtain ⟨u5, rfl, -⟩ := hP
        go_wp2
        go_ret2
        exact ⟨_, rfl, HP.out, (he12.trans he).trans he5⟩
set_option maxRecDepth 8000 in
set_option maxHeartbeats 2000000 in
theorem specTreeClone_c {B : Nat} {v : Value} {l : List It} (f t : ByteArray) (w : World) (h : Its B w v l) (hf : f.size < lim) (ht : t.size < lim) :
    Calls Tryz.prog 16 #[v, .string f, .string t] w (RetP (OptIts w.heap.size (cloneOf l f t)) w) := by
  have H := Lib.hid h
  have Ck := l23Ok_c f t w h hf ht
  clear h
  cases hok : mvOk l f t with
  | false =>
    rw [hok] at Ck
    have Hd := Lib.hid (cloneOf_not hok)
    clear hok
    go_enter Tryz.func16, Tryz.ntmps16
    go_wp2_with fail
    refine Ck.mono ?_
    rintro e w1 ⟨rfl, he1⟩
    go_wp2
    go_ret2
    exact ⟨_, rfl, OptIts.none_ Hd.out, he1.alloc _⟩
  | true =>
  rw [hok] at Ck
  have hl12 : l.length ≤ 12 := (tree_set.1 (mvOk_iff.1 hok).1).1
  have Hok := Lib.hid hok
  clear hok
  cases hc : copyAll f t l with
  | none =>
    have Hd := Lib.hid (cloneOf_none Hok.out hc)
    have Hc := Lib.hid hc
    clear hc
    go_enter Tryz.func16, Tryz.ntmps16
    go_wp2_with fail
    refine Ck.mono ?_
    rintro e w1 ⟨rfl, he1⟩
    go_wp2_with fail
    refine (l23Copies_c f t w1 (H.out.ext he1) hf ht).mono ?_
    rw [Hc.out]
    rintro e w2 ⟨v2, rfl, ⟨u2, rfl, -⟩, he2⟩
    go_wp2
    go_ret2
    exact ⟨_, rfl, OptIts.none_ Hd.out, (he1.trans he2).alloc _⟩
  | some cs =>
    have Hd := Lib.hid (cloneOf_put Hok.out hc)
    have Hc := Lib.hid hc
    have hcl := copy_len hc
    clear hc
    go_enter Tryz.func16, Tryz.ntmps16
    go_wp2_with fail
    refine Ck.mono ?_
    rintro e w1 ⟨rfl, he1⟩
    go_wp2_with fail
    refine (l23Copies_c f t w1 (H.out.ext he1) hf ht).mono ?_
    rw [Hc.out]
    rintro e w2 ⟨v2, rfl, ⟨u2, rfl, hI2⟩, he2⟩
    have HI2 : Hid (Its w1.heap.size w2 u2 cs) := Lib.hid hI2
    simp only [Option.isSome_some]
    clear hI2
    go_wp2_with fail
    refine (l23Put_c (l := l) (cs := cs) w2 (H.out.ext (he1.trans he2)) HI2.out (by omega)).mono ?_
    rintro e w5 ⟨v5, rfl, hP, he5⟩
    have HP : Hid (OptIts w.heap.size (cloneOf l f t) v5 w5) := Lib.hid ((hP.eq Hd.out.symm).low (he1.trans he2).size)
    obtain ⟨u5, rfl, -⟩ := hP
    go_wp2
    go_ret2
    exact ⟨_, rfl, HP.out, (he1.trans he2).trans he5⟩
end Go.Sf
