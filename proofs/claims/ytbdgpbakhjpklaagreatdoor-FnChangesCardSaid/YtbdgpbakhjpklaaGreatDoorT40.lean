/- Paths within others and paths moved: the reference's and the program's. -/
import Derived.Test.YtbdgpbakhjpklaaGreatDoorGE
import Derived.Test.YtbdgpbakhjpklaaGreatDoorP11
namespace Go.Sf
open Go Go.RowKit Go.Proofs
theorem emp_iff {s : ByteArray} : s.toList = [] ↔ bl s = [] := by
  rw [ByteArray.toList_eq]; exact Iff.rfl
theorem emp_false {s : ByteArray} (h : bl s ≠ []) : s.toList.isEmpty = false := by
  cases hs : s.toList with
  | nil => exact absurd (emp_iff.1 hs) h
  | cons _ _ => rfl
theorem within_emp {p d : ByteArray} (h : bl d = []) : within p d = true := by unfold within; simp [h]
theorem within_eq {p d : ByteArray} (h : p = d) : within p d = true := by unfold within; simp [h]
theorem bl_push (d : ByteArray) : bl (d ++ (⟨#[47]⟩ : ByteArray)) = bl d ++ [47] := by rw [bl_app]; rfl
/-- the third way of lying within, byte by byte -/
theorem within_long {p d : ByteArray} (h0 : bl d ≠ []) (h1 : p ≠ d) : within p d = true ↔ d.size < p.size ∧ p.extract 0 d.size = d ∧ (bl p)[d.size]? = some 47 := by
  unfold within
  rw [decide_eq_true_eq]
  constructor
  · rintro (h | h | ⟨r, h⟩)
    · exact absurd h h0
    · exact absurd h h1
    · have hl : (bl p).length = (bl d).length + 1 + r.length := by rw [← h]; simp; omega
      rw [bl_length, bl_length] at hl
      refine ⟨by omega, bl_inj ?_, ?_⟩
      · rw [bl_extract, List.drop_zero, ← h, List.append_assoc, ← bl_length d, List.take_left]
      · rw [← h, List.append_assoc, ← bl_length d, List.getElem?_append_right (Nat.le_refl _), Nat.sub_self]; rfl
  · rintro ⟨h2, h3, h4⟩
    refine .inr (.inr ⟨(bl p).drop (d.size + 1), ?_⟩)
    have h5 : (bl p).take d.size = bl d := by
      have := congrArg bl h3
      rw [bl_extract, List.drop_zero] at this
      exact this
    conv => rhs; rw [← List.take_append_drop d.size (bl p)]
    rw [h5, List.append_assoc]
    congr 1
    have hl : d.size < (bl p).length := by rw [bl_length]; exact h2
    rw [List.drop_eq_getElem_cons hl]
    rw [List.getElem?_eq_getElem hl] at h4
    rw [Option.some.inj h4]; rfl
set_option maxHeartbeats 1000000 in
theorem l1Within_c (p d : ByteArray) (w : World) (hp : p.size < lim) (hd : d.size < lim) : Calls Tryz.prog 55 #[.string p, .string d] w (Ret (.bool (within p d)) w) := by
  unfold lim at hp hd
  by_cases h0 : bl d = []
  · have h0' : d.toList.isEmpty = true := by rw [emp_iff.2 h0]; rfl
    have Hr := Lib.hid (within_emp (p := p) h0)
    clear h0
    go_enter Tryz.func55, Tryz.ntmps55
    go_wp2
    go_ret
    exact ⟨ret_b Hr.out.symm, Ext.refl w⟩
  by_cases h1 : p = d
  · have h0' : d.toList.isEmpty = false := emp_false h0
    have Hr := Lib.hid (within_eq h1)
    subst h1
    clear h0
    go_enter Tryz.func55, Tryz.ntmps55
    go_wp2
    go_ret
    exact ⟨ret_b Hr.out.symm, Ext.refl w⟩
  have Hr := Lib.hid (within_long h0 h1)
  have h0' : d.toList.isEmpty = false := emp_false h0
  have h1' : (p.toList == d.toList) = false := by rw [bytes_ne_iff, decide_eq_false_iff_not]; exact h1
  clear h0 h1
  by_cases h2 : d.size < p.size
  · have h2' : (d.size : Int) < (p.size : Int) := by omega
    obtain ⟨c, hc⟩ : ∃ c, (bl p)[d.size]? = some c := ⟨_, bl_get p h2⟩
    go_enter Tryz.func55, Tryz.ntmps55
    have hcc : p[d.size] = c := by
      rw [bl_get p h2] at hc; exact Option.some.inj hc
    go_wp2
    · have he : p.extract 0 d.size = d := bytes_inj.1 (by assumption)
      go_ret
      refine ⟨ret_b ?_, Ext.refl w⟩
      rw [Bool.eq_iff_iff, Hr.out, beq_iff_eq]
      simp only [he, hc, h2, true_and, Option.some.injEq]
      constructor
      · intro h; exact UInt8.toNat_inj.1 (by have : c.toNat = 47 := by omega
                                             exact this)
      · rintro rfl; rfl
    · have he : p.extract 0 d.size ≠ d := fun e => absurd (bytes_inj.2 e) (by assumption)
      go_ret
      refine ⟨ret_b ?_, Ext.refl w⟩
      cases hw : within p d with
      | false => rfl
      | true => exact absurd (Hr.out.1 hw).2.1 he
  · have h2' : ¬ (d.size : Int) < (p.size : Int) := by omega
    have Hw : Hid (within p d = false) := Lib.hid (by
      cases hw : within p d with
      | false => rfl
      | true => exact absurd (Hr.out.1 hw).1 h2)
    clear h2
    go_enter Tryz.func55, Tryz.ntmps55
    go_wp2
    go_ret
    exact ⟨ret_b Hw.out.symm, Ext.refl w⟩
theorem bv {b c : Bool} (h : b = c) : Value.bool b = .bool c := by rw [h]
/-- the answer of a move of a path -/
def pmV (o : Option ByteArray) : Value := .tuple #[.string (o.getD ⟨#[]⟩), .bool o.isSome]
theorem pmove_no {p f t : ByteArray} (h : ¬ (pathOk p = true ∧ pathOk f = true ∧ pathOk t = true ∧ within p f = true)) : pmove p f t = none := if_neg h
theorem ret_pm {o o' : Option ByteArray} (h : o = o') : Ending.returned (pmV o) = .returned (pmV o') := by rw [h]
set_option maxHeartbeats 1000000 in
theorem specPathMove_c (p f t : ByteArray) (w : World) (hp : p.size < lim) (hf : f.size < lim) (ht : t.size < lim) : Calls Tryz.prog 92 #[.string p, .string f, .string t] w (Ret (pmV (pmove p f t)) w) := by
  have Cp : ∀ W, Calls Tryz.prog 90 #[.string p] W (Ret (.bool (pathOk p)) W) := fun W => specPathValid_c p W hp
  have Cf : ∀ W, Calls Tryz.prog 90 #[.string f] W (Ret (.bool (pathOk f)) W) := fun W => specPathValid_c f W hf
  have Ct : ∀ W, Calls Tryz.prog 90 #[.string t] W (Ret (.bool (pathOk t)) W) := fun W => specPathValid_c t W ht
  have Cw : ∀ W, Calls Tryz.prog 55 #[.string p, .string f] W (Ret (.bool (within p f)) W) := fun W => l1Within_c p f W hp hf
  unfold lim at hp hf ht
  cases h1 : pathOk p with
  | false =>
    rw [h1] at Cp
    have Hn := Lib.hid (pmove_no (p := p) (f := f) (t := t) fun h => by rw [h1] at h; cases h.1)
    go_enter Tryz.func92, Tryz.ntmps92
    go_wp2_with fail
    refine (Cp _).mono ?_; rintro e w1 ⟨rfl, he1⟩
    go_wp2
    go_ret2
    exact ⟨ret_pm Hn.out.symm, he1⟩
  | true =>
  rw [h1] at Cp
  cases h2 : pathOk f with
  | false =>
    rw [h2] at Cf
    have Hn := Lib.hid (pmove_no (p := p) (f := f) (t := t) fun h => by rw [h2] at h; cases h.2.1)
    go_enter Tryz.func92, Tryz.ntmps92
    go_wp2_with fail
    refine (Cp _).mono ?_; rintro e w1 ⟨rfl, he1⟩
    go_wp2_with fail
    refine (Cf _).mono ?_; rintro e w2 ⟨rfl, he2⟩
    go_wp2
    go_ret2
    exact ⟨ret_pm Hn.out.symm, he1.trans he2⟩
  | true =>
  rw [h2] at Cf
  cases h3 : pathOk t with
  | false =>
    rw [h3] at Ct
    have Hn := Lib.hid (pmove_no (p := p) (f := f) (t := t) fun h => by rw [h3] at h; cases h.2.2.1)
    go_enter Tryz.func92, Tryz.ntmps92
    go_wp2_with fail
    refine (Cp _).mono ?_; rintro e w1 ⟨rfl, he1⟩
    go_wp2_with fail
    refine (Cf _).mono ?_; rintro e w2 ⟨rfl, he2⟩
    go_wp2_with fail
    refine (Ct _).mono ?_; rintro e w3 ⟨rfl, he3⟩
    go_wp2
    go_ret2
    exact ⟨ret_pm Hn.out.symm, (he1.trans he2).trans he3⟩
  | true =>
  rw [h3] at Ct
  cases h4 : within p f with
  | false =>
    rw [h4] at Cw
    have Hn := Lib.hid (pmove_no (p := p) (f := f) (t := t) fun h => by rw [h4] at h; cases h.2.2.2)
    go_enter Tryz.func92, Tryz.ntmps92
    go_wp2_with fail
    refine (Cp _).mono ?_; rintro e w1 ⟨rfl, he1⟩
    go_wp2_with fail
    refine (Cf _).mono ?_; rintro e w2 ⟨rfl, he2⟩
    go_wp2_with fail
    refine (Ct _).mono ?_; rintro e w3 ⟨rfl, he3⟩
    go_wp2_with fail
    refine (Cw _).mono ?_; rintro e w4 ⟨rfl, he4⟩
    go_wp2
    go_ret2
    exact ⟨ret_pm Hn.out.symm, ((he1.trans he2).trans he3).trans he4⟩
  | true =>
  rw [h4] at Cw
  have hle : f.size ≤ p.size := by
    obtain ⟨ws, hws⟩ := (within_key h2).1 h4
    by_cases hn : ws = []
    · subst hn
      rw [List.append_nil] at hws
      rw [bl_inj (cut_inj hws)]; exact Nat.le_refl _
    · have hp' : bl p = bl f ++ 47 :: joinS ws := by rw [← joinS_cut (bl p), ← hws, joinS_app _ _ (cut_ne _) hn, joinS_cut]
      have := congrArg List.length hp'
      rw [bl_length, List.length_append, bl_length] at this
      omega
  have hlen1 := pathOk_len h1
  have hlen3 := pathOk_len h3
  have Hm : Hid (pmove p f t = if pathOk (t ++ p.extract f.size p.size) = true then some (t ++ p.extract f.size p.size) else none) := Lib.hid (if_pos ⟨h1, h2, h3, h4⟩)
  have hxs : (p.extract f.size p.size).size = p.size - f.size := by simp
  have hsz : (t ++ p.extract f.size p.size).size < lim := by rw [ByteArray.size_append, hxs]; unfold lim; omega
  have Co : ∀ W, Calls Tryz.prog 90 #[.string (t ++ p.extract f.size p.size)] W (Ret (.bool (pathOk (t ++ p.extract f.size p.size))) W) := fun W => specPathValid_c _ W hsz
  clear h1 h2 h3 h4
  cases h5 : pathOk (t ++ p.extract f.size p.size) with
  | false =>
    rw [h5] at Co
    rw [h5] at Hm
    have Hn : Hid (pmove p f t = none) := Lib.hid (Hm.out.trans (if_neg (by simp)))
    clear h5 Hm
    go_enter Tryz.func92, Tryz.ntmps92
    go_wp2_with fail
    refine (Cp _).mono ?_; rintro e w1 ⟨rfl, he1⟩
    go_wp2_with fail
    refine (Cf _).mono ?_; rintro e w2 ⟨rfl, he2⟩
    go_wp2_with fail
    refine (Ct _).mono ?_; rintro e w3 ⟨rfl, he3⟩
    go_wp2_with fail
    refine (Cw _).mono ?_; rintro e w4 ⟨rfl, he4⟩
    go_wp2_with fail
    refine (Co _).mono ?_; rintro e w5 ⟨rfl, he5⟩
    go_wp2
    go_ret2
    exact ⟨ret_pm Hn.out.symm, (((he1.trans he2).trans he3).trans he4).trans he5⟩
  | true =>
    rw [h5] at Co
    rw [h5] at Hm
    have Hn : Hid (pmove p f t = some (t ++ p.extract f.size p.size)) := Lib.hid (Hm.out.trans (if_pos rfl))
    clear h5 Hm
    go_enter Tryz.func92, Tryz.ntmps92
    go_wp2_with fail
    refine (Cp _).mono ?_; rintro e w1 ⟨rfl, he1⟩
    go_wp2_with fail
    refine (Cf _).mono ?_; rintro e w2 ⟨rfl, he2⟩
    go_wp2_with fail
    refine (Ct _).mono ?_; rintro e w3 ⟨rfl, he3⟩
    go_wp2_with fail
    refine (Cw _).mono ?_; rintro e w4 ⟨rfl, he4⟩
    go_wp2_with fail
    refine (Co _).mono ?_; rintro e w5 ⟨rfl, he5⟩
    go_wp2
    go_ret2
    exact ⟨ret_pm Hn.out.symm, (((he1.trans he2).trans he3).trans he4).trans he5⟩
end Go.Sf
