/- The program's paths within others, and moved. -/
import Derived.Test.YtbdgpbakhjpklaaGreatDoorGJ
import Derived.Test.YtbdgpbakhjpklaaGreatDoorT28
/-! The program's paths within others, and moved. -/
namespace Go.Sf
open Go Go.RowKit Go.Proofs
def hasPre (s p : ByteArray) : Bool := decide (bl p <+: bl s)
theorem hasPre_short {s p : ByteArray} (h : s.size < p.size) : hasPre s p = false := by
  unfold hasPre
  rw [decide_eq_false_iff_not]
  intro hp
  have := hp.length_le
  rw [bl_length, bl_length] at this
  omega
theorem hasPre_long {s p : ByteArray} (_h : p.size ≤ s.size) : hasPre s p = eqb (s.extract 0 p.size) p := by
  have hb : bl (s.extract 0 p.size) = (bl s).take p.size := by rw [bl_extract, List.drop_zero]
  unfold hasPre
  cases he : eqb (s.extract 0 p.size) p with
  | true =>
    rw [decide_eq_true_eq]
    have := congrArg bl (eqb_true.1 he)
    rw [hb] at this
    exact ⟨(bl s).drop p.size, by rw [← this, List.take_append_drop]⟩
  | false =>
    rw [decide_eq_false_iff_not]
    rintro ⟨r, hr⟩
    refine eqb_false.1 he (bl_inj ?_)
    rw [hb, ← hr, ← bl_length, List.take_left]
set_option maxHeartbeats 1000000 in
theorem lite_HasPrefix_c (s p : ByteArray) (w : World) (_hs : s.size < lim) (_hp : p.size ≤ lim) : Calls Tryz.prog 121 #[.string s, .string p] w (Ret (.bool (hasPre s p)) w) := by
  by_cases h : p.size ≤ s.size
  · have h1 : (p.size : Int) ≤ (s.size : Int) := by omega
    have Hh := Lib.hid (hasPre_long h)
    go_enter Tryz.func121, Tryz.ntmps121
    go_wp2
    go_ret
    refine ⟨ret_b ?_, Ext.refl w⟩
    rw [Hh.out]
    cases he : eqb (s.extract 0 p.size) p with
    | true => rw [eqb_true.1 he]; simp
    | false => rw [bytes_ne_iff, decide_eq_false_iff_not]; exact eqb_false.1 he
  · have h1 : ¬ (p.size : Int) ≤ (s.size : Int) := by omega
    have Hh := Lib.hid (hasPre_short (s := s) (p := p) (by omega))
    go_enter Tryz.func121, Tryz.ntmps121
    go_wp2
    go_ret
    exact ⟨ret_b Hh.out.symm, Ext.refl w⟩
set_option maxHeartbeats 1000000 in
theorem HasPrefix_c (s p : ByteArray) (w : World) (hs : s.size < lim) (hp : p.size ≤ lim) : Calls Tryz.prog 95 #[.string s, .string p] w (Ret (.bool (hasPre s p)) w) := by
  go_enter Tryz.func95, Tryz.ntmps95
  go_wp2_with (go_at_call 121; refine (lite_HasPrefix_c s p _ hs hp).mono ?_; rintro e w1 ⟨rfl, he1⟩)
  go_ret
  exact ⟨rfl, he1⟩
theorem within_pre {p d : ByteArray} (h0 : bl d ≠ []) (h1 : p ≠ d) : within p d = hasPre p (d ++ (⟨#[47]⟩ : ByteArray)) := by
  unfold within hasPre
  rw [bl_push]
  congr 1
  simp [h0, h1]
theorem dir_ok {p d : ByteArray} (hp : pathOk p = true) (h : bl d ++ [47] <+: bl p) : pathOk d = true := by
  obtain ⟨r, hr⟩ := h
  rw [List.append_assoc] at hr
  have hc : cut (bl p) = cut (bl d) ++ cut r := by rw [← hr]; exact cut_app _ _
  obtain ⟨h1, h2⟩ := pathOk_words hp
  rw [hc, List.all_append, Bool.and_eq_true] at h1
  rw [hc, List.length_append] at h2
  exact pathOk_of h1.1 (by omega)
theorem within_bad {p d : ByteArray} (hp : pathOk p = true) (h0 : bl d ≠ []) (h1 : p ≠ d) (hd : pathOk d = false) : within p d = false := by
  rw [within_pre h0 h1, hasPre, bl_push, decide_eq_false_iff_not]
  intro h
  rw [dir_ok hp h] at hd; cases hd
set_option maxHeartbeats 1000000 in
theorem implWithin_c (p d : ByteArray) (w : World) (hp : p.size < lim) (hd : d.size < lim) (hm : ML w) : Calls Tryz.prog 50 #[.string p, .string d] w (Ret (.bool (pathOk p && within p d)) w) := by
  have Cp : Calls Tryz.prog 94 #[.string p] w (Ret (.bool (pathOk p)) w) := valid_c p w hp hm
  have Cd : ∀ W, Ext w W → Calls Tryz.prog 94 #[.string d] W (Ret (.bool (pathOk d)) W) := fun W e => valid_c d W hd (hm.ext e)
  have Ch : ∀ W, Calls Tryz.prog 95 #[.string p, .string (d ++ (⟨#[47]⟩ : ByteArray))] W (Ret (.bool (hasPre p (d ++ (⟨#[47]⟩ : ByteArray)))) W) := fun W => HasPrefix_c _ _ W hp (by rw [ByteArray.size_append]; show d.size + 1 ≤ lim; omega)
  clear hm
  unfold lim at hp hd
  cases h1 : pathOk p with
  | false =>
    rw [h1] at Cp
    clear h1
    go_enter Tryz.func50, Tryz.ntmps50
    go_wp2_with (go_at_call 94; refine Cp.mono ?_; rintro e w1 ⟨rfl, he1⟩)
    go_ret
    exact ⟨rfl, he1⟩
  | true =>
  rw [h1] at Cp
  rw [Bool.true_and]
  by_cases h0 : bl d = []
  · have h0' : d.toList.isEmpty = true := by rw [emp_iff.2 h0]; rfl
    have Hr := Lib.hid (within_emp (p := p) h0)
    clear h0 h1
    go_enter Tryz.func50, Tryz.ntmps50
    go_wp2_with (go_at_call 94; refine Cp.mono ?_; rintro e w1 ⟨rfl, he1⟩)
    go_ret
    exact ⟨ret_b Hr.out.symm, he1⟩
  have h0' : d.toList.isEmpty = false := emp_false h0
  by_cases h2 : p = d
  · have Hr := Lib.hid (within_eq h2)
    subst h2
    clear h0 h1
    go_enter Tryz.func50, Tryz.ntmps50
    go_wp2_with fail
    refine Cp.mono ?_; rintro e w1 ⟨rfl, he1⟩
    go_wp2
    go_ret
    exact ⟨ret_b Hr.out.symm, he1⟩
  have h2' : (p.toList == d.toList) = false := by rw [bytes_ne_iff, decide_eq_false_iff_not]; exact h2
  cases h3 : pathOk d with
  | false =>
    have Hr := Lib.hid (within_bad h1 h0 h2 h3)
    rw [h3] at Cd
    clear h0 h1 h2 h3
    go_enter Tryz.func50, Tryz.ntmps50
    go_wp2_with fail
    refine Cp.mono ?_; rintro e w1 ⟨rfl, he1⟩
    go_wp2_with fail
    refine (Cd _ he1).mono ?_; rintro e w2 ⟨rfl, he2⟩
    go_wp2
    go_ret
    exact ⟨ret_b Hr.out.symm, he1.trans he2⟩
  | true =>
    have Hr := Lib.hid (within_pre h0 h2)
    rw [h3] at Cd
    clear h0 h1 h2 h3
    go_enter Tryz.func50, Tryz.ntmps50
    go_wp2_with fail
    refine Cp.mono ?_; rintro e w1 ⟨rfl, he1⟩
    go_wp2_with fail
    refine (Cd _ he1).mono ?_; rintro e w2 ⟨rfl, he2⟩
    go_wp2_with fail
    refine (Ch _).mono ?_; rintro e w3 ⟨rfl, he3⟩
    go_wp2
    go_ret
    exact ⟨ret_b Hr.out.symm, (he1.trans he2).trans he3⟩
set_option maxHeartbeats 1000000 in
theorem PathWithin_c (p d : ByteArray) (w : World) (hp : p.size < lim) (hd : d.size < lim) (hm : ML w) : Calls Tryz.prog 18 #[.string p, .string d] w (Ret (.bool (pathOk p && within p d)) w) := by
  go_enter Tryz.func18, Tryz.ntmps18
  go_wp2_with (go_at_call 50; refine (implWithin_c p d _ hp hd hm).mono ?_; rintro e w1 ⟨rfl, he1⟩)
  go_ret
  exact ⟨rfl, he1⟩
end Go.Sf

/-! The program's move of a path; the closure that turns paths. -/
namespace Go.Sf
open Go Go.RowKit Go.Proofs
theorem within_le {p f : ByteArray} (h2 : pathOk f = true) (h4 : within p f = true) : f.size ≤ p.size := by
  obtain ⟨ws, hws⟩ := (within_key h2).1 h4
  by_cases hn : ws = []
  · subst hn
    rw [List.append_nil] at hws
    rw [bl_inj (cut_inj hws)]; exact Nat.le_refl _
  · have hp' : bl p = bl f ++ 47 :: joinS ws := by rw [← joinS_cut (bl p), ← hws, joinS_app _ _ (cut_ne _) hn, joinS_cut]
    have := congrArg List.length hp'
    rw [bl_length, List.length_append, bl_length] at this
    omega
set_option maxHeartbeats 1000000 in
theorem implMove_c (p f t : ByteArray) (w : World) (hp : p.size < lim) (hf : f.size < lim) (ht : t.size < lim) (hm : ML w) : Calls Tryz.prog 57 #[.string p, .string f, .string t] w (Ret (pmV (pmove p f t)) w) := by
  have Cf : ∀ W, Ext w W → Calls Tryz.prog 94 #[.string f] W (Ret (.bool (pathOk f)) W) := fun W e => valid_c f W hf (hm.ext e)
  have Ct : ∀ W, Ext w W → Calls Tryz.prog 94 #[.string t] W (Ret (.bool (pathOk t)) W) := fun W e => valid_c t W ht (hm.ext e)
  have Cw : ∀ W, Ext w W → Calls Tryz.prog 50 #[.string p, .string f] W (Ret (.bool (pathOk p && within p f)) W) := fun W e => implWithin_c p f W hp hf (hm.ext e)
  have Hm0 := Lib.hid hm
  clear hm
  unfold lim at hp hf ht
  cases h2 : pathOk f with
  | false =>
    rw [h2] at Cf
    have Hn := Lib.hid (pmove_no (p := p) (f := f) (t := t) fun h => by rw [h2] at h; cases h.2.1)
    clear h2
    go_enter Tryz.func57, Tryz.ntmps57
    go_wp2_with fail
    refine (Cf _ (Ext.refl w)).mono ?_; rintro e w1 ⟨rfl, he1⟩
    have E1 := (Ext.refl w).trans he1
    go_wp2
    go_ret2
    exact ⟨ret_pm Hn.out.symm, E1⟩
  | true =>
  rw [h2] at Cf
  cases h3 : pathOk t with
  | false =>
    rw [h3] at Ct
    have Hn := Lib.hid (pmove_no (p := p) (f := f) (t := t) fun h => by rw [h3] at h; cases h.2.2.1)
    clear h2 h3
    go_enter Tryz.func57, Tryz.ntmps57
    go_wp2_with fail
    refine (Cf _ (Ext.refl w)).mono ?_; rintro e w1 ⟨rfl, he1⟩
    have E1 := (Ext.refl w).trans he1
    go_wp2_with fail
    refine (Ct _ E1).mono ?_; rintro e w2 ⟨rfl, he2⟩
    have E2 := E1.trans he2
    go_wp2
    go_ret2
    exact ⟨ret_pm Hn.out.symm, E2⟩
  | true =>
  rw [h3] at Ct
  cases h4 : (pathOk p && within p f) with
  | false =>
    rw [h4] at Cw
    have Hn := Lib.hid (pmove_no (p := p) (f := f) (t := t) fun h => by rw [h.1, h.2.2.2] at h4; cases h4)
    clear h2 h3 h4
    go_enter Tryz.func57, Tryz.ntmps57
    go_wp2_with fail
    refine (Cf _ (Ext.refl w)).mono ?_; rintro e w1 ⟨rfl, he1⟩
    have E1 := (Ext.refl w).trans he1
    go_wp2_with fail
    refine (Ct _ E1).mono ?_; rintro e w2 ⟨rfl, he2⟩
    have E2 := E1.trans he2
    go_wp2_with fail
    refine (Cw _ E2).mono ?_; rintro e w3 ⟨rfl, he3⟩
    have E3 := E2.trans he3
    go_wp2
    go_ret2
    exact ⟨ret_pm Hn.out.symm, E3⟩
  | true =>
  rw [h4] at Cw
  rw [Bool.and_eq_true] at h4
  obtain ⟨h1, h4⟩ := h4
  have hle := within_le h2 h4
  have hlen1 := pathOk_len h1
  have hlen3 := pathOk_len h3
  have Hm : Hid (pmove p f t = if pathOk (t ++ p.extract f.size p.size) = true then some (t ++ p.extract f.size p.size) else none) := Lib.hid (if_pos ⟨h1, h2, h3, h4⟩)
  have hxs : (p.extract f.size p.size).size = p.size - f.size := by simp
  have hsz : (t ++ p.extract f.size p.size).size < lim := by rw [ByteArray.size_append, hxs]; unfold lim; omega
  have Co : ∀ W, Ext w W → Calls Tryz.prog 94 #[.string (t ++ p.extract f.size p.size)] W (Ret (.bool (pathOk (t ++ p.extract f.size p.size))) W) := fun W e => valid_c _ W hsz (Hm0.out.ext e)
  clear h1 h2 h3 h4
  cases h5 : pathOk (t ++ p.extract f.size p.size) with
  | false =>
    rw [h5] at Co
    rw [h5] at Hm
    have Hn : Hid (pmove p f t = none) := Lib.hid (Hm.out.trans (if_neg (by simp)))
    clear h5 Hm
    go_enter Tryz.func57, Tryz.ntmps57
    go_wp2_with fail
    refine (Cf _ (Ext.refl w)).mono ?_; rintro e w1 ⟨rfl, he1⟩
    have E1 := (Ext.refl w).trans he1
    go_wp2_with fail
    refine (Ct _ E1).mono ?_; rintro e w2 ⟨rfl, he2⟩
    have E2 := E1.trans he2
    go_wp2_with fail
    refine (Cw _ E2).mono ?_; rintro e w3 ⟨rfl, he3⟩
    have E3 := E2.trans he3
    go_wp2_with fail
    refine (Co _ E3).mono ?_; rintro e w4 ⟨rfl, he4⟩
    have E4 := E3.trans he4
    go_wp2
    go_ret2
    exact ⟨ret_pm Hn.out.symm, E4⟩
  | true =>
    rw [h5] at Co
    rw [h5] at Hm
    have Hn : Hid (pmove p f t = some (t ++ p.extract f.size p.size)) := Lib.hid (Hm.out.trans (if_pos rfl))
    clear h5 Hm
    go_enter Tryz.func57, Tryz.ntmps57
    go_wp2_with fail
    refine (Cf _ (Ext.refl w)).mono ?_; rintro e w1 ⟨rfl, he1⟩
    have E1 := (Ext.refl w).trans he1
    go_wp2_with fail
    refine (Ct _ E1).mono ?_; rintro e w2 ⟨rfl, he2⟩
    have E2 := E1.trans he2
    go_wp2_with fail
    refine (Cw _ E2).mono ?_; rintro e w3 ⟨rfl, he3⟩
    have E3 := E2.trans he3
    go_wp2_with fail
    refine (Co _ E3).mono ?_; rintro e w4 ⟨rfl, he4⟩
    have E4 := E3.trans he4
    go_wp2
    go_ret2
    exact ⟨ret_pm Hn.out.symm, E4⟩
set_option maxHeartbeats 1000000 in
theorem PathMove_c (p f t : ByteArray) (w : World) (hp : p.size < lim) (hf : f.size < lim) (ht : t.size < lim) (hm : ML w) : Calls Tryz.prog 24 #[.string p, .string f, .string t] w (Ret (pmV (pmove p f t)) w) := by
  have C := implMove_c p f t w hp hf ht hm
  cases h : pmove p f t with
  | none =>
    rw [h] at C
    change Calls _ _ _ _ (Ret (.tuple #[.string ⟨#[]⟩, .bool false]) w) at C
    clear h
    go_enter Tryz.func24, Tryz.ntmps24
    go_wp2_with (go_at_call 57; refine C.mono ?_; rintro e w1 ⟨rfl, he1⟩)
    go_ret2
    exact ⟨rfl, he1⟩
  | some o =>
    rw [h] at C
    change Calls _ _ _ _ (Ret (.tuple #[.string o, .bool true]) w) at C
    clear h
    go_enter Tryz.func24, Tryz.ntmps24
    go_wp2_with (go_at_call 57; refine C.mono ?_; rintro e w1 ⟨rfl, he1⟩)
    go_ret2
    exact ⟨rfl, he1⟩
/-- the closure that turner hands back, its two paths in blocks of their own -/
def TurnF (f t : ByteArray) (v : Value) (w : World) : Prop := ∃ a b, v = .func (.func 114) #[] #[.pointer (some ⟨a, 0, none⟩), .pointer (some ⟨b, 0, none⟩)] ∧ Blk w a 9 #[.string f] ∧ Blk w b 9 #[.string t]
set_option maxHeartbeats 1000000 in
theorem turner_c (f t : ByteArray) (w : World) : Calls Tryz.prog 85 #[.string f, .string t] w (RetP (TurnF f t) w) := by
  go_enter Tryz.func85, Tryz.ntmps85
  go_wp2
  go_ret
  have b1 := (Blk.new w 9 #[.string f]).alloc (.cells #[.string t] 9)
  have b2 := Blk.new (w.alloc (.cells #[.string f] 9)) 9 #[.string t]
  simp only [World.size_alloc] at b2
  exact ⟨_, rfl, ⟨_, _, rfl, b1, b2⟩, ((Ext.refl w).alloc _).alloc _⟩
set_option maxHeartbeats 1000000 in
theorem turner1_c (p f t : ByteArray) {a b : Nat} (w : World) (ha : Blk w a 9 #[.string f]) (hb : Blk w b 9 #[.string t]) (hp : p.size < lim) (hf : f.size < lim) (ht : t.size < lim) (hm : ML w) :
    Calls Tryz.prog 114 #[.string p, .pointer (some ⟨a, 0, none⟩), .pointer (some ⟨b, 0, none⟩)] w (Ret (pmV (pmove p f t)) w) := by
  have C := PathMove_c p f t w hp hf ht hm
  have c0 := ha.cell 0; have c1 := hb.cell 0
  simp at c0 c1
  clear ha hb
  cases h : pmove p f t with
  | none =>
    rw [h] at C
    change Calls _ _ _ _ (Ret (.tuple #[.string ⟨#[]⟩, .bool false]) w) at C
    clear h
    go_enter Tryz.func114, Tryz.ntmps114
    go_wp2_with (go_at_call 24; refine C.mono ?_; rintro e w1 ⟨rfl, he1⟩)
    go_ret2
    exact ⟨rfl, he1⟩
  | some o =>
    rw [h] at C
    change Calls _ _ _ _ (Ret (.tuple #[.string o, .bool true]) w) at C
    clear h
    go_enter Tryz.func114, Tryz.ntmps114
    go_wp2_with (go_at_call 24; refine C.mono ?_; rintro e w1 ⟨rfl, he1⟩)
    go_ret2
    exact ⟨rfl, he1⟩
end Go.Sf

/-! The items within a path, as they are within another one. -/
namespace Go.Sf
open Go Go.RowKit Go.Proofs
/-- what turned hands back -/
def TurnedP (w : World) (l : List It) (f t : ByteArray) (r : Value) (w' : World) : Prop :=
  ((mvOk l f t = false ∨ copyAll f t l = none) ∧ r = .tuple #[.slice none 0 0, .bool false]) ∨ (mvOk l f t = true ∧ ∃ cs v, copyAll f t l = some cs ∧ r = .tuple #[v, .bool true] ∧ OwnS w.heap.size 32 3 (EIt w.heap.size) w' v cs)
theorem findV_none {l : List It} {adr : Key → Nat} {p : ByteArray} (h : (findIt l p).isSome = false) : findV l adr p = .pointer none := by
  unfold findV
  cases hf : findIt l p with
  | none => rfl
  | some x => rw [hf] at h; cases h
theorem findV_some {l : List It} {adr : Key → Nat} {p : ByteArray} (h : (findIt l p).isSome = true) : ∃ a, findV l adr p = .pointer (some ⟨a, 0, none⟩) := by
  unfold findV
  cases hf : findIt l p with
  | none => rw [hf] at h; cases h
  | some x => exact ⟨_, rfl⟩
theorem mvOk_if6 {l : List It} {f t : ByteArray} {b1 b2 b3 b4 b5 b6 : Bool} (h1 : treeOk l = b1) (h2 : pathOk f = b2) (h3 : pathOk t = b3) (h4 : (findIt l f).isSome = b4) (h5 : within t f = b5) (h6 : (findIt l t).isSome = b6) : mvOk l f t = (b1 && (b2 && (b3 && (b4 && (!b5 && !b6))))) := by
  unfold mvOk; rw [h1, h2, h3, h4, h5, h6]
section
variable {B : Nat} {l : List It} {adr : Key → Nat} {kv : Key → Value}
set_option maxRecDepth 8000 in
set_option maxHeartbeats 2000000 in
theorem turned_c (f t : ByteArray) {w : World} (h : TreeAt B w l adr kv) (htr : treeOk l = true) (hf : f.size < lim) (ht : t.size < lim) (hm : ML w) :
    Calls Tryz.prog 44 #[.pointer (some ⟨adr [], 0, none⟩), .string f, .string t] w (RetP (TurnedP w l f t) w) := by
  have hg := treeOk_iff'.1 htr
  have hl12 : l.length ≤ lim := by have := hg.1; unfold lim; omega
  have H := Lib.hid h; have HG := Lib.hid hg; have HM := Lib.hid hm; have Htr := Lib.hid htr
  have C1 : ∀ W, Ext w W → Calls Tryz.prog 84 #[.string f] W (Ret (.bool (pathOk f)) W) := fun W e => PathValid_c f W hf (HM.out.ext e)
  have C2 : ∀ W, Ext w W → Calls Tryz.prog 84 #[.string t] W (Ret (.bool (pathOk t)) W) := fun W e => PathValid_c t W ht (HM.out.ext e)
  have C3 : ∀ W, Ext w W → Calls Tryz.prog 56 #[.pointer (some ⟨adr [], 0, none⟩), .string f] W (Ret (findV l adr f) W) := fun W e => nodeFind_c (H.out.ext e) HG.out.2 hl12 f hf (HM.out.ext e)
  have C4 : ∀ W, Ext w W → Calls Tryz.prog 18 #[.string t, .string f] W (Ret (.bool (pathOk t && within t f)) W) := fun W e => PathWithin_c t f W ht hf (HM.out.ext e)
  have C5 : ∀ W, Ext w W → Calls Tryz.prog 56 #[.pointer (some ⟨adr [], 0, none⟩), .string t] W (Ret (findV l adr t) W) := fun W e => nodeFind_c (H.out.ext e) HG.out.2 hl12 t ht (HM.out.ext e)
  clear h hg hm
  cases h1 : pathOk f with
  | false =>
    rw [h1] at C1
    have Hv : Hid (mvOk l f t = false) := Lib.hid (by rw [mvOk_if6 htr h1 rfl rfl rfl rfl]; rfl)
    clear h1 htr
    go_enter Tryz.func44, Tryz.ntmps44
    go_wp2_with fail
    refine (C1 _ (Ext.refl w)).mono ?_; rintro e w1 ⟨rfl, he1⟩
    have E1 := (Ext.refl w).trans he1
    go_wp2
    go_ret2
    exact ⟨_, rfl, .inl ⟨.inl Hv.out, rfl⟩, E1⟩
  | true =>
  rw [h1] at C1
  cases h2 : pathOk t with
  | false =>
    rw [h2] at C2
    have Hv : Hid (mvOk l f t = false) := Lib.hid (by rw [mvOk_if6 htr h1 h2 rfl rfl rfl]; rfl)
    clear h1 h2 htr
    go_enter Tryz.func44, Tryz.ntmps44
    go_wp2_with fail
    refine (C1 _ (Ext.refl w)).mono ?_; rintro e w1 ⟨rfl, he1⟩
    have E1 := (Ext.refl w).trans he1
    go_wp2_with fail
    refine (C2 _ E1).mono ?_; rintro e w2 ⟨rfl, he2⟩
    have E2 := E1.trans he2
    go_wp2
    go_ret2
    exact ⟨_, rfl, .inl ⟨.inl Hv.out, rfl⟩, E2⟩
  | true =>
  rw [h2] at C2 C4
  cases h3 : (findIt l f).isSome with
  | false =>
    rw [findV_none h3] at C3
    have Hv : Hid (mvOk l f t = false) := Lib.hid (by rw [mvOk_if6 htr h1 h2 h3 rfl rfl]; rfl)
    clear h1 h2 h3 htr
    go_enter Tryz.func44, Tryz.ntmps44
    go_wp2_with fail
    refine (C1 _ (Ext.refl w)).mono ?_; rintro e w1 ⟨rfl, he1⟩
    have E1 := (Ext.refl w).trans he1
    go_wp2_with fail
    refine (C2 _ E1).mono ?_; rintro e w2 ⟨rfl, he2⟩
    have E2 := E1.trans he2
    go_wp2_with fail
    refine (C3 _ E2).mono ?_; rintro e w3 ⟨rfl, he3⟩
    have E3 := E2.trans he3
    go_wp2
    go_ret2
    exact ⟨_, rfl, .inl ⟨.inl Hv.out, rfl⟩, E3⟩
  | true =>
  obtain ⟨a3, ha3⟩ := findV_some (adr := adr) h3
  rw [ha3] at C3
  rw [Bool.true_and] at C4
  cases h4 : within t f with
  | true =>
    rw [h4] at C4
    have Hv : Hid (mvOk l f t = false) := Lib.hid (by rw [mvOk_if6 htr h1 h2 h3 h4 rfl]; rfl)
    clear h1 h2 h3 h4 htr ha3
    go_enter Tryz.func44, Tryz.ntmps44
    go_wp2_with fail
    refine (C1 _ (Ext.refl w)).mono ?_; rintro e w1 ⟨rfl, he1⟩
    have E1 := (Ext.refl w).trans he1
    go_wp2_with fail
    refine (C2 _ E1).mono ?_; rintro e w2 ⟨rfl, he2⟩
    have E2 := E1.trans he2
    go_wp2_with fail
    refine (C3 _ E2).mono ?_; rintro e w3 ⟨rfl, he3⟩
    have E3 := E2.trans he3
    go_wp2_with fail
    refine (C4 _ E3).mono ?_; rintro e w4 ⟨rfl, he4⟩
    have E4 := E3.trans he4
    go_wp2
    go_ret2
    exact ⟨_, rfl, .inl ⟨.inl Hv.out, rfl⟩, E4⟩
  | false =>
  rw [h4] at C4
  cases h5 : (findIt l t).isSome with
  | true =>
    obtain ⟨a5, ha5⟩ := findV_some (adr := adr) h5
    rw [ha5] at C5
    have Hv : Hid (mvOk l f t = false) := Lib.hid (by rw [mvOk_if6 htr h1 h2 h3 h4 h5]; rfl)
    clear h1 h2 h3 h4 h5 htr ha3 ha5
    go_enter Tryz.func44, Tryz.ntmps44
    go_wp2_with fail
    refine (C1 _ (Ext.refl w)).mono ?_; rintro e w1 ⟨rfl, he1⟩
    have E1 := (Ext.refl w).trans he1
    go_wp2_with fail
    refine (C2 _ E1).mono ?_; rintro e w2 ⟨rfl, he2⟩
    have E2 := E1.trans he2
    go_wp2_with fail
    refine (C3 _ E2).mono ?_; rintro e w3 ⟨rfl, he3⟩
    have E3 := E2.trans he3
    go_wp2_with fail
    refine (C4 _ E3).mono ?_; rintro e w4 ⟨rfl, he4⟩
    have E4 := E3.trans he4
    go_wp2_with fail
    refine (C5 _ E4).mono ?_; rintro e w5 ⟨rfl, he5⟩
    have E5 := E4.trans he5
    go_wp2
    go_ret2
    exact ⟨_, rfl, .inl ⟨.inl Hv.out, rfl⟩, E5⟩
  | false =>
    rw [findV_none h5] at C5
    have Hv : Hid (mvOk l f t = true) := Lib.hid (by rw [mvOk_if6 htr h1 h2 h3 h4 h5]; rfl)
    clear h1 h2 h3 h4 h5 htr ha3
    go_enter Tryz.func44, Tryz.ntmps44
    go_wp2_with fail
    refine (C1 _ (Ext.refl w)).mono ?_; rintro e w1 ⟨rfl, he1⟩
    have E1 := (Ext.refl w).trans he1
    go_wp2_with fail
    refine (C2 _ E1).mono ?_; rintro e w2 ⟨rfl, he2⟩
    have E2 := E1.trans he2
    go_wp2_with fail
    refine (C3 _ E2).mono ?_; rintro e w3 ⟨rfl, he3⟩
    have E3 := E2.trans he3
    go_wp2_with fail
    refine (C4 _ E3).mono ?_; rintro e w4 ⟨rfl, he4⟩
    have E4 := E3.trans he4
    go_wp2_with fail
    refine (C5 _ E4).mono ?_; rintro e w5 ⟨rfl, he5⟩
    have E5 := E4.trans he5
    have E0 := Lib.hid E5
    clear C1 C2 C3 C4 C5 he1 he2 he3 he4 he5 E1 E2 E3 E4 E5
    go_wp2_with fail
    refine (turner_c f t w5).mono ?_
    rintro e w6 ⟨v6, rfl, ⟨a, b, rfl, hba, hbb⟩, he6⟩
    have HBA := Lib.hid hba; have HBB := Lib.hid hbb
    have E6 := Lib.hid (E0.out.trans he6)
    clear hba hbb he6
    go_wp2_with fail
    refine (list_c (H.out.ext E6.out) HG.out.2 HG.out.1).mono ?_
    rintro e w7 ⟨v7, rfl, hI7, he7⟩
    have hpok : Hid (∀ x, x ∈ l → pathOk x.path = true) := Lib.hid fun x hx => tree_path Htr.out hx
    obtain ⟨A7, c7, rfl, hA7⟩ := hI7
    have HA := Lib.hid hA7
    have E7 := Lib.hid (E6.out.trans he7)
    have HB7 : Hid (Blk w7 a 9 #[.string f] ∧ Blk w7 b 9 #[.string t]) := Lib.hid ⟨HBA.out.ext he7, HBB.out.ext he7⟩
    have HM7 := Lib.hid (HM.out.ext E7.out)
    have hs6 : Hid (w.heap.size ≤ w6.heap.size) := Lib.hid E6.out.size
    have hex : ∃ n, l.length = n := ⟨_, rfl⟩
    obtain ⟨n, hn⟩ := hex
    have hn12 := HG.out.1
    rw [hn] at hn12 ⊢
    have Hn := Lib.hid hn
    clear hA7 hn he7 HBA HBB E6 E0 hl12
    go_wp2
    go_loopw [9, 43] (fun v i wr => ∃ (k : Nat) (out : List It), k ≤ n ∧ i = .int .i64 k ∧ Ext w7 wr ∧ OwnS w7.heap.size 32 3 (EIt w.heap.size) wr v out ∧ out.length ≤ k ∧ Hid (copyAll f t l = (copyAll f t (l.drop k)).map fun ys => out ++ ys)) (fun _ i _ => n - (intOf i).toNat)
    case atStart => exact ⟨0, [], by omega, rfl, Ext.refl _, OwnS.nil _ _ _ _ _, by simp, Lib.hid (by simp)⟩
    case round =>
      obtain ⟨k, out, hk, rfl, he, hO, hol, hrest⟩ := hrel
      have HO := Lib.hid hO
      by_cases hlt : k < n
      · obtain ⟨x, hx⟩ := get_of_lt (l := l) (k := k) (by rw [Hn.out]; exact hlt)
        have hpx := hpok.out x (List.mem_of_getElem? hx)
        obtain ⟨bb, o, u2, rfl, -, -, hps, hu, hc0, hc1, hc2⟩ := Its.at_ HA.out hx
        obtain ⟨Ax, cx, rfl, hux⟩ := hu
        have a0 := fun W (e : Ext wr W) => hc0 W (he.trans e); have a1 := fun W (e : Ext wr W) => hc1 W (he.trans e); have a2 := fun W (e : Ext wr W) => hc2 W (he.trans e)
        have HU : Hid (∀ W, Ext wr W → Ints w.heap.size W (.slice Ax x.ids.length cx) x.ids) := Lib.hid fun W e => (Ints.keep (show Ints w6.heap.size w7 _ _ from ⟨_, _, rfl, hux⟩) hs6.out (fun _ _ _ => rfl)).ext (he.trans e)
        have hd := drop_cons hx
        rw [hd] at hrest
        have Cw : ∀ W, Ext w7 W → Calls Tryz.prog 18 #[.string x.path, .string f] W (Ret (.bool (within x.path f)) W) := fun W e => by
          have := PathWithin_c x.path f W hps hf (HM7.out.ext e)
          rwa [hpx, Bool.true_and] at this
        have Cm : ∀ W, Ext w7 W → Calls Tryz.prog 114 #[.string x.path, .pointer (some ⟨a, 0, none⟩), .pointer (some ⟨b, 0, none⟩)] W (Ret (pmV (pmove x.path f t)) W) := fun W e => turner1_c _ _ _ W (HB7.out.1.ext e) (HB7.out.2.ext e) hps hf ht (HM7.out.ext e)
        have q0 := a0 wr (Ext.refl _); have q1 := a1 wr (Ext.refl _); have q2 := a2 wr (Ext.refl _)
        have hbx := Blk.new wr 32 #[.string x.path, .bool x.dir, .slice Ax x.ids.length cx]
        have HBX := Lib.hid hbx
        have he1 : Ext w7 (wr.alloc (.cells #[.string x.path, .bool x.dir, .slice Ax x.ids.length cx] 32)) := he.alloc _
        clear hc0 hc1 hc2 hux hx hd hO hpx a0 a1 a2 hbx
        cases hw : within x.path f with
        | false =>
          rw [hw] at Cw
          rw [copyAll_out hw] at hrest
          clear hw
          go_wp2_with (go_at_call 18; refine (Cw _ he1).mono ?_; rintro e w8 ⟨rfl, he8⟩)
          go_roundw
          case rel => exact ⟨k + 1, out, by omega, by go_num, he1.trans he8, HO.out.ext (EIt_ok _) (((Ext.refl wr).alloc _).trans he8), by omega, hrest⟩
          case measure => simp [intOf]; omega
        | true =>
          rw [hw] at Cw
          cases hp : pmove x.path f t with
          | none =>
            rw [hp] at Cm
            have Hr : Hid (copyAll f t l = none) := Lib.hid (by rw [hrest.out, copyAll_fail hw hp]; rfl)
            change ∀ W, Ext w7 W → Calls Tryz.prog 114 _ W (Ret (.tuple #[.string ⟨#[]⟩, .bool false]) W) at Cm
            clear hw hp hrest
            go_wp2_with fail
            refine (Cw _ he1).mono ?_
            rintro e w8 ⟨rfl, he8⟩
            have z0 := (HBX.out.ext he8).cell 0
            simp at z0
            go_wp2_with fail
            refine (Cm _ (he1.trans he8)).mono ?_
            rintro e w9 ⟨rfl, he9⟩
            go_wp2
            go_ret2
            exact ⟨_, rfl, .inl ⟨.inr Hr.out, rfl⟩, (E7.out.trans (he1.trans he8)).trans he9⟩
          | some p =>
            rw [hp] at Cm
            have hpp : p.size < lim := by have := pathOk_len (pmove_some hp).2.2.2.2.1; unfold lim; omega
            have Hr : Hid (copyAll f t l = (copyAll f t (l.drop (k + 1))).map fun ys => (out ++ [⟨p, x.dir, x.ids⟩]) ++ ys) := Lib.hid (by
              rw [hrest.out, copyAll_in hw hp, Option.map_map]
              congr 1; funext ys; simp)
            change ∀ W, Ext w7 W → Calls Tryz.prog 114 _ W (Ret (.tuple #[.string p, .bool true]) W) at Cm
            have Hpp := Lib.hid hpp
            clear hw hp hrest hpp
            go_wp2_with fail
            refine (Cw _ he1).mono ?_
            rintro e w8 ⟨rfl, he8⟩
            have z0 := (HBX.out.ext he8).cell 0
            simp at z0
            go_wp2_with fail
            refine (Cm _ (he1.trans he8)).mono ?_
            rintro e w9 ⟨rfl, he9⟩
            have he89 := he8.trans he9
            have hb9 := HBX.out.ext he89
            have d0 := hb9.cell 0; have d1 := hb9.cell 1; have d2 := hb9.cell 2
            have f0 := hb9.frozen 0
            simp at d0 d1 d2
            have hX9 : Ext wr w9 := ((Ext.refl wr).alloc _).trans he89
            have HX10 : Hid (Ext w7 (w9.setCell ⟨wr.heap.size, 0, none⟩ (.string p))) := Lib.hid ((he.trans hX9).setCell he.size _)
            have K10 : KeepsT 32 w9 (w9.setCell ⟨wr.heap.size, 0, none⟩ (.string p)) := KeepsT.set (i := 0) hb9 (.string p) rfl
            have HO10 : Hid (OwnS w7.heap.size 32 3 (EIt w.heap.size) (w9.setCell ⟨wr.heap.size, 0, none⟩ (.string p)) _ out) := Lib.hid ((HO.out.ext (EIt_ok _) hX9).frame (fun g hg => by
              obtain ⟨-, cs', hbg⟩ := HO.out.block hg
              exact Below.heap_setCell w9 ⟨wr.heap.size, 0, none⟩ (.string p) g (Nat.ne_of_lt hbg.lt)) (fun _ _ _ e => EIt.keepT e K10 (by decide)))
            have HU10 : Hid (Ints w.heap.size (w9.setCell ⟨wr.heap.size, 0, none⟩ (.string p)) (.slice Ax x.ids.length cx) x.ids) := Lib.hid ((HU.out _ hX9).keepT K10 (by decide))
            have he10 := HX10.out
            clear hb9 K10 hX9 he89 z0
            go_wp2_with (at_builtin; go_must (refine wp_ap1 (w0 := w7) (by rfl) _ _ (by rfl) el_It (EIt_ok _) he10 _ out [⟨p, x.dir, x.ids⟩] (by rfl) HO10.out 1 1 rfl #[.string p, .bool x.dir, .slice Ax x.ids.length cx] _ (by rfl) (by first | rfl | simp) rfl (one3 rfl) (one_E (eit_of_v (x := ⟨p, x.dir, x.ids⟩) Hpp.out HU10.out)) ?_ ?_))
            · simp; unfold lim; omega
            · intro v' w' hO' he' _
              have HO' := Lib.hid hO'; have HE' := Lib.hid he'
              clear hO' he' he10 d0 d1 d2 f0
              go_wp2
              go_roundw
              case rel => exact ⟨k + 1, _, by omega, by go_num, HE'.out, HO'.out, by simp; omega, Hr⟩
              case measure => simp [intOf]; omega
      · have hks : k = n := by omega
        subst hks
        have Hr : Hid (copyAll f t l = some out) := Lib.hid (by
          rw [hrest.out, List.drop_eq_nil_of_le (by rw [Hn.out]; exact Nat.le_refl _), copyAll]; simp)
        clear hrest hO
        obtain ⟨A', c', rfl⟩ := HO.out.form
        go_wp2
        go_ret2
        exact ⟨_, rfl, .inr ⟨Hv.out, out, _, Hr.out, rfl, HO.out.mono E7.out.size⟩, E7.out.trans he⟩
end
end Go.Sf
