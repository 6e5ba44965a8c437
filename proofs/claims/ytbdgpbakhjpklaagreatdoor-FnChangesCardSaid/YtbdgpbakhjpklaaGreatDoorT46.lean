/- The program's move of a path; the closure that turns paths. -/
import Derived.Test.YtbdgpbakhjpklaaGreatDoorT45
namespace Go.Sf
open Go Go.RowKit Go.Proofs
theorem within_le {p f : ByteArray} (h2 : pathOk f = true) (h4 : within p f = true) : f.size ≤ p.size := by
  obtain ⟨ws, hws⟩ := (within_key h2).1 h4
  by_cases hn : ws = []
  · subst hn
    rw [List.append_nil] at hws
    rw [bl_inj (cut_inj hws)]; exact Nat.le_refl _
  · have hp' : bl p = bl f ++ 47 :: joinS ws := by rw [← joinS_cut (bl p), ← hws, joinS_app _ _ (cut_ne _) hn, joinS_cut]
    have := congrArg List.length hp'
    rw [bl_length, List.length_append, bl_length] at this
    omega
set_option maxHeartbeats 1000000 in
theorem implMove_c (p f t : ByteArray) (w : World) (hp : p.size < lim) (hf : f.size < lim) (ht : t.size < lim) (hm : ML w) : Calls Tryz.prog 57 #[.string p, .string f, .string t] w (Ret (pmV (pmove p f t)) w) := by
  have Cf : ∀ W, Ext w W → Calls Tryz.prog 94 #[.string f] W (Ret (.bool (pathOk f)) W) := fun W e => valid_c f W hf (hm.ext e)
  have Ct : ∀ W, Ext w W → Calls Tryz.prog 94 #[.string t] W (Ret (.bool (pathOk t)) W) := fun W e => valid_c t W ht (hm.ext e)
  have Cw : ∀ W, Ext w W → Calls Tryz.prog 50 #[.string p, .string f] W (Ret (.bool (pathOk p && within p f)) W) := fun W e => implWithin_c p f W hp hf (hm.ext e)
  have Hm0 := Lib.hid hm
  clear hm
  unfold lim at hp hf ht
  cases h2 : pathOk f with
  | false =>
    rw [h2] at Cf
    have Hn := Lib.hid (pmove_no (p := p) (f := f) (t := t) fun h => by rw [h2] at h; cases h.2.1)
    clear h2
    go_enter Tryz.func57, Tryz.ntmps57
    go_wp2_with fail
    refine (Cf _ (Ext.refl w)).mono ?_; rintro e w1 ⟨rfl, he1⟩
    have E1 := (Ext.refl w).trans he1
    go_wp2
    go_ret2
    exact ⟨ret_pm Hn.out.symm, E1⟩
  | true =>
  rw [h2] at Cf
  cases h3 : pathOk t with
  | false =>
    rw [h3] at Ct
    have Hn := Lib.hid (pmove_no (p := p) (f := f) (t := t) fun h => by rw [h3] at h; cases h.2.2.1)
    clear h2 h3
    go_enter Tryz.func57, Tryz.ntmps57
    go_wp2_with fail
    refine (Cf _ (Ext.refl w)).mono ?_; rintro e w1 ⟨rfl, he1⟩
    have E1 := (Ext.refl w).trans he1
    go_wp2_with fail
    refine (Ct _ E1).mono ?_; rintro e w2 ⟨rfl, he2⟩
    have E2 := E1.trans he2
    go_wp2
    go_ret2
    exact ⟨ret_pm Hn.out.symm, E2⟩
  | true =>
  rw [h3] at Ct
  cases h4 : (pathOk p && within p f) with
  | false =>
    rw [h4] at Cw
    have Hn := Lib.hid (pmove_no (p := p) (f := f) (t := t) fun h => by rw [h.1, h.2.2.2] at h4; cases h4)
    clear h2 h3 h4
    go_enter Tryz.func57, Tryz.ntmps57
    go_wp2_with fail
    refine (Cf _ (Ext.refl w)).mono ?_; rintro e w1 ⟨rfl, he1⟩
    have E1 := (Ext.refl w).trans he1
    go_wp2_with fail
    refine (Ct _ E1).mono ?_; rintro e w2 ⟨rfl, he2⟩
    have E2 := E1.trans he2
    go_wp2_with fail
    refine (Cw _ E2).mono ?_; rintro e w3 ⟨rfl, he3⟩
    have E3 := E2.trans he3
    go_wp2
    go_ret2
    exact ⟨ret_pm Hn.out.symm, E3⟩
  | true =>
  rw [h4] at Cw
  rw [Bool.and_eq_true] at h4
  obtain ⟨h1, h4⟩ := h4
  have hle := within_le h2 h4
  have hlen1 := pathOk_len h1
  have hlen3 := pathOk_len h3
  have Hm : Hid (pmove p f t = if pathOk (t ++ p.extract f.size p.size) = true then some (t ++ p.extract f.size p.size) else none) := Lib.hid (if_pos ⟨h1, h2, h3, h4⟩)
  have hxs : (p.extract f.size p.size).size = p.size - f.size := by simp
  have hsz : (t ++ p.extract f.size p.size).size < lim := by rw [ByteArray.size_append, hxs]; unfold lim; omega
  have Co : ∀ W, Ext w W → Calls Tryz.prog 94 #[.string (t ++ p.extract f.size p.size)] W (Ret (.bool (pathOk (t ++ p.extract f.size p.size))) W) := fun W e => valid_c _ W hsz (Hm0.out.ext e)
  clear h1 h2 h3 h4
  cases h5 : pathOk (t ++ p.extract f.size p.size) with
  | false =>
    rw [h5] at Co
    rw [h5] at Hm
    have Hn : Hid (pmove p f t = none) := Lib.hid (Hm.out.trans (if_neg (by simp)))
    clear h5 Hm
    go_enter Tryz.func57, Tryz.ntmps57
    go_wp2_with fail
    refine (Cf _ (Ext.refl w)).mono ?_; rintro e w1 ⟨rfl, he1⟩
    have E1 := (Ext.refl w).trans he1
    go_wp2_with fail
    refine (Ct _ E1).mono ?_; rintro e w2 ⟨rfl, he2⟩
    have E2 := E1.trans he2
    go_wp2_with fail
    refine (Cw _ E2).mono ?_; rintro e w3 ⟨rfl, he3⟩
    have E3 := E2.trans he3
    go_wp2_with fail
    refine (Co _ E3).mono ?_; rintro e w4 ⟨rfl, he4⟩
    have E4 := E3.trans he4
    go_wp2
    go_ret2
    exact ⟨ret_pm Hn.out.symm, E4⟩
  | true =>
    rw [h5] at Co
    rw [h5] at Hm
    have Hn : Hid (pmove p f t = some (t ++ p.extract f.size p.size)) := Lib.hid (Hm.out.trans (if_pos rfl))
    clear h5 Hm
    go_enter Tryz.func57, Tryz.ntmps57
    go_wp2_with fail
    refine (Cf _ (Ext.refl w)).mono ?_; rintro e w1 ⟨rfl, he1⟩
    have E1 := (Ext.refl w).trans he1
    go_wp2_with fail
    refine (Ct _ E1).mono ?_; rintro e w2 ⟨rfl, he2⟩
    have E2 := E1.trans he2
    go_wp2_with fail
    refine (Cw _ E2).mono ?_; rintro e w3 ⟨rfl, he3⟩
    have E3 := E2.trans he3
    go_wp2_with fail
    refine (Co _ E3).mono ?_; rintro e w4 ⟨rfl, he4⟩
    have E4 := E3.trans he4
    go_wp2
    go_ret2
    exact ⟨ret_pm Hn.out.symm, E4⟩
set_option maxHeartbeats 1000000 in
theorem PathMove_c (p f t : ByteArray) (w : World) (hp : p.size < lim) (hf : f.size < lim) (ht : t.size < lim) (hm : ML w) : Calls Tryz.prog 24 #[.string p, .string f, .string t] w (Ret (pmV (pmove p f t)) w) := by
  have C := implMove_c p f t w hp hf ht hm
  cases h : pmove p f t with
  | none =>
    rw [h] at C
    change Calls _ _ _ _ (Ret (.tuple #[.string ⟨#[]⟩, .bool false]) w) at C
    clear h
    go_enter Tryz.func24, Tryz.ntmps24
    go_wp2_with (go_at_call 57; refine C.mono ?_; rintro e w1 ⟨rfl, he1⟩)
    go_ret2
    exact ⟨rfl, he1⟩
  | some o =>
    rw [h] at C
    change Calls _ _ _ _ (Ret (.tuple #[.string o, .bool true]) w) at C
    clear h
    go_enter Tryz.func24, Tryz.ntmps24
    go_wp2_with (go_at_call 57; refine C.mono ?_; rintro e w1 ⟨rfl, he1⟩)
    go_ret2
    exact ⟨rfl, he1⟩
/-- the closure that turner hands back, its two paths in blocks of their own -/
def TurnF (f t : ByteArray) (v : Value) (w : World) : Prop := ∃ a b, v = .func (.func 114) #[] #[.pointer (some ⟨a, 0, none⟩), .pointer (some ⟨b, 0, none⟩)] ∧ Blk w a 9 #[.string f] ∧ Blk w b 9 #[.string t]
set_option maxHeartbeats 1000000 in
theorem turner_c (f t : ByteArray) (w : World) : Calls Tryz.prog 85 #[.string f, .string t] w (RetP (TurnF f t) w) := by
  go_enter Tryz.func85, Tryz.ntmps85
  go_wp2
  go_ret
  have b1 := (Blk.new w 9 #[.string f]).alloc (.cells #[.string t] 9)
  have b2 := Blk.new (w.alloc (.cells #[.string f] 9)) 9 #[.string t]
  simp only [World.size_alloc] at b2
  exact ⟨_, rfl, ⟨_, _, rfl, b1, b2⟩, ((Ext.refl w).alloc _).alloc _⟩
set_option maxHeartbeats 1000000 in
theorem turner1_c (p f t : ByteArray) {a b : Nat} (w : World) (ha : Blk w a 9 #[.string f]) (hb : Blk w b 9 #[.string t]) (hp : p.size < lim) (hf : f.size < lim) (ht : t.size < lim) (hm : ML w) :
    Calls Tryz.prog 114 #[.string p, .pointer (some ⟨a, 0, none⟩), .pointer (some ⟨b, 0, none⟩)] w (Ret (pmV (pmove p f t)) w) := by
  have C := PathMove_c p f t w hp hf ht hm
  have c0 := ha.cell 0; have c1 := hb.cell 0
  simp at c0 c1
  clear ha hb
  cases h : pmove p f t with
  | none =>
    rw [h] at C
    change Calls _ _ _ _ (Ret (.tuple #[.string ⟨#[]⟩, .bool false]) w) at C
    clear h
    go_enter Tryz.func114, Tryz.ntmps114
    go_wp2_with (go_at_call 24; refine C.mono ?_; rintro e w1 ⟨rfl, he1⟩)
    go_ret2
    exact ⟨rfl, he1⟩
  | some o =>
    rw [h] at C
    change Calls _ _ _ _ (Ret (.tuple #[.string o, .bool true]) w) at C
    clear h
    go_enter Tryz.func114, Tryz.ntmps114
    go_wp2_with (go_at_call 24; refine C.mono ?_; rintro e w1 ⟨rfl, he1⟩)
    go_ret2
    exact ⟨rfl, he1⟩
end Go.Sf
