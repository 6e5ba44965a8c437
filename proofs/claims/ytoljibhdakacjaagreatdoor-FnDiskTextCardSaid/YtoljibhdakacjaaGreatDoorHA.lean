/- The reference writes a file of a disk; what it hands back is a disk again. -/
import Derived.Test.YtoljibhdakacjaaGreatDoorGY
import Derived.Test.YtoljibhdakacjaaGreatDoorGR
import Derived.Test.YtoljibhdakacjaaGreatDoorHF
/-! The reference writes a file of a disk; what it hands back is a disk again. -/
namespace Go.Sf
open Go Go.RowKit Go.Proofs
/-- a disk that reads, small -/
def WDk (B : Nat) (us ut un : Value) (w : World) : Prop := ∃ s t l, Hds B w us s ∧ Its B w ut t ∧ Sns B w un l ∧ t.length ≤ 12 ∧ l.length ≤ 7 ∧ ∀ x, x ∈ l → x.tree.length ≤ 12
def OptDk (B : Nat) (r : Value) (w : World) : Prop := ∃ us ut un b, r = .tuple #[.agg #[us, ut, un], .bool b] ∧ WDk B us ut un w
theorem WDk.nil (B : Nat) (w : World) : WDk B (.slice none 0 0) (.slice none 0 0) (.slice none 0 0) w := ⟨[], [], [], SlOf.nil _ _ _ _ _, SlOf.nil _ _ _ _ _, SlOf.nil _ _ _ _ _, by simp, by simp, by simp⟩
theorem OptDk.none_ (B : Nat) (w : World) : OptDk B (.tuple #[.agg #[.slice none 0 0, .slice none 0 0, .slice none 0 0], .bool false]) w := ⟨_, _, _, _, rfl, WDk.nil _ _⟩
theorem disk_small {s : List Hd} {t : List It} {l : List Sn} (h : diskOk s t l = true) : s.length ≤ 16 ∧ t.length ≤ 12 ∧ l.length ≤ 6 ∧ ∀ x, x ∈ l → x.tree.length ≤ 12 := by
  obtain ⟨h1, h2, -, h4, h5⟩ := disk_parts h
  exact ⟨h1.1, (treeOk_iff.1 h2).1, h4, fun x hx => (treeOk_iff.1 (h5 x hx).2.1).1⟩
theorem writeT_tree {s s' : List Hd} {t t' : List It} {p : ByteArray} {bs : List Int} (h : writeT s t p bs = some (s', t')) : t'.length ≤ 12 ∧ treeOk t' = true := by
  unfold writeT at h
  rw [Option.bind_eq_some_iff] at h
  obtain ⟨q, -, h⟩ := h
  rw [Option.map_eq_some_iff] at h
  obtain ⟨t2, h2, e⟩ := h
  cases e
  unfold treePut at h2
  split at h2
  · next hc => cases h2; exact ⟨(treeOk_iff.1 hc.2.2.2).1, hc.2.2.2⟩
  · cases h2
theorem writeT_store {s s' : List Hd} {t t' : List It} {p : ByteArray} {bs : List Int} (h : writeT s t p bs = some (s', t')) : s'.length ≤ 16 := by
  unfold writeT at h
  rw [Option.bind_eq_some_iff] at h
  obtain ⟨⟨s2, ids⟩, h1, h⟩ := h
  rw [Option.map_eq_some_iff] at h
  obtain ⟨t2, h2, e⟩ := h
  have h3 := (fileStore_ok h1).1.1
  have e1 := (Prod.mk.inj e).1
  subst e1
  cases fileOf t p with
  | none => exact h3
  | some x => exact Nat.le_trans (freeAll_len s2 x.ids) h3
set_option maxRecDepth 8000 in
set_option maxHeartbeats 4000000 in
theorem DiskWriteW_c {B B' B2 B3 : Nat} {vs vt vn vb : Value} {s : List Hd} {t : List It} {l : List Sn} {p : ByteArray} {bs : List Int} (w : World) (hs : Hds B w vs s) (ht : Its B' w vt t) (hn : Sns B2 w vn l) (hb : Ints B3 w vb bs) (hp : p.size < lim) :
    Calls Tryz.prog 139 #[.agg #[vs, vt, vn], .string p, vb] w (RetP (OptDk w.heap.size) w) := by
  have HS := Lib.hid hs; have HT := Lib.hid ht; have HN := Lib.hid hn; have HB := Lib.hid hb; have HP := Lib.hid hp
  obtain ⟨A, c, rfl, -⟩ := hs
  obtain ⟨A2, c2, rfl, -⟩ := ht
  obtain ⟨A3, c3, rfl, hA3⟩ := hn
  have HA3 := Lib.hid hA3
  obtain ⟨Ab, cb, rfl, -⟩ := hb
  clear hp
  have hbk := Lib.hid ((Blk.new w 27 #[.slice A s.length c, .slice A2 t.length c2, .slice A3 l.length c3]).alloc (.cells #[.slice none 0 0, .slice none 0 0, .slice none 0 0] 27))
  have hbr : Hid (Blk ((w.alloc (.cells #[.slice A s.length c, .slice A2 t.length c2, .slice A3 l.length c3] 27)).alloc (.cells #[.slice none 0 0, .slice none 0 0, .slice none 0 0] 27)) (w.heap.size + 1) 27 #[.slice none 0 0, .slice none 0 0, .slice none 0 0]) := Lib.hid (by
    have := Blk.new (w.alloc (.cells #[.slice A s.length c, .slice A2 t.length c2, .slice A3 l.length c3] 27)) 27 #[.slice none 0 0, .slice none 0 0, .slice none 0 0]
    simpa using this)
  have e0 : Ext w ((w.alloc (.cells #[.slice A s.length c, .slice A2 t.length c2, .slice A3 l.length c3] 27)).alloc (.cells #[.slice none 0 0, .slice none 0 0, .slice none 0 0] 27)) := ((Ext.refl w).alloc _).alloc _
  have hsz : w.heap.size + 2 ≤ ((w.alloc (.cells #[.slice A s.length c, .slice A2 t.length c2, .slice A3 l.length c3] 27)).alloc (.cells #[.slice none 0 0, .slice none 0 0, .slice none 0 0] 27)).heap.size := by simp
  clear hA3
  go_enter Tryz.func139, Tryz.ntmps139
  go_wp2_with fail
  generalize (w.alloc (.cells #[.slice A s.length c, .slice A2 t.length c2, .slice A3 l.length c3] 27)).alloc (.cells #[.slice none 0 0, .slice none 0 0, .slice none 0 0] 27) = w2 at *
  have D0 := Lib.hid fun W (e : Ext w2 W) => hbk.out.at_ (i := 0) (u := .slice A s.length c) rfl W e
  have D1 := Lib.hid fun W (e : Ext w2 W) => hbk.out.at_ (i := 1) (u := .slice A2 t.length c2) rfl W e
  have D2 := Lib.hid fun W (e : Ext w2 W) => hbk.out.at_ (i := 2) (u := .slice A3 l.length c3) rfl W e
  refine (specDiskValid_c w2 (HS.out.ext e0) (HT.out.ext e0) (HN.out.ext e0)).mono ?_
  rintro e w3 ⟨rfl, he3⟩
  have E3 := e0.trans he3
  cases hv : diskOk s t l with
  | false =>
    have b9 := hbr.out.ext he3
    have c90 := b9.cell 0; have c91 := b9.cell 1; have c92 := b9.cell 2; have f90 := b9.frozen 0; have f91 := b9.frozen 1; have f92 := b9.frozen 2
    simp at c90 c91 c92
    go_wp2
    obtain ⟨p1, -, p3, -⟩ := put_three (a := .slice none 0 0) (b := .slice none 0 0) (c := .slice none 0 0) b9
    have z0 := p1.cell 0; have z1 := p1.cell 1; have z2 := p1.cell 2
    simp at z0 z1 z2
    exact bodyPost_ret (v := .tuple #[.agg #[.slice none 0 0, .slice none 0 0, .slice none 0 0], .bool false]) (by simp [results, Tryz.results139, go_sem, z0, z1, z2]) rfl ⟨_, rfl, OptDk.none_ _ _, p3 w E3 (by omega)⟩
  | true =>
  obtain ⟨hs16, ht12, hl6, hlt12⟩ := disk_small hv
  clear hv
  go_wp2_with fail
  refine (specFileValid_c w3 (HB.out.ext E3)).mono ?_
  rintro e w4 ⟨rfl, he4⟩
  have e24 := he3.trans he4
  have E4 := e0.trans e24
  cases hf : fileOk bs with
  | false =>
    have b9 := hbr.out.ext e24
    have c90 := b9.cell 0; have c91 := b9.cell 1; have c92 := b9.cell 2; have f90 := b9.frozen 0; have f91 := b9.frozen 1; have f92 := b9.frozen 2
    simp at c90 c91 c92
    go_wp2
    obtain ⟨p1, -, p3, -⟩ := put_three (a := .slice none 0 0) (b := .slice none 0 0) (c := .slice none 0 0) b9
    have z0 := p1.cell 0; have z1 := p1.cell 1; have z2 := p1.cell 2
    simp at z0 z1 z2
    exact bodyPost_ret (v := .tuple #[.agg #[.slice none 0 0, .slice none 0 0, .slice none 0 0], .bool false]) (by simp [results, Tryz.results139, go_sem, z0, z1, z2]) rfl ⟨_, rfl, OptDk.none_ _ _, p3 w E4 (by omega)⟩
  | true =>
  clear hf
  have q0 := D0.out _ e24; have q1 := D1.out _ e24; have q2 := D2.out _ e24
  have C1 := l11Write_c w4 (HS.out.ext E4) (HT.out.ext E4) (HB.out.ext E4) HP.out
  cases hw : writeT s t p bs with
  | none =>
    rw [hw] at C1
    go_wp2_with fail
    refine C1.mono ?_
    rintro e w5 ⟨u5, rfl, ⟨us, ut, rfl, hO, hT⟩, he5⟩
    simp only [Option.isSome_none, Option.elim_none] at hO hT ⊢
    obtain ⟨A6, c6, rfl⟩ := hO.form
    obtain ⟨A5, c5, rfl, -⟩ := hT
    have e25 := e24.trans he5
    have E5 := e0.trans e25
    clear q0 q1 q2
    simp only [List.length_nil]
    have e26 := e25.alloc (.cells #[.slice A6 0 c6, .slice A5 0 c5] 61)
    have E6 := e0.trans e26
    have b9 := hbr.out.ext e26
    have c90 := b9.cell 0; have c91 := b9.cell 1; have c92 := b9.cell 2; have f90 := b9.frozen 0; have f91 := b9.frozen 1; have f92 := b9.frozen 2
    simp at c90 c91 c92
    go_wp2
    obtain ⟨p1, -, p3, -⟩ := put_three (a := .slice none 0 0) (b := .slice none 0 0) (c := .slice none 0 0) b9
    have z0 := p1.cell 0; have z1 := p1.cell 1; have z2 := p1.cell 2
    simp at z0 z1 z2
    exact bodyPost_ret (v := .tuple #[.agg #[.slice none 0 0, .slice none 0 0, .slice none 0 0], .bool false]) (by simp [results, Tryz.results139, go_sem, z0, z1, z2]) rfl ⟨_, rfl, OptDk.none_ _ _, p3 w E6 (by omega)⟩
  | some q =>
    obtain ⟨s', t'⟩ := q
    rw [hw] at C1
    have ht' := (writeT_tree hw).1
    have hs' := (writeT_store hw)
    clear hw
    go_wp2_with fail
    refine C1.mono ?_
    rintro e w5 ⟨u5, rfl, ⟨us, ut, rfl, hO, hT⟩, he5⟩
    simp only [Option.isSome_some, Option.elim_some] at hO hT ⊢
    obtain ⟨A6, c6, rfl⟩ := hO.form
    obtain ⟨A5, c5, rfl, -⟩ := id hT
    have e25 := e24.trans he5
    have E5 := e0.trans e25
    have hs45 := E4.size
    have HS5 : Hid (Hds w.heap.size w5 (.slice A6 s'.length c6) s') := Lib.hid ((OwnS.isHds hO (by unfold lim; omega)).keep hs45 (fun _ _ _ => rfl))
    have HT5 : Hid (Its w.heap.size w5 (.slice A5 t'.length c5) t') := Lib.hid (hT.keep hs45 (fun _ _ _ => rfl))
    have hbv := Blk.new w5 61 #[.slice A6 s'.length c6, .slice A5 t'.length c5]
    have HV := Lib.hid hbv
    have e26 := e25.alloc (.cells #[.slice A6 s'.length c6, .slice A5 t'.length c5] 61)
    have E6 := e0.trans e26
    clear q0 q1 q2 hO hT hbv
    have q0 := D0.out _ e26; have q1 := D1.out _ e26; have q2 := D2.out _ e26
    go_wp2_with fail
    refine (l12Copy_c _ (HS.out.ext E6) (HT.out.ext E6) (HN.out.ext E6)).mono ?_
    rintro e w7 ⟨u7, rfl, ⟨vs7, vt7, vn7, rfl, hOs, hOt, hOn⟩, he7⟩
    obtain ⟨A7, c7, rfl⟩ := hOs.form
    obtain ⟨A8, c8, rfl⟩ := hOt.form
    obtain ⟨A9, c9, rfl⟩ := hOn.form
    have he57 : Ext w5 w7 := ((Ext.refl w5).alloc _).trans he7
    have e27 := e25.trans he57
    have E7 := e0.trans e27
    have HS7 := Lib.hid (HS5.out.ext he57); have HT7 := Lib.hid (HT5.out.ext he57)
    have hs5 : w.heap.size ≤ w5.heap.size + 1 := by have := E5.size; omega
    have HN7 : Hid (Sns w.heap.size w7 (.slice A9 l.length c9) l) := Lib.hid (Sns.keep (hOn.sl (ESn_ok _) (Nat.le_refl _) (by unfold lim; omega)) (by simpa using hs5) (fun _ _ _ => rfl))
    have v0 : ∀ o, (w7.alloc o).cell? ⟨w5.heap.size, 0, none⟩ = some (.slice A6 s'.length c6) := fun o => by simpa using ((HV.out.ext he7).alloc o).cell 0
    have v1 : ∀ o, (w7.alloc o).cell? ⟨w5.heap.size, 1, none⟩ = some (.slice A5 t'.length c5) := fun o => by simpa using ((HV.out.ext he7).alloc o).cell 1
    have b9 := (hbr.out.ext e27).alloc (.cells #[.slice A6 s'.length c6, .slice A5 t'.length c5, .slice A9 l.length c9] 27)
    have c90 := b9.cell 0; have c91 := b9.cell 1; have c92 := b9.cell 2; have f90 := b9.frozen 0; have f91 := b9.frozen 1; have f92 := b9.frozen 2
    simp at c90 c91 c92
    have e28 := E7.alloc (.cells #[.slice A6 s'.length c6, .slice A5 t'.length c5, .slice A9 l.length c9] 27)
    have eD := (Ext.refl w7).alloc (.cells #[.slice A6 s'.length c6, .slice A5 t'.length c5, .slice A9 l.length c9] 27)
    clear q0 q1 q2 hOs hOt hOn
    go_wp2
    obtain ⟨p1, p2, p3, -⟩ := put_three (a := .slice A6 s'.length c6) (b := .slice A5 t'.length c5) (c := .slice A9 l.length c9) b9
    have z0 := p1.cell 0; have z1 := p1.cell 1; have z2 := p1.cell 2
    simp at z0 z1 z2
    refine bodyPost_ret (v := .tuple #[.agg #[.slice A6 s'.length c6, .slice A5 t'.length c5, .slice A9 l.length c9], .bool true]) (by simp [results, Tryz.results139, go_sem, z0, z1, z2]) rfl ⟨_, rfl, ⟨_, _, _, _, rfl, s', t', l, ?_, ?_, ?_, ht', by omega, hlt12⟩, p3 w e28 (by omega)⟩
    · exact (HS7.out.ext eD).keepT p2 (by decide) (by decide)
    · exact (HT7.out.ext eD).keepT p2 (by decide) (by decide)
    · exact (HN7.out.ext eD).keepT p2 (by decide) (by decide) (by decide)
end Go.Sf

/-! The reference takes a snapshot; what it hands back is a disk again. -/
namespace Go.Sf
open Go Go.RowKit Go.Proofs
set_option maxRecDepth 8000 in
set_option maxHeartbeats 4000000 in
theorem SnapTakeW_c {B B' B2 : Nat} {vs vt vn : Value} {s : List Hd} {t : List It} {l : List Sn} {p : ByteArray} (w : World) (hs : Hds B w vs s) (ht : Its B' w vt t) (hn : Sns B2 w vn l) (hp : p.size < lim) :
    Calls Tryz.prog 136 #[.agg #[vs, vt, vn], .string p] w (RetP (OptDk w.heap.size) w) := by
  have HS := Lib.hid hs; have HT := Lib.hid ht; have HN := Lib.hid hn; have HP := Lib.hid hp
  obtain ⟨A, c, rfl, -⟩ := hs
  obtain ⟨A2, c2, rfl, -⟩ := ht
  obtain ⟨A3, c3, rfl, hA3⟩ := hn
  have HA3 := Lib.hid hA3
  clear hp
  have hbk := Lib.hid ((Blk.new w 27 #[.slice A s.length c, .slice A2 t.length c2, .slice A3 l.length c3]).alloc (.cells #[.slice none 0 0, .slice none 0 0, .slice none 0 0] 27))
  have hbr : Hid (Blk ((w.alloc (.cells #[.slice A s.length c, .slice A2 t.length c2, .slice A3 l.length c3] 27)).alloc (.cells #[.slice none 0 0, .slice none 0 0, .slice none 0 0] 27)) (w.heap.size + 1) 27 #[.slice none 0 0, .slice none 0 0, .slice none 0 0]) := Lib.hid (by
    have := Blk.new (w.alloc (.cells #[.slice A s.length c, .slice A2 t.length c2, .slice A3 l.length c3] 27)) 27 #[.slice none 0 0, .slice none 0 0, .slice none 0 0]
    simpa using this)
  have e0 : Ext w ((w.alloc (.cells #[.slice A s.length c, .slice A2 t.length c2, .slice A3 l.length c3] 27)).alloc (.cells #[.slice none 0 0, .slice none 0 0, .slice none 0 0] 27)) := ((Ext.refl w).alloc _).alloc _
  have hsz : w.heap.size + 2 ≤ ((w.alloc (.cells #[.slice A s.length c, .slice A2 t.length c2, .slice A3 l.length c3] 27)).alloc (.cells #[.slice none 0 0, .slice none 0 0, .slice none 0 0] 27)).heap.size := by simp
  clear hA3
  go_enter Tryz.func136, Tryz.ntmps136
  go_wp2_with fail
  generalize (w.alloc (.cells #[.slice A s.length c, .slice A2 t.length c2, .slice A3 l.length c3] 27)).alloc (.cells #[.slice none 0 0, .slice none 0 0, .slice none 0 0] 27) = w2 at *
  have D0 := Lib.hid fun W (e : Ext w2 W) => hbk.out.at_ (i := 0) (u := .slice A s.length c) rfl W e
  have D1 := Lib.hid fun W (e : Ext w2 W) => hbk.out.at_ (i := 1) (u := .slice A2 t.length c2) rfl W e
  have D2 := Lib.hid fun W (e : Ext w2 W) => hbk.out.at_ (i := 2) (u := .slice A3 l.length c3) rfl W e
  refine (specDiskValid_c w2 (HS.out.ext e0) (HT.out.ext e0) (HN.out.ext e0)).mono ?_
  rintro e w3 ⟨rfl, he3⟩
  have E3 := e0.trans he3
  cases hv : diskOk s t l with
  | false =>
    have b9 := hbr.out.ext he3
    have c90 := b9.cell 0; have c91 := b9.cell 1; have c92 := b9.cell 2; have f90 := b9.frozen 0; have f91 := b9.frozen 1; have f92 := b9.frozen 2
    simp at c90 c91 c92
    go_wp2
    obtain ⟨p1, -, p3, -⟩ := put_three (a := .slice none 0 0) (b := .slice none 0 0) (c := .slice none 0 0) b9
    have z0 := p1.cell 0; have z1 := p1.cell 1; have z2 := p1.cell 2
    simp at z0 z1 z2
    exact bodyPost_ret (v := .tuple #[.agg #[.slice none 0 0, .slice none 0 0, .slice none 0 0], .bool false]) (by simp [results, Tryz.results136, go_sem, z0, z1, z2]) rfl ⟨_, rfl, OptDk.none_ _ _, p3 w E3 (by omega)⟩
  | true =>
  obtain ⟨hs16, ht12, hl6, hlt12⟩ := disk_small hv
  clear hv
  go_wp2_with fail
  refine (l1Word_c p w3 HP.out).mono ?_
  rintro e w4 ⟨rfl, he4⟩
  have e24 := he3.trans he4
  have E4 := e0.trans e24
  cases hf : wordOk (bl p) with
  | false =>
    have b9 := hbr.out.ext e24
    have c90 := b9.cell 0; have c91 := b9.cell 1; have c92 := b9.cell 2; have f90 := b9.frozen 0; have f91 := b9.frozen 1; have f92 := b9.frozen 2
    simp at c90 c91 c92
    go_wp2
    obtain ⟨p1, -, p3, -⟩ := put_three (a := .slice none 0 0) (b := .slice none 0 0) (c := .slice none 0 0) b9
    have z0 := p1.cell 0; have z1 := p1.cell 1; have z2 := p1.cell 2
    simp at z0 z1 z2
    exact bodyPost_ret (v := .tuple #[.agg #[.slice none 0 0, .slice none 0 0, .slice none 0 0], .bool false]) (by simp [results, Tryz.results136, go_sem, z0, z1, z2]) rfl ⟨_, rfl, OptDk.none_ _ _, p3 w E4 (by omega)⟩
  | true =>
  clear hf
  have q0 := D0.out _ e24; have q1 := D1.out _ e24; have q2 := D2.out _ e24
  go_wp2_with fail
  refine (l12At_c p w4 (HN.out.ext E4)).mono ?_
  rintro e w5 ⟨rfl, he5⟩
  have e25 := e24.trans he5
  have E5 := e0.trans e25
  generalize snAt l p = at_ at *
  clear q0 q1 q2
  by_cases ha : 0 ≤ at_
  · have b9 := hbr.out.ext e25
    have c90 := b9.cell 0; have c91 := b9.cell 1; have c92 := b9.cell 2; have f90 := b9.frozen 0; have f91 := b9.frozen 1; have f92 := b9.frozen 2
    simp at c90 c91 c92
    go_wp2
    obtain ⟨p1, -, p3, -⟩ := put_three (a := .slice none 0 0) (b := .slice none 0 0) (c := .slice none 0 0) b9
    have z0 := p1.cell 0; have z1 := p1.cell 1; have z2 := p1.cell 2
    simp at z0 z1 z2
    exact bodyPost_ret (v := .tuple #[.agg #[.slice none 0 0, .slice none 0 0, .slice none 0 0], .bool false]) (by simp [results, Tryz.results136, go_sem, z0, z1, z2]) rfl ⟨_, rfl, OptDk.none_ _ _, p3 w E5 (by omega)⟩
  · have q0 := D0.out _ e25; have q1 := D1.out _ e25; have q2 := D2.out _ e25
    by_cases h6 : l.length = 6
    · have h6b : ((l.length : Int) == 6) = true := by rw [beq_iff_eq]; omega
      have b9 := hbr.out.ext e25
      have c90 := b9.cell 0; have c91 := b9.cell 1; have c92 := b9.cell 2; have f90 := b9.frozen 0; have f91 := b9.frozen 1; have f92 := b9.frozen 2
      simp at c90 c91 c92
      go_wp2
      obtain ⟨p1, -, p3, -⟩ := put_three (a := .slice none 0 0) (b := .slice none 0 0) (c := .slice none 0 0) b9
      have z0 := p1.cell 0; have z1 := p1.cell 1; have z2 := p1.cell 2
      simp at z0 z1 z2
      exact bodyPost_ret (v := .tuple #[.agg #[.slice none 0 0, .slice none 0 0, .slice none 0 0], .bool false]) (by simp [results, Tryz.results136, go_sem, z0, z1, z2]) rfl ⟨_, rfl, OptDk.none_ _ _, p3 w E5 (by omega)⟩
    · have h6b : ((l.length : Int) == 6) = false := by rw [beq_eq_false_iff_ne]; omega
      have h6c : ¬ (l.length : Int) = 6 := by omega
      go_wp2_with fail
      refine (l12Keep_c w5 (HS.out.ext E5) (HT.out.ext E5) hs16).mono ?_
      rintro e w6 ⟨u6, rfl, ⟨v6, st, b6, rfl, hO6, h16⟩, he6⟩
      obtain ⟨A6, c6, rfl⟩ := hO6.form
      have e26 := e25.trans he6
      have E6 := e0.trans e26
      have hs5 := E5.size
      have HS6 : Hid (Hds w.heap.size w6 (.slice A6 st.length c6) st) := Lib.hid ((hO6.isHds (by unfold lim; omega)).keep hs5 (fun _ _ _ => rfl))
      clear q0 q1 q2 hO6
      cases b6 with
      | false =>
        have b9 := hbr.out.ext e26
        have c90 := b9.cell 0; have c91 := b9.cell 1; have c92 := b9.cell 2; have f90 := b9.frozen 0; have f91 := b9.frozen 1; have f92 := b9.frozen 2
        simp at c90 c91 c92
        go_wp2
        obtain ⟨p1, -, p3, -⟩ := put_three (a := .slice none 0 0) (b := .slice none 0 0) (c := .slice none 0 0) b9
        have z0 := p1.cell 0; have z1 := p1.cell 1; have z2 := p1.cell 2
        simp at z0 z1 z2
        exact bodyPost_ret (v := .tuple #[.agg #[.slice none 0 0, .slice none 0 0, .slice none 0 0], .bool false]) (by simp [results, Tryz.results136, go_sem, z0, z1, z2]) rfl ⟨_, rfl, OptDk.none_ _ _, p3 w E6 (by omega)⟩
      | true =>
      have q0 := D0.out _ e26; have q1 := D1.out _ e26; have q2 := D2.out _ e26
      go_wp2_with fail
      refine (l12Copy_c w6 (HS.out.ext E6) (HT.out.ext E6) (HN.out.ext E6)).mono ?_
      rintro e w7 ⟨u7, rfl, ⟨vs7, vt7, vn7, rfl, hOs, hOt, hOn⟩, he7⟩
      obtain ⟨A7, c7, rfl⟩ := hOs.form
      obtain ⟨A8, c8, rfl⟩ := hOt.form
      obtain ⟨A9, c9, rfl⟩ := hOn.form
      have e27 := e26.trans he7
      have E7 := e0.trans e27
      have hs6 := E6.size
      have eD := (Ext.refl w7).alloc (.cells #[.slice A6 st.length c6, .slice A8 t.length c8, .slice A9 l.length c9] 27)
      have HSx := Lib.hid ((HS6.out.ext he7).ext eD)
      have HTx : Hid (Its w.heap.size _ (.slice A8 t.length c8) t) := Lib.hid (Its.ext (Its.keep (hOt.sl (EIt_ok _) (Nat.le_refl _) (by unfold lim; omega)) hs6 (fun _ _ _ => rfl)) eD)
      have HNx := Lib.hid (hOn.ext (ESn_ok _) eD)
      have hbo := Blk.new w7 27 #[.slice A6 st.length c6, .slice A8 t.length c8, .slice A9 l.length c9]
      have HBo := Lib.hid hbo
      have e6x := he7.trans eD
      have e2x := e27.trans eD
      have hs7 : w.heap.size + 2 ≤ w7.heap.size := by have := e27.size; omega
      have hs67 := he7.size
      clear q0 q1 q2 hOs hOt hOn
      generalize hg7 : w7.heap.size = g7 at *
      go_wp2
      generalize w7.alloc (.cells #[.slice A6 st.length c6, .slice A8 t.length c8, .slice A9 l.length c9] 27) = wx at *
      have a1 := fun W (e : Ext wx W) => D1.out W (e2x.trans e)
      have g2 := fun W (e : Ext wx W) => hbo.at_ (i := 2) (u := .slice A9 l.length c9) rfl W e
      have Ex := e0.trans e2x
      have hex : ∃ n, l.length = n := ⟨_, rfl⟩
      obtain ⟨n, hn⟩ := hex
      rw [hn] at g2 hl6 h6 ⊢
      have Hn := Lib.hid hn
      clear hn h6b h6c
      refine wp_region_hold (fun W => Ext wx W) 8 [(0, true), (1, true), (2, true), (3, true), (4, true), (5, false), (6, true), (7, false)] (by kernel_rfl) (by kernel_rfl) ?_ ?_
      · exact (Ext.refl wx).drew
      (repeat (first | (apply hw_read (by rfl) (by rfl); (· (intro W hW; (try dsimp only at hW); go_simp; (first | done | rfl | (rw [if_pos] <;> first | omega | rfl)))); (try simp only [Act.put, List.setIfInBounds_toArray, List.set_cons_zero, List.set_cons_succ])) | (refine hw_skip (by rfl) (by rfl) ?_; (try simp only [Act.put, List.setIfInBounds_toArray, List.set_cons_zero, List.set_cons_succ]))))
      refine hw_step (by rfl) ?_
      go_wp2_with (go_at_call 178; refine (l5All_c _ (HT.out.ext (Ex.trans (Ext.refl wx).drew))).mono ?_; rintro e w8 ⟨v8, rfl, hT8, he8⟩)
      have e8 : Ext wx w8 := (Ext.refl wx).drew.trans he8
      (try refine ⟨e8, ?_⟩)
      obtain ⟨Aq, cq, rfl⟩ := hT8.form
      have hsx : w6.heap.size ≤ wx.drew.heap.size := by have := e6x.size; simpa using this
      have HT8 : Hid (Its w6.heap.size w8 (.slice Aq t.length cq) t) := Lib.hid (Its.keep (hT8.sl (EIt_ok _) (Nat.le_refl _) (by unfold lim; omega)) hsx (fun _ _ _ => rfl))
      have HB8 := Lib.hid (HBo.out.ext e8)
      have hN8 := HNx.out.ext (ESn_ok _) e8
      rw [Hn.out] at hN8
      have HN8 := Lib.hid hN8
      have HS8 := Lib.hid (HSx.out.ext e8)
      have HT8' := Lib.hid (HTx.out.ext e8)
      have E68 := e6x.trans e8
      have HR8 := Lib.hid (hbr.out.ext (e2x.trans e8))
      clear hT8 he8 hN8
      (repeat (first | (apply hw_read (by rfl) (by rfl); (· (intro W hW; (try dsimp only at hW); go_simp; (first | done | rfl | (rw [if_pos] <;> first | omega | rfl)))); (try simp only [Act.put, List.setIfInBounds_toArray, List.set_cons_zero, List.set_cons_succ])) | (refine hw_skip (by rfl) (by rfl) ?_; (try simp only [Act.put, List.setIfInBounds_toArray, List.set_cons_zero, List.set_cons_succ]))))
      refine hw_step (by rfl) ?_
      go_wp2
      (try refine ⟨e8.alloc _, ?_⟩)
      clear a1 g2
      (refine hw_nil ?_; (try simp only [List.drop_succ_cons, List.drop_zero]))
      go_wp2_with (at_builtin; go_must (refine wp_ap1 (w0 := w6) (by rfl) _ _ (by rfl) el_Sn (ESn_ok _) E68 _ l [(⟨p, t⟩ : Sn)] (by rfl) HN8.out 1 1 rfl #[.string p, .slice Aq t.length cq] _ (by rfl) (by first | rfl | simp) rfl (one_cells rfl) (one_E ⟨rfl, HP.out, _, rfl, HT8.out⟩) ?_ ?_))
      · rw [Hn.out]; simp; unfold lim; omega
      · intro v9 w9 hO9 he9 hk9
        obtain ⟨A10, c10, hA10⟩ := hO9.form
        rw [List.length_append, Hn.out, List.length_singleton] at hA10
        subst hA10
        have HB9 := hk9 _ _ _ (by decide) (HB8.out)
        have HR9 := hk9 _ _ _ (by decide) (HR8.out)
        have hf := HB9.frozen 2
        have hc2 := HB9.cell 2
        have k9 := KeepsT.set (i := 2) HB9 (.slice A10 (n + 1) c10) rfl
        have hb10 := HB9.set_ 2 (.slice A10 (n + 1) c10)
        have hr10 := HR9.far (p := ⟨g7, 2, none⟩) (by show _ ≠ g7; omega) (.slice A10 (n + 1) c10)
        simp at hc2
        have E10 : Ext w6 (w9.setCell ⟨g7, 2, none⟩ (.slice A10 (n + 1) c10)) := he9.setCell (p := ⟨g7, 2, none⟩) (by show _ ≤ g7; omega) _
        have HN10 : Hid (Sns w6.heap.size (w9.setCell ⟨g7, 2, none⟩ (.slice A10 (n + 1) c10)) (.slice A10 (n + 1) c10) (l ++ [(⟨p, t⟩ : Sn)])) := Lib.hid (OwnS.sl (hO9.keepT k9 (by decide) fun _ _ _ gg => gg.keepT k9 (by decide) (by decide)) (ESn_ok _) (Nat.le_refl _) (by rw [List.length_append, Hn.out]; simp; unfold lim; omega))
        have HS10 := Lib.hid ((HS8.out.keepT hk9 (by decide) (by decide)).keepT k9 (by decide) (by decide))
        have HT10 := Lib.hid ((HT8'.out.keepT hk9 (by decide) (by decide)).keepT k9 (by decide) (by decide))
        have o0 := hb10.cell 0; have o1 := hb10.cell 1; have o2 := hb10.cell 2
        have c90 := hr10.cell 0; have c91 := hr10.cell 1; have c92 := hr10.cell 2; have f90 := hr10.frozen 0; have f91 := hr10.frozen 1; have f92 := hr10.frozen 2
        simp at o0 o1 o2 c90 c91 c92
        clear hO9 he9 hk9 k9 hb10
        go_wp2
        refine NoPanic.normal ?_
        (try dsimp only [Exit.then])
        generalize w9.setCell ⟨g7, 2, none⟩ (.slice A10 (n + 1) c10) = wy at *
        go_wp2
        obtain ⟨p1, p2, p3, -⟩ := put_three (a := .slice A6 st.length c6) (b := .slice A8 t.length c8) (c := .slice A10 (n + 1) c10) hr10
        have z0 := p1.cell 0; have z1 := p1.cell 1; have z2 := p1.cell 2
        simp at z0 z1 z2
        refine bodyPost_ret (v := .tuple #[.agg #[.slice A6 st.length c6, .slice A8 t.length c8, .slice A10 (n + 1) c10], .bool true]) (by simp [results, Tryz.results136, go_sem, z0, z1, z2]) rfl ⟨_, rfl, ⟨_, _, _, _, rfl, st, t, l ++ [(⟨p, t⟩ : Sn)], ?_, ?_, ?_, ht12, by rw [List.length_append, Hn.out, List.length_singleton]; omega, fun x hx => by
          rcases List.mem_append.1 hx with hx | hx
          · exact hlt12 x hx
          · rw [List.mem_singleton] at hx; subst hx; exact ht12⟩, p3 w (E6.trans E10) (by omega)⟩
        · exact HS10.out.keepT p2 (by decide) (by decide)
        · exact HT10.out.keepT p2 (by decide) (by decide)
        · exact (HN10.out.keepT p2 (by decide) (by decide) (by decide)).keep hs6 (fun _ _ _ => rfl)
end Go.Sf

/-! The reference goes back to a snapshot; what it hands back is a disk again. -/
namespace Go.Sf
open Go Go.RowKit Go.Proofs
set_option maxRecDepth 8000 in
set_option maxHeartbeats 4000000 in
theorem SnapBackW_c {B B' B2 : Nat} {vs vt vn : Value} {s : List Hd} {t : List It} {l : List Sn} {p : ByteArray} (w : World) (hs : Hds B w vs s) (ht : Its B' w vt t) (hn : Sns B2 w vn l) (hp : p.size < lim) :
    Calls Tryz.prog 138 #[.agg #[vs, vt, vn], .string p] w (RetP (OptDk w.heap.size) w) := by
  have HS := Lib.hid hs; have HT := Lib.hid ht; have HN := Lib.hid hn; have HP := Lib.hid hp
  obtain ⟨A, c, rfl, -⟩ := hs
  obtain ⟨A2, c2, rfl, -⟩ := ht
  obtain ⟨A3, c3, rfl, hA3⟩ := hn
  have HA3 := Lib.hid hA3
  clear hp
  have hbk := Lib.hid ((Blk.new w 27 #[.slice A s.length c, .slice A2 t.length c2, .slice A3 l.length c3]).alloc (.cells #[.slice none 0 0, .slice none 0 0, .slice none 0 0] 27))
  have hbr : Hid (Blk ((w.alloc (.cells #[.slice A s.length c, .slice A2 t.length c2, .slice A3 l.length c3] 27)).alloc (.cells #[.slice none 0 0, .slice none 0 0, .slice none 0 0] 27)) (w.heap.size + 1) 27 #[.slice none 0 0, .slice none 0 0, .slice none 0 0]) := Lib.hid (by
    have := Blk.new (w.alloc (.cells #[.slice A s.length c, .slice A2 t.length c2, .slice A3 l.length c3] 27)) 27 #[.slice none 0 0, .slice none 0 0, .slice none 0 0]
    simpa using this)
  have e0 : Ext w ((w.alloc (.cells #[.slice A s.length c, .slice A2 t.length c2, .slice A3 l.length c3] 27)).alloc (.cells #[.slice none 0 0, .slice none 0 0, .slice none 0 0] 27)) := ((Ext.refl w).alloc _).alloc _
  have hsz : w.heap.size + 2 ≤ ((w.alloc (.cells #[.slice A s.length c, .slice A2 t.length c2, .slice A3 l.length c3] 27)).alloc (.cells #[.slice none 0 0, .slice none 0 0, .slice none 0 0] 27)).heap.size := by simp
  clear hA3
  go_enter Tryz.func138, Tryz.ntmps138
  go_wp2_with fail
  generalize (w.alloc (.cells #[.slice A s.length c, .slice A2 t.length c2, .slice A3 l.length c3] 27)).alloc (.cells #[.slice none 0 0, .slice none 0 0, .slice none 0 0] 27) = w2 at *
  have D0 := Lib.hid fun W (e : Ext w2 W) => hbk.out.at_ (i := 0) (u := .slice A s.length c) rfl W e
  have D1 := Lib.hid fun W (e : Ext w2 W) => hbk.out.at_ (i := 1) (u := .slice A2 t.length c2) rfl W e
  have D2 := Lib.hid fun W (e : Ext w2 W) => hbk.out.at_ (i := 2) (u := .slice A3 l.length c3) rfl W e
  have hps := HP.out
  refine (l12At_c p w2 (HN.out.ext e0)).mono ?_
  rintro e w3 ⟨rfl, he3⟩
  have E3 := e0.trans he3
  have hsn : snAt l p = -1 ∨ ∃ (i : Nat) (x : Sn), l[i]? = some x ∧ snAt l p = (i : Int) := by
    rcases atG_find (snIs p) l 0 with ⟨-, h2⟩ | ⟨i, x, h1, -, -, h4, -⟩
    · exact .inl h2
    · exact .inr ⟨i, x, h1, by rw [snAt, h4]; simp⟩
  generalize snAt l p = at_ at *
  have q0 := D0.out _ he3; have q1 := D1.out _ he3; have q2 := D2.out _ he3
  go_wp2_with fail
  refine (specDiskValid_c w3 (HS.out.ext E3) (HT.out.ext E3) (HN.out.ext E3)).mono ?_
  rintro e w4 ⟨rfl, he4⟩
  have e24 := he3.trans he4
  have E4 := e0.trans e24
  clear q0 q1 q2
  cases hv : diskOk s t l with
  | false =>
    have b9 := hbr.out.ext e24
    have c90 := b9.cell 0; have c91 := b9.cell 1; have c92 := b9.cell 2; have f90 := b9.frozen 0; have f91 := b9.frozen 1; have f92 := b9.frozen 2
    simp at c90 c91 c92
    go_wp2
    obtain ⟨p1, -, p3, -⟩ := put_three (a := .slice none 0 0) (b := .slice none 0 0) (c := .slice none 0 0) b9
    have z0 := p1.cell 0; have z1 := p1.cell 1; have z2 := p1.cell 2
    simp at z0 z1 z2
    exact bodyPost_ret (v := .tuple #[.agg #[.slice none 0 0, .slice none 0 0, .slice none 0 0], .bool false]) (by simp [results, Tryz.results138, go_sem, z0, z1, z2]) rfl ⟨_, rfl, OptDk.none_ _ _, p3 w E4 (by omega)⟩
  | true =>
  obtain ⟨hs16, ht12, hl6, hlt12⟩ := disk_small hv
  clear hv
  rcases hsn with rfl | ⟨i, x, hx, rfl⟩
  · have b9 := hbr.out.ext e24
    have c90 := b9.cell 0; have c91 := b9.cell 1; have c92 := b9.cell 2; have f90 := b9.frozen 0; have f91 := b9.frozen 1; have f92 := b9.frozen 2
    simp at c90 c91 c92
    go_wp2
    obtain ⟨p1, -, p3, -⟩ := put_three (a := .slice none 0 0) (b := .slice none 0 0) (c := .slice none 0 0) b9
    have z0 := p1.cell 0; have z1 := p1.cell 1; have z2 := p1.cell 2
    simp at z0 z1 z2
    exact bodyPost_ret (v := .tuple #[.agg #[.slice none 0 0, .slice none 0 0, .slice none 0 0], .bool false]) (by simp [results, Tryz.results138, go_sem, z0, z1, z2]) rfl ⟨_, rfl, OptDk.none_ _ _, p3 w E4 (by omega)⟩
  · have hil := lt_of_get hx
    have hx12 := hlt12 x (List.mem_of_getElem? hx)
    have hi0 : ¬ ((i : Int) < 0) := by omega
    obtain ⟨b, o, u, rfl, -, -, -, hu, -, hc1⟩ := Sns.at_ HA3.out hx
    have HU := Lib.hid hu
    obtain ⟨Ax, cx, rfl, -⟩ := hu
    have HC1 := Lib.hid hc1
    have d0 := fun W (e : Ext w4 W) => D0.out W (e24.trans e)
    have d2 := fun W (e : Ext w4 W) => D2.out W (e24.trans e)
    have c1' := fun W (e : Ext w4 W) => hc1 W (E4.trans e)
    have hil' : (i : Int) < (l.length : Int) := by omega
    clear hc1 hx
    go_wp2
    refine wp_region_hold (fun W => Ext w4 W) 13 [(0, true), (1, true), (2, true), (3, true), (4, true), (5, true), (6, true), (7, true), (8, false), (9, true), (10, true), (11, true), (12, true)] (by kernel_rfl) (by kernel_rfl) ?_ ?_
    · exact (Ext.refl w4).drew
    (repeat (first | (apply hw_read (by rfl) (by rfl); (· (intro W hW; (try dsimp only at hW); go_simp; (first | done | rfl | (rw [if_pos] <;> first | omega | rfl)))); (try simp only [Act.put, List.setIfInBounds_toArray, List.set_cons_zero, List.set_cons_succ])) | (refine hw_skip (by rfl) (by rfl) ?_; (try simp only [Act.put, List.setIfInBounds_toArray, List.set_cons_zero, List.set_cons_succ]))))
    refine hw_step (by rfl) ?_
    go_wp2_with (go_at_call 176; refine (l12Keep_c _ (HS.out.ext (E4.trans (Ext.refl w4).drew)) (HU.out.ext (E4.trans (Ext.refl w4).drew)) hs16).mono ?_; rintro e w6 ⟨u6, rfl, ⟨v6, st, b6, rfl, hO6, h16⟩, he6⟩)
    have e46 : Ext w4 w6 := (Ext.refl w4).drew.trans he6
    (try refine ⟨e46, ?_⟩)
    obtain ⟨A6, c6, rfl⟩ := hO6.form
    have e26 := e24.trans e46
    have E6 := e0.trans e26
    have hs5 : w.heap.size ≤ w4.drew.heap.size := by have := E4.size; simpa using this
    have HS6 : Hid (Hds w.heap.size w6 (.slice A6 st.length c6) st) := Lib.hid ((hO6.isHds (by unfold lim; omega)).keep hs5 (fun _ _ _ => rfl))
    clear hO6 d0 d2 c1'
    (repeat (first | (apply hw_read (by rfl) (by rfl); (· (intro W hW; (try dsimp only at hW); go_simp; (first | done | rfl | (rw [if_pos] <;> first | omega | rfl)))); (try simp only [Act.put, List.setIfInBounds_toArray, List.set_cons_zero, List.set_cons_succ])) | (refine hw_skip (by rfl) (by rfl) ?_; (try simp only [Act.put, List.setIfInBounds_toArray, List.set_cons_zero, List.set_cons_succ]))))
    (refine hw_nil ?_; (try simp only [List.drop_succ_cons, List.drop_zero]))
    go_wp2
    refine NoPanic.normal ?_
    (try dsimp only [Exit.then])
    cases b6 with
    | false =>
      have b9 := hbr.out.ext e26
      have c90 := b9.cell 0; have c91 := b9.cell 1; have c92 := b9.cell 2; have f90 := b9.frozen 0; have f91 := b9.frozen 1; have f92 := b9.frozen 2
      simp at c90 c91 c92
      go_wp2
      obtain ⟨p1, -, p3, -⟩ := put_three (a := .slice none 0 0) (b := .slice none 0 0) (c := .slice none 0 0) b9
      have z0 := p1.cell 0; have z1 := p1.cell 1; have z2 := p1.cell 2
      simp at z0 z1 z2
      exact bodyPost_ret (v := .tuple #[.agg #[.slice none 0 0, .slice none 0 0, .slice none 0 0], .bool false]) (by simp [results, Tryz.results138, go_sem, z0, z1, z2]) rfl ⟨_, rfl, OptDk.none_ _ _, p3 w E6 (by omega)⟩
    | true =>
    have q0 := D0.out _ e26; have q1 := D1.out _ e26; have q2 := D2.out _ e26
    go_wp2_with fail
    refine (l12Copy_c w6 (HS.out.ext E6) (HT.out.ext E6) (HN.out.ext E6)).mono ?_
    rintro e w7 ⟨u7, rfl, ⟨vs7, vt7, vn7, rfl, hOs, hOt, hOn⟩, he7⟩
    obtain ⟨A7, c7, rfl⟩ := hOs.form
    obtain ⟨A8, c8, rfl⟩ := hOt.form
    obtain ⟨A9, c9, rfl⟩ := hOn.form
    have e27 := e26.trans he7
    have hs6 := E6.size
    have eD := (Ext.refl w7).alloc (.cells #[.slice A7 s.length c7, .slice A8 t.length c8, .slice A9 l.length c9] 27)
    have HNx : Hid (Sns w.heap.size _ (.slice A9 l.length c9) l) := Lib.hid (Sns.ext (Sns.keep (hOn.sl (ESn_ok _) (Nat.le_refl _) (by unfold lim; omega)) hs6 (fun _ _ _ => rfl)) eD)
    have HBo := Lib.hid (Blk.new w7 27 #[.slice A7 s.length c7, .slice A8 t.length c8, .slice A9 l.length c9])
    have e6x := he7.trans eD
    have e2x := e27.trans eD
    have hs7 : w.heap.size + 2 ≤ w7.heap.size := by have := e27.size; omega
    clear q0 q1 q2 hOs hOt hOn
    have q1x := D1.out _ e2x
    go_wp2_with fail
    generalize hg7 : w7.heap.size = g7 at *
    generalize w7.alloc (.cells #[.slice A7 s.length c7, .slice A8 t.length c8, .slice A9 l.length c9] 27) = wx at *
    have Ex := e0.trans e2x
    refine (l12Free_c wx (HS6.out.ext e6x) (HT.out.ext Ex) h16).mono ?_
    rintro e w8 ⟨v8, rfl, ⟨s8, hO8, h168⟩, he8⟩
    obtain ⟨A10, c10, rfl⟩ := hO8.form
    have E8 := Ex.trans he8
    have hsx := Ex.size
    have HS8 : Hid (Hds w.heap.size w8 (.slice A10 s8.length c10) s8) := Lib.hid ((hO8.isHds (by unfold lim; omega)).keep hsx (fun _ _ _ => rfl))
    have HB8 := HBo.out.ext he8
    have HR8 := hbr.out.ext (e2x.trans he8)
    have HK8 := hbk.out.ext (e2x.trans he8)
    have HN8 := Lib.hid (HNx.out.ext he8)
    have hf0 := HB8.frozen 0
    have hz0 := HB8.cell 0
    simp at hz0
    have k8 := KeepsT.set (i := 0) HB8 (.slice A10 s8.length c10) rfl
    have hb9 := HB8.set_ 0 (.slice A10 s8.length c10)
    have HB9 : Hid (Blk (w8.setCell ⟨g7, 0, none⟩ (.slice A10 s8.length c10)) g7 27 #[.slice A10 s8.length c10, .slice A8 t.length c8, .slice A9 l.length c9]) := Lib.hid (by simpa using hb9)
    have HR9 := Lib.hid (HR8.far (p := ⟨g7, 0, none⟩) (by show _ ≠ g7; omega) (.slice A10 s8.length c10))
    have HK9 := Lib.hid (HK8.far (p := ⟨g7, 0, none⟩) (by show _ ≠ g7; omega) (.slice A10 s8.length c10))
    have E9 : Ext w (w8.setCell ⟨g7, 0, none⟩ (.slice A10 s8.length c10)) := E8.setCell (p := ⟨g7, 0, none⟩) (by show _ ≤ g7; omega) _
    have HS9 := Lib.hid (HS8.out.keepT k8 (by decide) (by decide))
    have HN9 := Lib.hid (HN8.out.keepT k8 (by decide) (by decide) (by decide))
    have y2 := HK9.out.cell 2
    have y1 := HC1.out _ E9
    simp at y2
    clear hO8 k8 hb9 HB8 HR8 HK8 q1x
    go_wp2_with fail
    generalize w8.setCell ⟨g7, 0, none⟩ (.slice A10 s8.length c10) = wy at *
    refine (l5All_c wy (HU.out.ext E9)).mono ?_
    rintro e w10 ⟨v10, rfl, hT10, he10⟩
    obtain ⟨A11, c11, rfl⟩ := hT10.form
    have E10 := E9.trans he10
    have HT10 : Hid (Its w.heap.size w10 (.slice A11 x.tree.length c11) x.tree) := Lib.hid (Its.keep (hT10.sl (EIt_ok _) (Nat.le_refl _) (by unfold lim; omega)) E9.size (fun _ _ _ => rfl))
    have HB10 := HB9.out.ext he10
    have HR10 := HR9.out.ext he10
    have hf1 := HB10.frozen 1
    have hz1 := HB10.cell 1
    simp at hz1
    have k10 := KeepsT.set (i := 1) HB10 (.slice A11 x.tree.length c11) rfl
    have hb11 := HB10.set_ 1 (.slice A11 x.tree.length c11)
    have hr11 := HR10.far (p := ⟨g7, 1, none⟩) (by show _ ≠ g7; omega) (.slice A11 x.tree.length c11)
    have E11 : Ext w (w10.setCell ⟨g7, 1, none⟩ (.slice A11 x.tree.length c11)) := E10.setCell (p := ⟨g7, 1, none⟩) (by show _ ≤ g7; omega) _
    have HS11 := Lib.hid ((HS9.out.ext he10).keepT k10 (by decide) (by decide))
    have HN11 := Lib.hid ((HN9.out.ext he10).keepT k10 (by decide) (by decide) (by decide))
    have HT11 := Lib.hid (HT10.out.keepT k10 (by decide) (by decide))
    have o0 := hb11.cell 0; have o1 := hb11.cell 1; have o2 := hb11.cell 2
    have c90 := hr11.cell 0; have c91 := hr11.cell 1; have c92 := hr11.cell 2; have f90 := hr11.frozen 0; have f91 := hr11.frozen 1; have f92 := hr11.frozen 2
    simp at o0 o1 o2 c90 c91 c92
    clear hT10 k10 hb11 y1 y2
    go_wp2
    obtain ⟨p1, p2, p3, -⟩ := put_three (a := .slice A10 s8.length c10) (b := .slice A11 x.tree.length c11) (c := .slice A9 l.length c9) hr11
    have z0 := p1.cell 0; have z1 := p1.cell 1; have z2 := p1.cell 2
    simp at z0 z1 z2
    refine bodyPost_ret (v := .tuple #[.agg #[.slice A10 s8.length c10, .slice A11 x.tree.length c11, .slice A9 l.length c9], .bool true]) (by simp [results, Tryz.results138, go_sem, z0, z1, z2]) rfl ⟨_, rfl, ⟨_, _, _, _, rfl, s8, x.tree, l, ?_, ?_, ?_, hx12, by omega, hlt12⟩, p3 w E11 (by omega)⟩
    · exact HS11.out.keepT p2 (by decide) (by decide)
    · exact HT11.out.keepT p2 (by decide) (by decide)
    · exact HN11.out.keepT p2 (by decide) (by decide) (by decide)
end Go.Sf
