/- The program opens a volume. -/
import Derived.Test.YtfbmcfkghihfnaaDoorT86
namespace Go.Sf
open Go Go.RowKit Go.Proofs Go.Maps
theorem volOk_used (s : List Hd) (t : List It) : volOk s t = (storeOk s && (treeOk t && usedOk s [t])) := by
  have h : usedOk s [t] = (filesFit s t && usesFit s t) := by
    unfold usedOk usesFit
    simp [cntTs]
  unfold volOk
  rw [h]
section
variable {B : Nat} {w w' : World} {l : List It} {adr : Key → Nat} {kv : Key → Value} {t : TypeId}
theorem Node.keepT {k : Key} {dir : Bool} {ids : List Int} (h : Node B w l adr kv k dir ids) (hk : KeepsT t w w') (h1 : 65 ≠ t) (h2 : 104 ≠ t) (h3 : 3 ≠ t) : Node B w' l adr kv k dir ids :=
  let ⟨a1, a2, u, a3, a4⟩ := h; ⟨a1, a2.keepT hk h1 (fun _ _ _ h => h), u, hk _ _ _ h2 a3, a4.keepT hk h3⟩
theorem Node.low {B' : Nat} {k : Key} {dir : Bool} {ids : List Int} (h : Node B w l adr kv k dir ids) (hB : B' ≤ B) : Node B' w l adr kv k dir ids :=
  let ⟨a1, a2, u, a3, a4⟩ := h; ⟨Nat.le_trans hB a1, a2.mono hB, u, a3, a4.keep hB (fun _ _ _ => rfl)⟩
theorem TreeAt.keepT (h : TreeAt B w l adr kv) (hk : KeepsT t w w') (h1 : 65 ≠ t) (h2 : 104 ≠ t) (h3 : 3 ≠ t) : TreeAt B w' l adr kv :=
  ⟨h.root.keepT hk h1 h2 h3, fun x hx => (h.nodes x hx).keepT hk h1 h2 h3, h.inj, h.sep⟩
end
theorem StoreAt.keepT {B b n : Nat} {t : TypeId} {w w' : World} {l : List Hd} (h : StoreAt B b n l w) (hk : KeepsT t w w') (ht : 3 ≠ t) (hb : w'.heap[b]? = w.heap[b]?) : StoreAt B b n l w' := let ⟨M, h1, h2⟩ := h; ⟨M, h1.block hb, h2.keepT hk ht⟩
/-- the two cells of a volume that is open are written -/
theorem put_vol {w : World} {g : Nat} {a b c d : Value} (h : Blk w g 67 #[c, d]) :
    Blk ((w.setCell ⟨g, 0, none⟩ a).setCell ⟨g, 1, none⟩ b) g 67 #[a, b] ∧ KeepsT 67 w ((w.setCell ⟨g, 0, none⟩ a).setCell ⟨g, 1, none⟩ b) ∧
    (∀ w0, Ext w0 w → w0.heap.size ≤ g → Ext w0 ((w.setCell ⟨g, 0, none⟩ a).setCell ⟨g, 1, none⟩ b)) ∧ ∀ k, k ≠ g → ((w.setCell ⟨g, 0, none⟩ a).setCell ⟨g, 1, none⟩ b).heap[k]? = w.heap[k]? := by
  have h1 := h.set_ 0 a
  have h2 := h1.set_ 1 b
  refine ⟨by simpa using h2, (KeepsT.set (i := 0) h a rfl).trans (KeepsT.set (i := 1) h1 b rfl), fun w0 e hg => (e.setCell (p := ⟨g, 0, none⟩) hg a).setCell (p := ⟨g, 1, none⟩) hg b, fun k hk => ?_⟩
  rw [RowKit.Below.heap_setCell _ _ _ _ hk, RowKit.Below.heap_setCell _ _ _ _ hk]
theorem store_ne {B b n g : Nat} {t : TypeId} {cs : Array Value} {w : World} {l : List Hd} (h : StoreAt B b n l w) (hb : Blk w g t cs) : b ≠ g := by
  rintro rfl
  obtain ⟨M, ⟨D, ⟨es, cl, h1, -⟩, -⟩, -⟩ := h
  unfold Blk at hb
  rw [h1] at hb
  cases hb
/-- what opening a store and a tree leaves -/
def NewVP (w0 : World) (s : List Hd) (t : List It) (e : Ending) (w' : World) : Prop :=
  Ext w0 w' ∧ (((storeOk s && treeOk t) = false ∧ e = .returned (.tuple #[.agg #[.map none, .pointer none], .bool false])) ∨
    (storeOk s = true ∧ treeOk t = true ∧ ∃ b adr kv, e = .returned (.tuple #[.agg #[.map (some b), .pointer (some ⟨adr [], 0, none⟩)], .bool true]) ∧ StoreAt w0.heap.size b 16 s w' ∧ TreeAt w0.heap.size w' t adr kv))
set_option maxRecDepth 8000 in
set_option maxHeartbeats 2000000 in
theorem newVolume_c {B B' : Nat} {vs vt : Value} {s : List Hd} {t : List It} (w : World) (hs : Hds B w vs s) (ht : Its B' w vt t) (hm : ML w) : Calls Tryd.prog 54 #[vs, vt] w (NewVP w s t) := by
  have e0 : Ext w (w.alloc (.cells #[.map none, .pointer none] 67)) := (Ext.refl w).alloc _
  have HBk := Lib.hid (Blk.new w 67 #[.map none, .pointer none])
  have Co := openStore_c _ (hs.ext e0)
  have HT := Lib.hid ht; have HM := Lib.hid hm
  clear hs ht hm
  go_enter Tryd.func54, Tryd.ntmps54
  go_wp2_with fail
  refine Co.mono ?_
  rintro e w1 ⟨he1, ⟨hs1, rfl⟩ | ⟨hs1, b, rfl, hSt⟩⟩
  · have hb1 := HBk.out.ext he1
    have c0 := hb1.cell 0; have c1 := hb1.cell 1
    have f0 := hb1.frozen 0; have f1 := hb1.frozen 1
    simp at c0 c1
    have Hs1 := Lib.hid hs1; have Hb1 := Lib.hid hb1
    clear hs1 hb1 Co
    go_wp2
    obtain ⟨p1, -, p3, -⟩ := put_vol (a := .map none) (b := .pointer none) Hb1.out
    have z0 := p1.cell 0; have z1 := p1.cell 1
    simp at z0 z1
    exact bodyPost_ret (v := .tuple #[.agg #[.map none, .pointer none], .bool false]) (by simp [results, Tryd.results54, go_sem, z0, z1]) rfl ⟨p3 w (e0.trans he1) (Nat.le_refl _), .inl ⟨by rw [Hs1.out]; rfl, rfl⟩⟩
  · have Ho := openTree_c w1 (HT.out.ext (e0.trans he1)) (HM.out.ext (e0.trans he1))
    have hb1 := HBk.out.ext he1
    have Hs1 := Lib.hid hs1; have Hb1 := Lib.hid hb1; have HSt := Lib.hid hSt
    clear hs1 hb1 Co hSt
    go_wp2_with fail
    refine Ho.mono ?_
    rintro e w2 ⟨he2, ⟨ht1, rfl⟩ | ⟨ht1, adr, kv, rfl, hTr⟩⟩
    · have hb2 := Hb1.out.ext he2
      have c0 := hb2.cell 0; have c1 := hb2.cell 1
      have f0 := hb2.frozen 0; have f1 := hb2.frozen 1
      simp at c0 c1
      have Ht1 := Lib.hid ht1; have Hb2 := Lib.hid hb2
      clear ht1 hb2 Ho
      go_wp2
      obtain ⟨p1, -, p3, -⟩ := put_vol (a := .map none) (b := .pointer none) Hb2.out
      have z0 := p1.cell 0; have z1 := p1.cell 1
      simp at z0 z1
      exact bodyPost_ret (v := .tuple #[.agg #[.map none, .pointer none], .bool false]) (by simp [results, Tryd.results54, go_sem, z0, z1]) rfl ⟨p3 w ((e0.trans he1).trans he2) (Nat.le_refl _), .inl ⟨by rw [Ht1.out, Bool.and_false], rfl⟩⟩
    · have hb2 := Hb1.out.ext he2
      have c0 := hb2.cell 0; have c1 := hb2.cell 1
      have f0 := hb2.frozen 0; have f1 := hb2.frozen 1
      simp at c0 c1
      have Ht1 := Lib.hid ht1; have Hb2 := Lib.hid hb2; have HTr := Lib.hid hTr; have HSt2 := Lib.hid (HSt.out.ext he2)
      clear ht1 hb2 Ho hTr
      go_wp2
      obtain ⟨p1, p2, p3, p4⟩ := put_vol (a := .map (some b)) (b := .pointer (some ⟨adr [], 0, none⟩)) Hb2.out
      have z0 := p1.cell 0; have z1 := p1.cell 1
      simp at z0 z1
      have hw : w.heap.size ≤ w1.heap.size := (e0.trans he1).size
      have h1 : StoreAt w.heap.size b 16 s w2 := let ⟨M, q1, q2⟩ := HSt2.out; ⟨M, q1, fun i => ⟨(q2 i).1, fun y hy => let ⟨u, r1, r2⟩ := (q2 i).2 y hy; ⟨u, r1, r2.keep e0.size (fun _ _ _ => rfl)⟩⟩⟩
      have h2 := h1.keepT p2 (by decide) (p4 b (store_ne h1 Hb2.out))
      have h3 : TreeAt w.heap.size w2 t adr kv := ⟨HTr.out.root.low hw, fun x hx => (HTr.out.nodes x hx).low hw, HTr.out.inj, HTr.out.sep⟩
      have h4 := h3.keepT p2 (by decide) (by decide) (by decide)
      exact bodyPost_ret (v := .tuple #[.agg #[.map (some b), .pointer (some ⟨adr [], 0, none⟩)], .bool true]) (by simp [results, Tryd.results54, go_sem, z0, z1]) rfl ⟨p3 w ((e0.trans he1).trans he2) (Nat.le_refl _), .inr ⟨Hs1.out, Ht1.out, b, adr, kv, rfl, h2, h4⟩⟩
/-- what opening a volume leaves -/
def OpenVP (w0 : World) (s : List Hd) (t : List It) (e : Ending) (w' : World) : Prop :=
  Ext w0 w' ∧ ((volOk s t = false ∧ e = .returned (.tuple #[.agg #[.map none, .pointer none], .bool false])) ∨
    (volOk s t = true ∧ ∃ b adr kv, e = .returned (.tuple #[.agg #[.map (some b), .pointer (some ⟨adr [], 0, none⟩)], .bool true]) ∧ StoreAt w0.heap.size b 16 s w' ∧ TreeAt w0.heap.size w' t adr kv))
set_option maxRecDepth 8000 in
set_option maxHeartbeats 2000000 in
theorem openVol_c {B B' : Nat} {vs vt : Value} {s : List Hd} {t : List It} (w : World) (hs : Hds B w vs s) (ht : Its B' w vt t) (hm : ML w) : Calls Tryd.prog 30 #[.agg #[vs, vt]] w (OpenVP w s t) := by
  have HS := Lib.hid hs; have HT := Lib.hid ht; have HM := Lib.hid hm
  obtain ⟨A, c, rfl, -⟩ := hs
  obtain ⟨A2, c2, rfl, -⟩ := ht
  have e0 : Ext w ((w.alloc (.cells #[.slice A s.length c, .slice A2 t.length c2] 31)).alloc (.cells #[.map none, .pointer none] 67)) := ((Ext.refl w).alloc _).alloc _
  have HBk : Hid (Blk ((w.alloc (.cells #[.slice A s.length c, .slice A2 t.length c2] 31)).alloc (.cells #[.map none, .pointer none] 67)) (w.heap.size + 1) 67 #[.map none, .pointer none]) := Lib.hid (by
    have := Blk.new (w.alloc (.cells #[.slice A s.length c, .slice A2 t.length c2] 31)) 67 #[.map none, .pointer none]
    simpa using this)
  have Cn := newVolume_c _ (HS.out.ext e0) (HT.out.ext e0) (HM.out.ext e0)
  clear hm
  go_enter Tryd.func30, Tryd.ntmps30
  go_wp2_with fail
  refine Cn.mono ?_
  rintro e w1 ⟨he1, ⟨hs1, rfl⟩ | ⟨hs1, ht1, b, adr, kv, rfl, hSt, hTr⟩⟩
  · have hb1 := (HBk.out.ext he1).alloc (.cells #[.map none, .pointer none] 67)
    have c0 := hb1.cell 0; have c1 := hb1.cell 1
    have f0 := hb1.frozen 0; have f1 := hb1.frozen 1
    simp at c0 c1 f0 f1
    have Hr : Hid (volOk s t = false) := Lib.hid (by
      rw [volOk_used]
      cases h1 : storeOk s with
      | false => rfl
      | true => rw [h1, Bool.true_and] at hs1; rw [hs1]; rfl)
    have Hb1 := Lib.hid hb1
    clear hs1 hb1 Cn
    go_wp2
    obtain ⟨p1, -, p3, -⟩ := put_vol (a := .map none) (b := .pointer none) Hb1.out
    have z0 := p1.cell 0; have z1 := p1.cell 1
    simp at z0 z1
    exact bodyPost_ret (v := .tuple #[.agg #[.map none, .pointer none], .bool false]) (by simp [results, Tryd.results30, go_sem, z0, z1]) rfl ⟨p3 w ((e0.trans he1).alloc _) (by omega), .inl ⟨Hr.out, rfl⟩⟩
  · have e1 := e0.trans he1
    have hw : w.heap.size ≤ w1.heap.size := e1.size
    have hw0 := e0.size
    have e3 : Ext w1 ((w1.alloc (.cells #[.map (some b), .pointer (some ⟨adr [], 0, none⟩)] 67)).alloc (.cells #[.pointer (some ⟨adr [], 0, none⟩)] 65)) := ((Ext.refl w1).alloc _).alloc _
    have hTs : TreesAt 0 ((w1.alloc (.cells #[.map (some b), .pointer (some ⟨adr [], 0, none⟩)] 67)).alloc (.cells #[.pointer (some ⟨adr [], 0, none⟩)] 65)) (some ⟨w1.heap.size + 1, 0, none⟩) 1 [t] := by
      refine ⟨Nat.le_refl _, by unfold lim; simp, fun k t' h => ?_⟩
      cases k with
      | succ k => simp at h
      | zero =>
        simp only [List.getElem?_cons_zero, Option.some.injEq] at h
        subst h
        have hb := Blk.new (w1.alloc (.cells #[.map (some b), .pointer (some ⟨adr [], 0, none⟩)] 67)) 65 #[.pointer (some ⟨adr [], 0, none⟩)]
        have hc := hb.cell 0
        simp only [World.size_alloc] at hc
        have hT0 : TreeAt 0 w1 t adr kv := ⟨hTr.root.low (Nat.zero_le _), fun x hx => (hTr.nodes x hx).low (Nat.zero_le _), hTr.inj, hTr.sep⟩
        exact ⟨_, 0, adr, kv, rfl, by simp, hT0.ext e3, ht1⟩
    have Cu := usedBy_c _ (storeOk_iff.1 hs1) (hSt.ext e3) hTs
    have Hv : Hid (volOk s t = usedOk s [t]) := Lib.hid (by rw [volOk_used, hs1, ht1]; rfl)
    have HSt := Lib.hid hSt; have HTr := Lib.hid hTr
    have hb2 := Lib.hid (HBk.out.ext (he1.trans e3))
    have hb4 := Lib.hid ((Blk.new w1 67 #[.map (some b), .pointer (some ⟨adr [], 0, none⟩)]).alloc (.cells #[.pointer (some ⟨adr [], 0, none⟩)] 65))
    clear hs1 ht1 hSt hTr hTs Cn
    cases hu : usedOk s [t] with
    | false =>
      rw [hu] at Cu
      have Hr : Hid (volOk s t = false) := Lib.hid (by rw [Hv.out, hu])
      clear hu
      go_wp2_with (go_at_call 55; refine Cu.mono ?_; rintro e w5 ⟨rfl, he5⟩; have Hb5 := Lib.hid (hb2.out.ext he5); have c0 := Hb5.out.cell 0; have c1 := Hb5.out.cell 1; have f0 := Hb5.out.frozen 0; have f1 := Hb5.out.frozen 1; simp at c0 c1)
      obtain ⟨p1, -, p3, -⟩ := put_vol (a := .map none) (b := .pointer none) Hb5.out
      have z0 := p1.cell 0; have z1 := p1.cell 1
      simp at z0 z1
      exact bodyPost_ret (v := .tuple #[.agg #[.map none, .pointer none], .bool false]) (by simp [results, Tryd.results30, go_sem, z0, z1]) rfl ⟨p3 w (e1.trans (e3.trans he5)) (by omega), .inl ⟨Hr.out, rfl⟩⟩
    | true =>
      rw [hu] at Cu
      have Hr : Hid (volOk s t = true) := Lib.hid (by rw [Hv.out, hu])
      clear hu
      go_wp2_with (go_at_call 55; refine Cu.mono ?_; rintro e w5 ⟨rfl, he5⟩; have Hb5 := Lib.hid (hb2.out.ext he5); have c0 := Hb5.out.cell 0; have c1 := Hb5.out.cell 1; have f0 := Hb5.out.frozen 0; have f1 := Hb5.out.frozen 1; simp at c0 c1; have Hb6 := Lib.hid (hb4.out.ext he5); have r0 := Hb6.out.cell 0; have r1 := Hb6.out.cell 1; simp at r0 r1)
      obtain ⟨p1, p2, p3, p4⟩ := put_vol (a := .map (some b)) (b := .pointer (some ⟨adr [], 0, none⟩)) Hb5.out
      have z0 := p1.cell 0; have z1 := p1.cell 1
      simp at z0 z1
      have h1 : StoreAt w.heap.size b 16 s w5 := let ⟨M, q1, q2⟩ := HSt.out.ext (e3.trans he5); ⟨M, q1, fun i => ⟨(q2 i).1, fun y hy => let ⟨u, r1, r2⟩ := (q2 i).2 y hy; ⟨u, r1, r2.keep hw0 (fun _ _ _ => rfl)⟩⟩⟩
      have h2 := h1.keepT p2 (by decide) (p4 b (store_ne h1 Hb5.out))
      have h3 : TreeAt w.heap.size w1 t adr kv := ⟨HTr.out.root.low hw0, fun x hx => (HTr.out.nodes x hx).low hw0, HTr.out.inj, HTr.out.sep⟩
      have h4 := (h3.ext (e3.trans he5)).keepT p2 (by decide) (by decide) (by decide)
      exact bodyPost_ret (v := .tuple #[.agg #[.map (some b), .pointer (some ⟨adr [], 0, none⟩)], .bool true]) (by simp [results, Tryd.results30, go_sem, z0, z1]) rfl ⟨p3 w (e1.trans (e3.trans he5)) (by omega), .inr ⟨Hr.out, b, adr, kv, rfl, h2, h4⟩⟩
set_option maxRecDepth 4000 in
set_option maxHeartbeats 1000000 in
theorem VolumeValid_c {B B' : Nat} {vs vt : Value} {s : List Hd} {t : List It} (w : World) (hs : Hds B w vs s) (ht : Its B' w vt t) (hm : ML w) : Calls Tryd.prog 9 #[.agg #[vs, vt]] w (Ret (.bool (volOk s t)) w) := by
  have HS := Lib.hid hs; have HT := Lib.hid ht; have HM := Lib.hid hm
  obtain ⟨A, c, rfl, -⟩ := hs
  obtain ⟨A2, c2, rfl, -⟩ := ht
  have e0 : Ext w (w.alloc (.cells #[.slice A s.length c, .slice A2 t.length c2] 31)) := (Ext.refl w).alloc _
  have Cn := openVol_c _ (HS.out.ext e0) (HT.out.ext e0) (HM.out.ext e0)
  clear hm
  go_enter Tryd.func9, Tryd.ntmps9
  go_wp2_with fail
  refine Cn.mono ?_
  rintro e w1 ⟨he1, ⟨hv, rfl⟩ | ⟨hv, b, adr, kv, rfl, -, -⟩⟩
  · have Hv := Lib.hid hv
    clear hv Cn
    go_wp2
    go_ret
    exact ⟨ret_b Hv.out.symm, (e0.trans he1).alloc _⟩
  · have Hv := Lib.hid hv
    clear hv Cn
    go_wp2
    go_ret
    exact ⟨ret_b Hv.out.symm, (e0.trans he1).alloc _⟩
end Go.Sf
