/- The program drops a node. -/
import Derived.Test.YtneabdoianmfhaaGreatDoorT28
import Derived.Test.YtneabdoianmfhaaGreatDoorT126
import Derived.Test.YtneabdoianmfhaaGreatDoorW19
namespace Go.Sf
open Go Go.RowKit Go.Proofs
/-- what is no row of cells stays -/
def KeepsO (w w' : World) : Prop := ∀ b, b < w.heap.size → (∀ t cs, ¬ Blk w b t cs) → w'.heap[b]? = w.heap[b]?
def DropV (w0 w : World) (l : List It) (i : Nat) (x : It) (adr : Key → Nat) (e : Ending) (w' : World) : Prop :=
  (kidsOf l (key x) ≠ [] ∧ e = .returned (.bool false) ∧ Ext w w') ∨
  (kidsOf l (key x) = [] ∧ e = .returned (.bool true) ∧ Ext w0 w' ∧ KeepsN w w' ∧ KeepsO w w' ∧ (∀ cs, Blk w (adr (key x)) 241 cs → Blk w' (adr (key x)) 241 cs) ∧ ∃ kv', TreeAt w0.heap.size w' (l.eraseIdx i) adr kv')
theorem map_eraseIdx' {α β : Type} (f : α → β) (l : List α) (j : Nat) : (l.eraseIdx j).map f = (l.map f).eraseIdx j := by
  apply List.ext_getElem?
  intro t
  simp only [List.getElem?_eraseIdx, List.getElem?_map]
  split <;> rfl
section
variable {w0 w : World} {l : List It} {adr : Key → Nat} {kv : Key → Value}
set_option maxRecDepth 4000 in
set_option maxHeartbeats 2000000 in
theorem drop_c (h : TreeAt w0.heap.size w l adr kv) (ht : treeOk l = true) {i : Nat} {x : It} (hx : l[i]? = some x) (hps : x.path.size < lim) (hm : ML w) (h0 : Ext w0 w) :
    Calls Tryz.prog 161 #[.pointer (some ⟨adr [], 0, none⟩), .string x.path] w (DropV w0 w l i x adr) := by
  have hg := (treeOk_iff'.1 ht).2
  have h12 := (treeOk_iff'.1 ht).1
  have hll : l.length ≤ lim := by unfold lim; omega
  have hs := (tree_set.1 ht).2.1
  have hxl := List.mem_of_getElem? hx
  have hfx := (tree_set.1 ht).2.2 x hxl
  have hin : inDir l x.path := ⟨itemOk_path hfx.1, hfx.2⟩
  have hk : isKey l (key x).dropLast := hin.2.key
  have hkx : isKey l (key x) := .inr ⟨x, hxl, rfl⟩
  have hd := fun W (e : Ext w W) => dirOf_c (h.ext e) hg hll x.path hps (hm.ext e)
  rw [dirOfV_yes hin] at hd
  change ∀ W, Ext w W → Calls _ _ _ _ (Ret (.tuple #[.pointer (some ⟨adr (key x).dropLast, 0, none⟩), .string (nameOf (key x))]) W) at hd
  have hp := fun W (e : Ext w W) => place_c (h.ext e) hg hll hk (nameOf (key x))
  have hlb := lb_in hs hx
  have hhas : hasB (namesOf l (key x).dropLast) (nameOf (key x)) = true := by
    have h1 := key_last (x := x)
    unfold nameOf
    rw [List.getLastD_eq_getLast?, List.getLast?_eq_some_getLast (key_ne x)]
    refine has_name.2 ?_
    show isKey l ((key x).dropLast ++ [(key x).getLast (key_ne x)])
    rw [← h1]; exact hkx
  rw [hlb, hhas] at hp
  obtain ⟨dir, ids, ⟨hBk, hO, uk, hbk, -⟩, -⟩ := h.node hk
  obtain ⟨dirx, idsx, ⟨hBx, hOx, ux, hbx, -⟩, -⟩ := h.node hkx
  have hki := kids_in hx
  have hjk : (kidsOf l (key x).dropLast)[(kidsOf (l.take i) (key x).dropLast).length]? = some x := by rw [hki, List.getElem?_append_right (Nat.le_refl _), Nat.sub_self]; rfl
  have hjm : ((kidsOf l (key x).dropLast).map fun y => adr (key y))[(kidsOf (l.take i) (key x).dropLast).length]? = some (adr (key x)) := by rw [List.getElem?_map, hjk]; rfl
  have hjn := lt_of_get hjm
  have hkl : ((kidsOf l (key x).dropLast).map fun y => adr (key y)).length ≤ 12 := by rw [List.length_map]; exact Nat.le_trans (List.length_filter_le _ _) h12
  obtain ⟨g, c, cs, hkv, hgB, hbg, hcell⟩ := hO.at_ eptr_ok hjm
  unfold EPtr at hcell
  rw [Nat.mul_one] at hcell
  have hxk : adr (key x) ≠ adr (key x).dropLast := fun e => by
    have := h.inj _ _ hkx hk e
    have h1 := congrArg List.length this
    have h2 := congrArg List.length (key_last (x := x))
    simp only [List.length_append, List.length_singleton] at h2
    omega
  have hcut := kids_cut hx
  have htc := fun W w7 v' (e : Ext w W) => TreeAt.cut (B := w0.heap.size) (w4 := W) (w7 := w7) (adr := adr) (kv := kv) (v' := v') (h.ext e) hs hx hk
  obtain ⟨Ax, cx, hkvx⟩ := hOx.form
  rw [List.length_map] at hkvx
  have R0 := fun W (e : Ext w W) => hbg.at_ hcell W e
  have C3 := fun W (e : Ext w W) => hbk.at_ (i := 3) (u := kv (key x).dropLast) rfl W e
  have X3 := fun W (e : Ext w W) => hbx.at_ (i := 3) (u := kv (key x)) rfl W e
  generalize (kidsOf (l.take i) (key x).dropLast).length = j at *
  rw [hkv] at C3
  rw [hkvx] at X3
  generalize hkdd : (key x).dropLast = k at *
  generalize hnn : ((kidsOf l k).map fun y => adr (key y)).length = n at *
  generalize hqq : (kidsOf l (key x)).length = q at *
  have HXK := Lib.hid hxk
  have H := Lib.hid h; have HD := Lib.hid hd; have HP := Lib.hid hp; have HO := Lib.hid hO
  clear hd hp h hbk hbx hOx hcell hki
  have hg0 : kidsOf l (key x) = [] ↔ q = 0 := by rw [← hqq]; exact List.length_eq_zero_iff.symm
  have HQ := Lib.hid hg0
  have HC := Lib.hid htc
  have HCut := Lib.hid hcut
  have HJM := Lib.hid hjm
  have HN := Lib.hid hnn
  have HKV := Lib.hid hkv
  have H0 := Lib.hid h0
  clear hg0 htc hcut hjm hjk hnn hqq hlb hkdd hm hg hs hfx hin hll hkv hkvx
  have hjle : j < n := hjn
  have hw1 : IntKind.i64.wrap ((j : Int) + 1) = (j : Int) + 1 := IntWalk.i64_in _ (by omega)
  go_enter Tryz.func161, Tryz.ntmps161
  go_wp2_with fail
  refine (HD.out _ (Ext.refl w)).mono ?_
  rintro e w2 ⟨rfl, he2⟩
  go_wp2_with fail
  refine (HP.out _ he2).mono ?_
  rintro e w3 ⟨rfl, he3⟩
  have he4 := he2.trans he3
  clear he2 he3
  have r0 := R0 w3 he4; have c3 := C3 w3 he4; have x3 := X3 w3 he4
  by_cases hq0 : q = 0
  · have hq1 := HQ.out.2 hq0
    subst hq0
    have hOw : OwnS w0.heap.size 94 1 EPtr w3 (.slice (some ⟨g, 0, none⟩) ((kidsOf l k).map fun y => adr (key y)).length c) ((kidsOf l k).map fun y => adr (key y)) := by
      have := HO.out.ext eptr_ok he4
      rw [HKV.out] at this
      rw [HN.out]; exact this
    have hCd := Delete_c (i := j) hOw (by rw [HN.out]; exact hjn)
    rw [HN.out] at hCd
    obtain ⟨dir9, _, ⟨-, -, u9, hbk3, -⟩, -⟩ := (H.out.ext he4).node (k := k) (by assumption)
    have HOw := Lib.hid hOw; have Hbk3 := Lib.hid hbk3
    clear hOw hbk3
    go_wp2_with (go_at_call 188; refine hCd.mono ?_; rintro e w4 ⟨rfl, hO4, hgr⟩; have bk4 := (HOw.out).grown_keepsT hgr _ _ _ (by decide) Hbk3.out; have c4 := bk4.cell 3; have f4 := bk4.frozen 3; simp at c4; have HO4 := Lib.hid hO4; have HGr := Lib.hid hgr; have Hbk4 := Lib.hid bk4; clear hO4 hgr bk4; generalize (((kidsOf l k).map fun y => adr (key y)).eraseIdx j).length = n4 at *)
    go_ret
    have hKT := (HOw.out).grown_keepsT HGr.out
    have he5 : Ext w0 w4 := (HOw.out).grown_ext (H0.out.trans he4) HGr.out
    obtain ⟨kv', hT, hB⟩ := HC.out w3 w4 (.slice (some ⟨g, 0, none⟩) n4 c) he4 (by rw [HCut.out, map_eraseIdx']; exact HO4.out) (by rw [HKV.out]; exact HGr.out) (by rw [HKV.out]; rfl)
    refine .inr ⟨hq1, rfl, he5.setCell (p := ⟨adr k, 3, none⟩) hB _, ?_, ?_, ?_, kv', hT⟩
    · exact fun b t cs ht1 ht2 hb => KeepsT.set (t' := 241) Hbk4.out (.slice (some ⟨g, 0, none⟩) n4 c) rfl b t cs ht1 (hKT b t cs ht2 (hb.ext he4))
    · intro b hb hno
      have h1 : w3.heap[b]? = w.heap[b]? := he4.block hb
      have hbg : b ≠ g := by
        rintro rfl
        exact hno _ _ hbg
      have hbk : b ≠ adr k := by
        rintro rfl
        obtain ⟨_, _, ⟨-, -, _, hb8, -⟩, -⟩ := H.out.node (k := k) (by assumption)
        exact hno _ _ hb8
      rw [RowKit.Below.heap_setCell _ _ _ _ hbk, HGr.out.block b (Nat.lt_of_lt_of_le hb he4.size) (fun e => hbg (by injection e)), h1]
    · intro cs hb
      have h3 : Blk w4 (adr (key x)) 241 cs := hKT _ _ _ (by decide) (hb.ext he4)
      exact h3.far (p := ⟨adr k, 3, none⟩) HXK.out _
  · have hq1 : kidsOf l (key x) ≠ [] := fun e => hq0 (HQ.out.1 e)
    go_wp2_with fail
    go_ret
    exact .inl ⟨hq1, rfl, he4⟩
end
end Go.Sf
