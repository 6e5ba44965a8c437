/- slices.Delete of one node. -/
import Derived.Test.YtmgnmfkkikmedaaGreatDoorGE
import Derived.Test.YtmgnmfkkikmedaaGreatDoorShelfD
import Derived.Lib.OwnBridge
import Derived.Test.YtmgnmfkkikmedaaGreatDoorGT
import Derived.Test.YtmgnmfkkikmedaaGreatDoorGF
import Derived.Test.YtmgnmfkkikmedaaGreatDoorT28
import Derived.Test.YtmgnmfkkikmedaaGreatDoorGQ
import Derived.Test.YtmgnmfkkikmedaaGreatDoorT88
/-! slices.Delete of one node. -/
namespace Go.Sf
open Go Go.RowKit Go.Proofs
def encP : Option Nat → Value
  | some b => .pointer (some ⟨b, 0, none⟩)
  | none => .pointer none
theorem encP_one : OneCell encP := fun x => by cases x <;> rfl
theorem ptr_xs {w : World} {xs : List Value} {bs : List Nat} (hl : xs.length = bs.length * 1) (h : ∀ k x, bs[k]? = some x → EPtr w xs.toArray (k * 1) x) : xs = (bs.map some).map encP := by
  apply List.ext_getElem?
  intro j
  rw [List.map_map, List.getElem?_map]
  cases hb : bs[j]? with
  | none =>
    have : bs.length ≤ j := List.getElem?_eq_none_iff.1 hb
    rw [List.getElem?_eq_none (by omega)]; rfl
  | some b =>
    have := h j b hb
    unfold EPtr at this
    rw [Nat.mul_one, List.getElem?_toArray] at this
    rw [this]; rfl
theorem ptr_own {B n : Nat} {w : World} {v : Value} {bs : List Nat} (hn : bs.length = n) (h : w.ownsRow B 116 1 v n ((bs.map some).map encP)) : OwnS B 116 1 EPtr w v bs := by
  subst hn
  refine ⟨_, h, fun k x hk => ?_⟩
  unfold EPtr
  rw [Nat.mul_one, List.getElem?_toArray, List.map_map, List.getElem?_map, hk]
  rfl
/-- the row is as long as it was, or shorter: in place -/
def CutV (B g c : Nat) (w : World) (bs : List Nat) (e : Ending) (w' : World) : Prop :=
  e = .returned (.slice (some ⟨g, 0, none⟩) bs.length c) ∧ OwnS B 116 1 EPtr w' (.slice (some ⟨g, 0, none⟩) bs.length c) bs ∧ w.grownBy w' (some g)
theorem grownBy_putRow {α : Type} [Inhabited α] {enc : α → Value} {w : World} {g n : Nat} (d : Array α) : w.grownBy (Sort.putRow enc (Sort.ahead w n) g 0 d) (some g) := by
  refine ⟨rfl, rfl, rfl, by simp [Sort.ahead], fun k hk hne => ?_⟩
  have : g ≠ k := fun e => hne (by rw [e])
  simp [Sort.putRow, Sort.mapBlock, Sort.ahead, Array.getElem?_modify, this]
theorem Delete_c {B g c i : Nat} {w : World} {bs : List Nat} (hO : OwnS B 116 1 EPtr w (.slice (some ⟨g, 0, none⟩) bs.length c) bs) (hi : i < bs.length) :
    Calls Tryz.prog 170 #[.slice (some ⟨g, 0, none⟩) bs.length c, .int .i64 i, .int .i64 ((i : Int) + 1)] w (CutV B g c w (bs.eraseIdx i)) := by
  obtain ⟨xs, hrow, hxs⟩ := hO
  have hx := ptr_xs hrow.1 hxs
  subst hx
  obtain ⟨g', c', hv, -, -, hnc, hcm, hl, hH⟩ := Lib.holds_of_ownsRow hrow (by intro h; cases h)
  injection hv with e1 _ e3
  injection e1 with e1
  injection e1 with e1
  subst e1; subst e3
  have hlen : (bs.map some).toArray.size = bs.length := by simp
  have hle : (bs.eraseIdx i).length = bs.length - 1 := by rw [List.length_eraseIdx, if_pos hi]
  obtain ⟨ii, z, by_, hii, hz, hsz, -⟩ := el_Ptr.info
  have h := AnyE.slices_Delete Tryz.delNode encP encP_one none (fun w => Tryz.zeroValue116 w) ii hii hsz g 0 c i (i + 1) (bs.map some).toArray w hH (by rw [hlen]; exact hnc) (by unfold maxLen at hcm; omega) (by omega) (by rw [hlen]; omega)
  rw [hlen] at h
  refine (show Calls _ _ _ _ _ from h).mono ?_
  rintro e w' ⟨rfl, q, rfl⟩
  refine ⟨by rw [hle, show i + 1 - i = 1 by omega], ?_, grownBy_putRow _⟩
  have hy : (((bs.map some).take i ++ (bs.map some).drop (i + 1) ++ List.replicate (i + 1 - i) none)).length = bs.length := by simp; omega
  have h2 := Lib.ownsRow_putRow (q := q) (k := bs.length - 1) hrow hy (by omega)
  refine ptr_own (n := bs.length - 1) hle ?_
  rw [hle]
  have e : (((bs.map some).take i ++ (bs.map some).drop (i + 1) ++ List.replicate (i + 1 - i) none)).take (bs.length - 1) = (bs.eraseIdx i).map some := by
    rw [List.take_append_of_le_length (by simp; omega), List.take_of_length_le (by simp; omega), ← List.eraseIdx_eq_take_drop_succ]
    apply List.ext_getElem?
    intro j
    simp only [List.getElem?_eraseIdx, List.getElem?_map]
    split <;> rfl
  rw [e] at h2
  exact h2
end Go.Sf

/-! A tree of nodes gets one node less. -/
namespace Go.Sf
open Go Go.RowKit
theorem TreeAt.cut {B : Nat} {w4 w7 : World} {l : List It} {adr : Key → Nat} {kv : Key → Value} {i : Nat} {x : It} {v' : Value} (h : TreeAt B w4 l adr kv) (hs : Srt l) (hx : l[i]? = some x)
    (hk : isKey l (key x).dropLast)
    (hO : OwnS B 116 1 EPtr w7 v' ((kidsOf (l.eraseIdx i) (key x).dropLast).map fun y => adr (key y)))
    (hgr : w4.grownBy w7 (kv (key x).dropLast).ownBlock) (hvb : v'.ownBlock = (kv (key x).dropLast).ownBlock) :
    ∃ kv', TreeAt B (w7.setCell ⟨adr (key x).dropLast, 3, none⟩ v') (l.eraseIdx i) adr kv' ∧ B ≤ adr (key x).dropLast := by
  classical
  have hfar := fun k (e : (key x).dropLast ≠ k) => kids_cut_far hx e
  generalize (key x).dropLast = k at *
  have hown : ∀ q, isKey l q → OwnS B 116 1 EPtr w4 (kv q) ((kidsOf l q).map fun y => adr (key y)) := fun q hq => by
    obtain ⟨_, _, ⟨-, ho, -⟩, -⟩ := h.node hq; exact ho
  have hnk : ∀ g, (kv k).ownBlock = some g → ∀ b cs, Blk w4 b 132 cs → b ≠ g := fun g hg b cs hb => by
    obtain ⟨-, cs', hb'⟩ := (hown k hk).block hg
    exact Blk.ne_ hb hb' (by decide)
  have keepN : ∀ b cs, Blk w4 b 132 cs → Blk w7 b 132 cs := fun b cs hb =>
    (hgr.block b hb.lt (fun e => hnk b e.symm b cs hb rfl)).trans hb
  have keepI : ∀ u ids, Ints B w4 u ids → Ints B (w7.setCell ⟨adr k, 3, none⟩ v') u ids := fun u ids hi => by
    obtain ⟨_, _, ⟨-, -, _, hbk, -⟩, -⟩ := h.node hk
    obtain ⟨A, c, hv, a1, a2, a3, a4⟩ := hi
    refine ⟨A, c, hv, a1, a2, a3, fun j y hy => ?_⟩
    obtain ⟨b, o, cs, e1, e2, e3, e4⟩ := a4 j y hy
    refine ⟨b, o, cs, e1, e2, ?_, e4⟩
    have h7 : Blk w7 b 3 cs := (hgr.block b e3.lt (fun e => by
      obtain ⟨-, cs', hb'⟩ := (hown k hk).block e.symm
      exact Blk.ne_ e3 hb' (by decide) rfl)).trans e3
    exact h7.far (p := ⟨adr k, 3, none⟩) (Blk.ne_ e3 hbk (by decide)) v'
  have hak7 : ∃ cs, Blk w7 (adr k) 132 cs := by
    obtain ⟨_, _, ⟨-, -, _, hbk, -⟩, -⟩ := h.node hk
    exact ⟨_, keepN _ _ hbk⟩
  obtain ⟨csk, hak⟩ := hak7
  refine ⟨fun q => if q = k then v' else kv q, ?_, ?_⟩
  rotate_left
  · obtain ⟨_, _, ⟨hb, -⟩, -⟩ := h.node hk; exact hb
  have old : ∀ q dir ids, isKey l q → Node B w4 l adr kv q dir ids →
      Node B (w7.setCell ⟨adr k, 3, none⟩ v') (l.eraseIdx i) adr (fun q => if q = k then v' else kv q) q dir ids := fun q dir ids hq hn => by
    obtain ⟨a1, -, uq, a3, a4⟩ := hn
    have b3 := keepN _ _ a3
    have b4 := keepI _ _ a4
    unfold Node
    dsimp only
    refine ⟨a1, ?_, ?_⟩
    · by_cases hqk : q = k
      · subst hqk
        rw [if_pos rfl]
        refine hO.frame (fun g hg => ?_) (fun _ _ _ e => e)
        refine Below.heap_setCell w7 ⟨adr q, 3, none⟩ v' g ?_
        obtain ⟨-, cs', hb'⟩ := hO.block hg
        exact Blk.ne_ hb' hak (by decide)
      · rw [if_neg hqk, hfar q (fun e => hqk e.symm)]
        refine (hown q hq).frame (fun g hg => ?_) (fun _ _ _ e => e)
        obtain ⟨-, cs', hb'⟩ := (hown q hq).block hg
        have e1 : w7.heap[g]? = w4.heap[g]? := hgr.block g hb'.lt (fun e => hqk (h.sep q k g hq hk hg e.symm))
        rw [← e1]
        refine Below.heap_setCell w7 ⟨adr k, 3, none⟩ v' g ?_
        exact Blk.ne_ (e1.trans hb' : Blk w7 g 116 cs') hak (by decide)
    · by_cases hqk : q = k
      · subst hqk
        rw [if_pos rfl]
        exact ⟨uq, by simpa using b3.set_ 3 v', b4⟩
      · rw [if_neg hqk]
        exact ⟨uq, b3.far (p := ⟨adr k, 3, none⟩) (fun e => hqk (h.inj q k hq hk e)) v', b4⟩
  have hblk : ∀ q g, (if q = k then v' else kv q).ownBlock = some g → (kv q).ownBlock = some g := fun q g e => by
    split at e
    · next hq => subst hq; rw [← hvb]; exact e
    · exact e
  refine ⟨old [] true [] (.inl rfl) h.root, fun y hy => ?_, fun q q' hq hq' e => ?_, fun q q' g hq hq' e1 e2 => ?_⟩
  · have hyl := ((mem_erase hs hx).1 hy).1
    exact old _ _ _ (.inr ⟨y, hyl, rfl⟩) (h.nodes y hyl)
  · exact h.inj _ _ (erase_key hs hx hq).1 (erase_key hs hx hq').1 e
  · exact h.sep _ _ _ (erase_key hs hx hq).1 (erase_key hs hx hq').1 (hblk _ _ e1) (hblk _ _ e2)
end Go.Sf

/-! The program drops a node. -/
namespace Go.Sf
open Go Go.RowKit Go.Proofs
/-- what is no row of cells stays -/
def KeepsO (w w' : World) : Prop := ∀ b, b < w.heap.size → (∀ t cs, ¬ Blk w b t cs) → w'.heap[b]? = w.heap[b]?
def DropV (w0 w : World) (l : List It) (i : Nat) (x : It) (adr : Key → Nat) (e : Ending) (w' : World) : Prop :=
  (kidsOf l (key x) ≠ [] ∧ e = .returned (.bool false) ∧ Ext w w') ∨
  (kidsOf l (key x) = [] ∧ e = .returned (.bool true) ∧ Ext w0 w' ∧ KeepsN w w' ∧ KeepsO w w' ∧ (∀ cs, Blk w (adr (key x)) 132 cs → Blk w' (adr (key x)) 132 cs) ∧ ∃ kv', TreeAt w0.heap.size w' (l.eraseIdx i) adr kv')
theorem map_eraseIdx' {α β : Type} (f : α → β) (l : List α) (j : Nat) : (l.eraseIdx j).map f = (l.map f).eraseIdx j := by
  apply List.ext_getElem?
  intro t
  simp only [List.getElem?_eraseIdx, List.getElem?_map]
  split <;> rfl
section
variable {w0 w : World} {l : List It} {adr : Key → Nat} {kv : Key → Value}
set_option maxRecDepth 4000 in
set_option maxHeartbeats 2000000 in
theorem drop_c (h : TreeAt w0.heap.size w l adr kv) (ht : treeOk l = true) {i : Nat} {x : It} (hx : l[i]? = some x) (hps : x.path.size < lim) (hm : ML w) (h0 : Ext w0 w) :
    Calls Tryz.prog 146 #[.pointer (some ⟨adr [], 0, none⟩), .string x.path] w (DropV w0 w l i x adr) := by
  have hg := (treeOk_iff'.1 ht).2
  have h12 := (treeOk_iff'.1 ht).1
  have hll : l.length ≤ lim := by unfold lim; omega
  have hs := (tree_set.1 ht).2.1
  have hxl := List.mem_of_getElem? hx
  have hfx := (tree_set.1 ht).2.2 x hxl
  have hin : inDir l x.path := ⟨itemOk_path hfx.1, hfx.2⟩
  have hk : isKey l (key x).dropLast := hin.2.key
  have hkx : isKey l (key x) := .inr ⟨x, hxl, rfl⟩
  have hd := fun W (e : Ext w W) => dirOf_c (h.ext e) hg hll x.path hps (hm.ext e)
  rw [dirOfV_yes hin] at hd
  change ∀ W, Ext w W → Calls _ _ _ _ (Ret (.tuple #[.pointer (some ⟨adr (key x).dropLast, 0, none⟩), .string (nameOf (key x))]) W) at hd
  have hp := fun W (e : Ext w W) => place_c (h.ext e) hg hll hk (nameOf (key x))
  have hlb := lb_in hs hx
  have hhas : hasB (namesOf l (key x).dropLast) (nameOf (key x)) = true := by
    have h1 := key_last (x := x)
    unfold nameOf
    rw [List.getLastD_eq_getLast?, List.getLast?_eq_some_getLast (key_ne x)]
    refine has_name.2 ?_
    show isKey l ((key x).dropLast ++ [(key x).getLast (key_ne x)])
    rw [← h1]; exact hkx
  rw [hlb, hhas] at hp
  obtain ⟨dir, ids, ⟨hBk, hO, uk, hbk, -⟩, -⟩ := h.node hk
  obtain ⟨dirx, idsx, ⟨hBx, hOx, ux, hbx, -⟩, -⟩ := h.node hkx
  have hki := kids_in hx
  have hjk : (kidsOf l (key x).dropLast)[(kidsOf (l.take i) (key x).dropLast).length]? = some x := by rw [hki, List.getElem?_append_right (Nat.le_refl _), Nat.sub_self]; rfl
  have hjm : ((kidsOf l (key x).dropLast).map fun y => adr (key y))[(kidsOf (l.take i) (key x).dropLast).length]? = some (adr (key x)) := by rw [List.getElem?_map, hjk]; rfl
  have hjn := lt_of_get hjm
  have hkl : ((kidsOf l (key x).dropLast).map fun y => adr (key y)).length ≤ 12 := by rw [List.length_map]; exact Nat.le_trans (List.length_filter_le _ _) h12
  obtain ⟨g, c, cs, hkv, hgB, hbg, hcell⟩ := hO.at_ eptr_ok hjm
  unfold EPtr at hcell
  rw [Nat.mul_one] at hcell
  have hxk : adr (key x) ≠ adr (key x).dropLast := fun e => by
    have := h.inj _ _ hkx hk e
    have h1 := congrArg List.length this
    have h2 := congrArg List.length (key_last (x := x))
    simp only [List.length_append, List.length_singleton] at h2
    omega
  have hcut := kids_cut hx
  have htc := fun W w7 v' (e : Ext w W) => TreeAt.cut (B := w0.heap.size) (w4 := W) (w7 := w7) (adr := adr) (kv := kv) (v' := v') (h.ext e) hs hx hk
  obtain ⟨Ax, cx, hkvx⟩ := hOx.form
  rw [List.length_map] at hkvx
  have R0 := fun W (e : Ext w W) => hbg.at_ hcell W e
  have C3 := fun W (e : Ext w W) => hbk.at_ (i := 3) (u := kv (key x).dropLast) rfl W e
  have X3 := fun W (e : Ext w W) => hbx.at_ (i := 3) (u := kv (key x)) rfl W e
  generalize (kidsOf (l.take i) (key x).dropLast).length = j at *
  rw [hkv] at C3
  rw [hkvx] at X3
  generalize hkdd : (key x).dropLast = k at *
  generalize hnn : ((kidsOf l k).map fun y => adr (key y)).length = n at *
  generalize hqq : (kidsOf l (key x)).length = q at *
  have HXK := Lib.hid hxk
  have H := Lib.hid h; have HD := Lib.hid hd; have HP := Lib.hid hp; have HO := Lib.hid hO
  clear hd hp h hbk hbx hOx hcell hki
  have hg0 : kidsOf l (key x) = [] ↔ q = 0 := by rw [← hqq]; exact List.length_eq_zero_iff.symm
  have HQ := Lib.hid hg0
  have HC := Lib.hid htc
  have HCut := Lib.hid hcut
  have HJM := Lib.hid hjm
  have HN := Lib.hid hnn
  have HKV := Lib.hid hkv
  have H0 := Lib.hid h0
  clear hg0 htc hcut hjm hjk hnn hqq hlb hkdd hm hg hs hfx hin hll hkv hkvx
  have hjle : j < n := hjn
  have hw1 : IntKind.i64.wrap ((j : Int) + 1) = (j : Int) + 1 := IntWalk.i64_in _ (by omega)
  go_enter Tryz.func146, Tryz.ntmps146
  go_wp2_with fail
  refine (HD.out _ (Ext.refl w)).mono ?_
  rintro e w2 ⟨rfl, he2⟩
  go_wp2_with fail
  refine (HP.out _ he2).mono ?_
  rintro e w3 ⟨rfl, he3⟩
  have he4 := he2.trans he3
  clear he2 he3
  have r0 := R0 w3 he4; have c3 := C3 w3 he4; have x3 := X3 w3 he4
  by_cases hq0 : q = 0
  · have hq1 := HQ.out.2 hq0
    subst hq0
    have hOw : OwnS w0.heap.size 116 1 EPtr w3 (.slice (some ⟨g, 0, none⟩) ((kidsOf l k).map fun y => adr (key y)).length c) ((kidsOf l k).map fun y => adr (key y)) := by
      have := HO.out.ext eptr_ok he4
      rw [HKV.out] at this
      rw [HN.out]; exact this
    have hCd := Delete_c (i := j) hOw (by rw [HN.out]; exact hjn)
    rw [HN.out] at hCd
    obtain ⟨dir9, _, ⟨-, -, u9, hbk3, -⟩, -⟩ := (H.out.ext he4).node (k := k) (by assumption)
    have HOw := Lib.hid hOw; have Hbk3 := Lib.hid hbk3
    clear hOw hbk3
    go_wp2_with (go_at_call 170; refine hCd.mono ?_; rintro e w4 ⟨rfl, hO4, hgr⟩; have bk4 := (HOw.out).grown_keepsT hgr _ _ _ (by decide) Hbk3.out; have c4 := bk4.cell 3; have f4 := bk4.frozen 3; simp at c4; have HO4 := Lib.hid hO4; have HGr := Lib.hid hgr; have Hbk4 := Lib.hid bk4; clear hO4 hgr bk4; generalize (((kidsOf l k).map fun y => adr (key y)).eraseIdx j).length = n4 at *)
    go_ret
    have hKT := (HOw.out).grown_keepsT HGr.out
    have he5 : Ext w0 w4 := (HOw.out).grown_ext (H0.out.trans he4) HGr.out
    obtain ⟨kv', hT, hB⟩ := HC.out w3 w4 (.slice (some ⟨g, 0, none⟩) n4 c) he4 (by rw [HCut.out, map_eraseIdx']; exact HO4.out) (by rw [HKV.out]; exact HGr.out) (by rw [HKV.out]; rfl)
    refine .inr ⟨hq1, rfl, he5.setCell (p := ⟨adr k, 3, none⟩) hB _, ?_, ?_, ?_, kv', hT⟩
    · exact fun b t cs ht1 ht2 hb => KeepsT.set (t' := 132) Hbk4.out (.slice (some ⟨g, 0, none⟩) n4 c) rfl b t cs ht1 (hKT b t cs ht2 (hb.ext he4))
    · intro b hb hno
      have h1 : w3.heap[b]? = w.heap[b]? := he4.block hb
      have hbg : b ≠ g := by
        rintro rfl
        exact hno _ _ hbg
      have hbk : b ≠ adr k := by
        rintro rfl
        obtain ⟨_, _, ⟨-, -, _, hb8, -⟩, -⟩ := H.out.node (k := k) (by assumption)
        exact hno _ _ hb8
      rw [RowKit.Below.heap_setCell _ _ _ _ hbk, HGr.out.block b (Nat.lt_of_lt_of_le hb he4.size) (fun e => hbg (by injection e)), h1]
    · intro cs hb
      have h3 : Blk w4 (adr (key x)) 132 cs := hKT _ _ _ (by decide) (hb.ext he4)
      exact h3.far (p := ⟨adr k, 3, none⟩) HXK.out _
  · have hq1 : kidsOf l (key x) ≠ [] := fun e => hq0 (HQ.out.1 e)
    go_wp2_with fail
    go_ret
    exact .inl ⟨hq1, rfl, he4⟩
end
end Go.Sf

/-! The program frees a file. -/
namespace Go.Sf
open Go Go.RowKit Go.Proofs Go.Maps
theorem dropId_of {l : List Hd} (h : StoreOk l) {k : Nat} {y : Hd} (hy : l[k]? = some y) : dropId l y.id = some (dropAt l k) := by
  have hat : hAt l y.id = (k : Int) := by
    rcases atG_find (idIs y.id) l 0 with ⟨h1, -⟩ | ⟨i, x, h1, h2, -, h4, -⟩
    · exact absurd (List.find?_eq_none.1 h1 y (List.mem_of_getElem? hy)) (by simp [idIs, eqb_true])
    · have he : x.id = y.id := by simpa [idIs, eqb_iff] using h2
      have := h.inj h1 hy he
      subst this
      rw [hAt, h4]; simp
  unfold dropId
  rw [if_pos ⟨storeOk_iff.2 h, by rw [hat]; omega⟩, hat]
  simp
/-- each block is used as often as it is named -/
def HasUses (l : List Hd) (r : List Int) : Prop := ∀ i, i ∈ r → ∃ h, findH l i = some h ∧ (cntI i r : Int) ≤ h.uses
theorem cntI_cons (i j : Int) (r : List Int) : cntI i (j :: r) = cntI i r + if j = i then 1 else 0 := by
  unfold cntI
  by_cases e : j = i
  · subst e
    rw [List.filter_cons_of_pos (by exact eqb_true.2 rfl), if_pos rfl]; rfl
  · rw [List.filter_cons_of_neg (by simp [eqb_false.2 e]), if_neg e]; rfl
theorem cntI_pos {i : Int} {r : List Int} (h : i ∈ r) : 1 ≤ cntI i r := by
  unfold cntI
  exact List.length_pos_of_mem (List.mem_filter.2 ⟨h, eqb_true.2 rfl⟩)
theorem uses_step {l : List Hd} (h : StoreOk l) {i : Int} {r : List Int} (hu : HasUses l (i :: r)) : ∃ k y, l[k]? = some y ∧ y.id = i ∧ HasUses (dropAt l k) r := by
  obtain ⟨y, hy, hc⟩ := hu i (by simp)
  obtain ⟨h1, h2⟩ := findH_some hy
  obtain ⟨k, hk⟩ := List.mem_iff_getElem?.1 h1
  refine ⟨k, y, hk, h2, fun j hj => ?_⟩
  rw [find_dropAt h hk, h2]
  rw [cntI_cons, if_pos rfl] at hc
  by_cases e : j = i
  · subst e
    have := cntI_pos hj
    rw [if_pos rfl, if_neg (by omega)]
    exact ⟨_, rfl, by show _ ≤ y.uses - 1; omega⟩
  · rw [if_neg e]
    obtain ⟨z, hz, hc2⟩ := hu j (by simp [hj])
    rw [cntI_cons, if_neg (fun e' => e e'.symm)] at hc2
    exact ⟨z, hz, hc2⟩
theorem cntI_le_T {i : Int} {t : List It} {x : It} (h : x ∈ t) : cntI i x.ids ≤ cntT i t := by
  unfold cntT
  induction t with
  | nil => cases h
  | cons y r ih =>
    rw [List.map_cons, List.sum_cons]
    rcases List.mem_cons.1 h with rfl | h
    · omega
    · have := ih h; omega
theorem vol_uses {s : List Hd} {t : List It} (h : volOk s t = true) {x : It} (hx : x ∈ t) : HasUses s x.ids ∧ idsFit s x.ids = true ∧ StoreOk s ∧ treeOk t = true := by
  unfold volOk at h
  simp only [Bool.and_eq_true] at h
  obtain ⟨h1, h2, h3, h4⟩ := h
  have hf : idsFit s x.ids = true := by unfold filesFit at h3; exact List.all_eq_true.1 h3 x hx
  refine ⟨fun i hi => ?_, hf, storeOk_iff.1 h1, h2⟩
  obtain ⟨k, hk⟩ := List.mem_iff_getElem?.1 hi
  obtain ⟨y, hy, -⟩ := (idsFit_iff.1 hf).2 k i hk
  obtain ⟨g1, g2⟩ := findH_some hy
  have := List.all_eq_true.1 h4 y g1
  rw [eqb_iff] at this
  have h5 := cntI_le_T (i := i) hx
  rw [g2] at this
  exact ⟨y, hy, by omega⟩
/-- all that is made of cells stays -/
def KeepsC (w w' : World) : Prop := ∀ g t cs, Blk w g t cs → Blk w' g t cs
theorem KeepsC.t {w w' : World} (h : KeepsC w w') (t : TypeId) : KeepsT t w w' := fun g t' cs _ hb => h g t' cs hb
theorem Ext.keepsC {w w' : World} (h : Ext w w') : KeepsC w w' := fun _ _ _ hb => hb.ext h
theorem KeepsC.trans {w w' w'' : World} (h : KeepsC w w') (k : KeepsC w' w'') : KeepsC w w'' := fun g t cs hb => k g t cs (h g t cs hb)
theorem map_keepsC {b n : Nat} {M : Lit → Option Value} {w w' : World} {P : Program} {k : TypeId} (h : MapV P k b n M w) (hg : w.grownBy w' (some b)) : KeepsC w w' := fun g t cs hb => by
  by_cases e : t = 9
  · exact map_keepsT h hg 3 g t cs (by rw [e]; decide) hb
  · exact map_keepsT h hg 9 g t cs e hb
def DropMP (w0 w : World) (B b n : Nat) (s : List Hd) (e : Ending) (w' : World) : Prop :=
  e = .returned (.bool true) ∧ Ext w0 w' ∧ KeepsC w w' ∧ StoreAt B b n s w'
set_option maxRecDepth 4000 in
set_option maxHeartbeats 2000000 in
theorem bsDrop_c {B b n k : Nat} {s : List Hd} {y : Hd} {w0 w : World} (hs : StoreOk s) (h : StoreAt B b n s w) (hn : n < maxLen) (h0 : Ext w0 w) (hb : w0.heap.size ≤ b) (hy : s[k]? = some y) :
    Calls Tryz.prog 171 #[.map (some b), .int .i64 y.id] w (DropMP w0 w B b (n + 1) (dropAt s k)) := by
  have hok := hd_ok (hs.2 k y hy).1
  have hfd := fun i => find_dropAt hs hy i
  have hf := hs.find hy
  obtain ⟨M, hV, hM⟩ := h
  obtain ⟨u, hr, hu⟩ := (hM y.id).2 y hf
  obtain ⟨Au, cu, rfl, hAu⟩ := hu
  have hin : inI y.id := by unfold inI; omega
  have hkey := keyI hin
  have HV := Lib.hid hV; have HM := Lib.hid hM; have HF := Lib.hid hfd; have H0 := Lib.hid h0
  have HU : Hid (Ints B w (.slice Au y.bytes.length cu) y.bytes) := Lib.hid ⟨_, _, rfl, hAu⟩
  obtain ⟨yk, yb, yu⟩ := y
  simp only at *
  have hwr : IntKind.i64.wrap (yu - 1) = yu - 1 := IntWalk.i64_in _ (by omega)
  have ea : Ext w (w.alloc (.cells #[.int .i64 yk, .slice Au yb.length cu, .int .i64 yu] 70)) := (Ext.refl w).alloc _
  clear hM hAu hs hy hf hfd h0
  by_cases hu1 : yu = 1
  · subst hu1
    go_enter Tryz.func171, Tryz.ntmps171
    go_wp2_with (first | (at_lookup; refine wp_mlook_ok_some rfl _ _ rfl lawI underStore (zeroHd _) rfl hV _ _ rfl hkey hr ?_) | (at_delete; refine wp_mdel (w0 := w0) rfl _ _ rfl lawI underStore (H0.out.trans ea) hb rfl (HV.out.ext ea) _ _ rfl hkey ?_; intro w6 hM6 he6 hg6))
    have hK := map_keepsC (HV.out.ext ea) hg6
    go_ret
    refine ⟨rfl, he6, ea.keepsC.trans hK, _, hM6.mono (by omega), fun i => ?_⟩
    have hfi := HF.out i
    by_cases e : i = yk
    · subst e
      rw [if_pos rfl, if_pos (by trivial)] at hfi
      rw [hfi, updM_same]
      exact ⟨fun _ => rfl, fun _ h => by cases h⟩
    · rw [if_neg e] at hfi
      rw [hfi, updM_other (kI_ne e)]
      exact ((HM.out.ext ea).keepT (hK.t 9) (by decide)) i
  · have hb1 : (yu == 1) = false := by simp [hu1]
    have eb : Ext w (w.alloc (.cells #[.int .i64 yk, .slice Au yb.length cu, .int .i64 (yu - 1)] 70)) := (Ext.refl w).alloc _
    go_enter Tryz.func171, Tryz.ntmps171
    go_wp2_with (first | (at_lookup; refine wp_mlook_ok_some rfl _ _ rfl lawI underStore (zeroHd _) rfl hV _ _ rfl hkey hr ?_) | (at_mapUpdate; (refine wp_mput (w0 := w0) rfl _ _ _ rfl lawI underStore (H0.out.trans eb) hb rfl (HV.out.ext eb) hn _ _ _ rfl rfl hkey ?_; intro w6 hM6 he6 hg6)))
    have hK := map_keepsC (HV.out.ext eb) hg6
    go_ret
    refine ⟨rfl, he6, eb.keepsC.trans hK, _, hM6, fun i => ?_⟩
    have hfi := HF.out i
    by_cases e : i = yk
    · subst e
      rw [if_pos rfl, if_neg hu1] at hfi
      rw [hfi, updM_same]
      refine ⟨fun h => (by cases h), fun z hz => ?_⟩
      injection hz with hz
      subst hz
      exact ⟨_, rfl, (HU.out.ext eb).keepT (hK.t 9) (by decide)⟩
    · rw [if_neg e] at hfi
      rw [hfi, updM_other (kI_ne e)]
      exact ((HM.out.ext eb).keepT (hK.t 9) (by decide)) i
def FreeP (w0 w : World) (B b n : Nat) (o : Option (List Hd)) (e : Ending) (w' : World) : Prop :=
  e = .returned (.bool true) ∧ Ext w0 w' ∧ KeepsC w w' ∧ ∃ s', o = some s' ∧ StoreOk s' ∧ StoreAt B b n s' w'
set_option maxRecDepth 4000 in
set_option maxHeartbeats 2000000 in
theorem freeFile_c {B B' b n : Nat} {v : Value} {s : List Hd} {ids : List Int} {w0 w : World} (hs : StoreOk s) (h : StoreAt B b n s w) (hi : Ints B' w v ids) (hfit : idsFit s ids = true) (hu : HasUses s ids)
    (hn : n + ids.length < maxLen) (h0 : Ext w0 w) (hb : w0.heap.size ≤ b) : Calls Tryz.prog 147 #[.map (some b), v] w (FreeP w0 w B b (n + ids.length) (dropAll s ids)) := by
  have Cf := fileIds_c w hs h hi
  rw [hfit] at Cf
  have HI := Lib.hid hi
  obtain ⟨Ai, ci, rfl, hAi⟩ := hi
  have hil := hAi.2.2.1
  unfold lim at hil
  have HS := Lib.hid hs; have HSt := Lib.hid h; have HU := Lib.hid hu; have H0 := Lib.hid h0
  clear hs h hAi hu hfit h0
  generalize hm : ids.length = m at *
  have Hm := Lib.hid hm
  clear hm
  go_enter Tryz.func147, Tryz.ntmps147
  go_wp2_with (go_at_call 140; refine Cf.mono ?_; rintro e w1 ⟨rfl, he1⟩)
  have hK1 := he1.keepsC
  have hSt1 := HSt.out.ext he1
  have hE1 := H0.out.trans he1
  have hI1 := HI.out.ext he1
  clear Cf
  go_loopw [13] (fun i wr => ∃ (k : Nat) (st : List Hd), k ≤ m ∧ i = .int .i64 k ∧ Ext w0 wr ∧ Hid (KeepsC w wr) ∧ Hid (StoreAt B b (n + k) st wr) ∧ Hid (StoreOk st ∧ HasUses st (ids.drop k) ∧ dropAll s ids = dropAll st (ids.drop k)) ∧ Hid (Ints B' wr (.slice Ai m ci) ids)) (fun i _ => m - (RowKit.intOf i).toNat)
  case atStart => exact ⟨0, s, by omega, rfl, hE1, Lib.hid hK1, Lib.hid hSt1, Lib.hid ⟨HS.out, HU.out, rfl⟩, Lib.hid hI1⟩
  case round =>
    obtain ⟨k, st, hk, rfl, he, hK, hSt, hP, hI⟩ := hrel
    by_cases hlt : k < m
    · obtain ⟨x, hx⟩ := get_of_lt (l := ids) (k := k) (by rw [Hm.out]; exact hlt)
      have hdc := drop_cons hx
      obtain ⟨q1, q2, q3⟩ := hP.out
      rw [hdc] at q2
      obtain ⟨j, y, hy, hyx, hus⟩ := uses_step q1 q2
      have hI' := hI.out
      obtain ⟨Ai', ci', hvk, hAk⟩ := hI'
      rw [Hm.out] at hvk
      injection hvk with ek1 ek2 ek3
      subst ek1; subst ek3
      clear ek2
      obtain ⟨b2, o2, rfl, -, -, hxi, hc0⟩ := Ints.at_ hAk hx
      have a0 := hc0 wr (Ext.refl _)
      have Cd := bsDrop_c (w0 := w0) q1 hSt.out (by omega) he hb hy
      rw [hyx] at Cd
      have HP2 : Hid (StoreOk (dropAt st j) ∧ HasUses (dropAt st j) (ids.drop (k + 1)) ∧ dropAll s ids = dropAll (dropAt st j) (ids.drop (k + 1))) := Lib.hid ⟨dropAt_ok q1 hy, hus, by
        rw [q3, hdc]
        show (dropId st x).bind _ = _
        rw [← hyx, dropId_of q1 hy]; rfl⟩
      clear hc0 hx hdc q1 q2 q3 hus hP hSt hAk
      go_wp2_with (go_at_call 171; refine Cd.mono ?_; rintro e w2 ⟨rfl, he2, hK2, hSt2⟩; have HK2 := Lib.hid hK2; have HSt2 := Lib.hid hSt2; clear hK2 hSt2)
      go_roundw
      case rel => exact ⟨k + 1, dropAt st j, by omega, by go_num, he2, Lib.hid (hK.out.trans HK2.out), Lib.hid (by rw [← Nat.add_assoc]; exact HSt2.out), HP2, Lib.hid (hI.out.keepT (HK2.out.t 9) (by decide))⟩
      case measure => simp [RowKit.intOf]; omega
    · have hks : k = m := by omega
      subst hks
      have Hr : Hid (dropAll s ids = some st) := Lib.hid (by rw [hP.out.2.2, List.drop_eq_nil_of_le (by rw [Hm.out]; exact Nat.le_refl _)]; rfl)
      go_wp2
      go_ret
      exact ⟨rfl, he, hK.out, st, Hr.out, hP.out.1, hSt.out⟩
end Go.Sf

/-! The program removes an item of an open volume. -/
namespace Go.Sf
open Go Go.RowKit Go.Proofs Go.Maps
theorem Ints.keepN {B : Nat} {w w' : World} {u : Value} {ids : List Int} (h : Ints B w u ids) (hk : KeepsN w w') : Ints B w' u ids := by
  obtain ⟨A, c, hv, a1, a2, a3, a4⟩ := h
  refine ⟨A, c, hv, a1, a2, a3, fun j y hy => ?_⟩
  obtain ⟨b, o, cs, e1, e2, e3, e4⟩ := a4 j y hy
  exact ⟨b, o, cs, e1, e2, hk b _ cs (by decide) (by decide) e3, e4⟩
theorem KeepsC.n {w w' : World} (h : KeepsC w w') : KeepsN w w' := fun b t cs _ _ hb => h b t cs hb
theorem KeepsN.trans {w w' w'' : World} (h : KeepsN w w') (k : KeepsN w' w'') : KeepsN w w'' := fun b t cs h1 h2 hb => k b t cs h1 h2 (h b t cs h1 h2 hb)
theorem StoreAt.keepN {B b n : Nat} {w w' : World} {l : List Hd} (h : StoreAt B b n l w) (hk : KeepsN w w') (ho : KeepsO w w') : StoreAt B b n l w' := by
  have hno : ∀ t cs, ¬ Blk w b t cs := fun t cs hb => store_ne h hb rfl
  obtain ⟨M, h1, h2⟩ := h
  have hlt : b < w.heap.size := by
    obtain ⟨D, ⟨es, cl, hb, -⟩, -⟩ := h1
    rcases Nat.lt_or_ge b w.heap.size with hlt | hge
    · exact hlt
    · rw [Array.getElem?_eq_none hge] at hb; cases hb
  exact ⟨M, h1.block (ho b hlt hno), fun i => ⟨(h2 i).1, fun y hy => let ⟨u, r1, r2⟩ := (h2 i).2 y hy; ⟨u, r1, r2.keepN hk⟩⟩⟩
theorem treeDrop_ok {t : List It} (ht : treeOk t = true) {p : ByteArray} {i : Nat} {x : It} (hx : t[i]? = some x) (hp : x.path = p) : treeDrop t p = if treeOk (t.eraseIdx i) = true then some (t.eraseIdx i) else none := by
  have hat : atPath t p = (i : Int) := by
    rcases atG_find (pathIs p) t 0 with ⟨h1, -⟩ | ⟨j, y, h1, h2, -, h4, -⟩
    · exact absurd (List.find?_eq_none.1 h1 x (List.mem_of_getElem? hx)) (by simp [pathIs, hp, eqb_true])
    · have he : y.path = x.path := by rw [hp]; simpa [pathIs, eqb_iff] using h2
      have hg := (treeOk_iff'.1 ht).2
      have hij : j = i := by
        rcases Nat.lt_trichotomy j i with hij | hij | hij
        · have := hg.lt h1 hx hij; rw [he, lt8_irrefl] at this; cases this
        · exact hij
        · have := hg.lt hx h1 hij; rw [he, lt8_irrefl] at this; cases this
      subst hij
      rw [atPath, h4]; simp
  unfold treeDrop
  rw [hat]
  simp [ht]
theorem treeDrop_none {t : List It} {p : ByteArray} (h : findIt t p = none) : treeDrop t p = none := by
  unfold treeDrop
  rw [if_neg]
  rintro ⟨-, h2, -⟩
  rcases atG_find (pathIs p) t 0 with ⟨-, h1⟩ | ⟨j, y, -, -, h3, -, -⟩
  · rw [atPath, h1] at h2; omega
  · unfold findIt at h; rw [h] at h3; cases h3
/-- what removing leaves -/
def RemoveV (w0 w : World) (b : Nat) (s : List Hd) (t : List It) (p : ByteArray) (adr : Key → Nat) (e : Ending) (w' : World) : Prop :=
  e = .returned (.bool (treeDrop t p).isSome) ∧ Ext w0 w' ∧ KeepsN w w' ∧ ∀ t', treeDrop t p = some t' → treeOk t' = true ∧ ∃ s' kv', freeAll s (idsAt t p) = some s' ∧ StoreOk s' ∧ StoreAt w0.heap.size b 20 s' w' ∧ TreeAt w0.heap.size w' t' adr kv'
section
variable {w0 w : World} {s : List Hd} {t : List It} {adr : Key → Nat} {kv : Key → Value}
set_option maxRecDepth 4000 in
set_option maxHeartbeats 2000000 in
theorem remove_c {b : Nat} {p : ByteArray} (hv : volOk s t = true) (hSt : StoreAt w0.heap.size b 16 s w) (hTr : TreeAt w0.heap.size w t adr kv) (hb : w0.heap.size ≤ b) (h0 : Ext w0 w) (hp : p.size < lim) (hm : ML w) :
    Calls Tryz.prog 96 #[.agg #[.map (some b), .pointer (some ⟨adr [], 0, none⟩)], .string p] w (RemoveV w0 w b s t p adr) := by
  have ht : treeOk t = true := by unfold volOk at hv; simp only [Bool.and_eq_true] at hv; exact hv.2.1
  have hg := (treeOk_iff'.1 ht).2
  have hll : t.length ≤ lim := by have := (treeOk_iff'.1 ht).1; unfold lim; omega
  have e0 : Ext w (w.alloc (.cells #[.map (some b), .pointer (some ⟨adr [], 0, none⟩)] 118)) := (Ext.refl w).alloc _
  have hbk := Blk.new w 118 #[.map (some b), .pointer (some ⟨adr [], 0, none⟩)]
  have d0 := fun W (e : Ext _ W) => hbk.at_ (i := 0) (u := .map (some b)) rfl W e
  have d1 := fun W (e : Ext _ W) => hbk.at_ (i := 1) (u := .pointer (some ⟨adr [], 0, none⟩)) rfl W e
  have Cf := nodeFind_c (hTr.ext e0) hg hll p hp (hm.ext e0)
  unfold findV at Cf
  have q1 := d1 _ (Ext.refl _)
  cases hf : findIt t p with
  | none =>
    rw [hf] at Cf
    have Hd : Hid (treeDrop t p = none) := Lib.hid (treeDrop_none hf)
    have H0 := Lib.hid h0
    clear hf hTr hSt hv hm
    go_enter Tryz.func96, Tryz.ntmps96
    go_wp2_with (go_at_call 83; refine Cf.mono ?_; rintro e w2 ⟨rfl, he2⟩)
    refine wp_region_hold (fun W => Ext w2 W) 15 [(0, true), (1, true), (2, true), (3, true), (4, true), (5, true), (6, false), (7, true), (8, true), (9, true), (10, true), (11, true), (12, true), (13, true), (14, true)] (by kernel_rfl) (by kernel_rfl) ?_ ?_
    · exact (Ext.refl _).drew
    (repeat (first | (apply hw_read (by rfl) (by rfl); (· (intro W hW; (try dsimp only at hW); go_simp; (first | done | rfl | (rw [if_pos] <;> first | omega | rfl)))); (try simp only [Act.put, List.setIfInBounds_toArray, List.set_cons_zero, List.set_cons_succ])) | (refine hw_skip (by rfl) (by rfl) ?_; (try simp only [Act.put, List.setIfInBounds_toArray, List.set_cons_zero, List.set_cons_succ]))))
    refine hw_step (by rfl) ?_
    go_wp2
    refine ⟨(Ext.refl _).drew, ?_⟩
    (repeat (first | (apply hw_read (by rfl) (by rfl); (· (intro W hW; (try dsimp only at hW); go_simp; (first | done | rfl | (rw [if_pos] <;> first | omega | rfl)))); (try simp only [Act.put, List.setIfInBounds_toArray, List.set_cons_zero, List.set_cons_succ])) | (refine hw_skip (by rfl) (by rfl) ?_; (try simp only [Act.put, List.setIfInBounds_toArray, List.set_cons_zero, List.set_cons_succ]))))
    (refine hw_nil ?_; (try simp only [List.drop_succ_cons, List.drop_zero]))
    go_wp2
    refine NoPanic.normal ?_
    (try dsimp only [Exit.then])
    go_wp2
    go_ret
    exact ⟨by rw [Hd.out]; rfl, H0.out.trans (e0.trans (he2.trans (Ext.refl _).drew)), (e0.trans (he2.trans (Ext.refl _).drew)).keepsC.n, fun t' h => by rw [Hd.out] at h; cases h⟩
  | some x =>
    rw [hf] at Cf
    obtain ⟨hxm, hxp⟩ := findIt_some hf
    obtain ⟨i, hi⟩ := List.mem_iff_getElem?.1 hxm
    have hd := treeDrop_ok ht hi hxp
    have hco := cut_ok ht hi
    obtain ⟨hus, hfit, hso, -⟩ := vol_uses hv hxm
    have hids : idsAt t p = x.ids := by unfold idsAt; rw [hf]; rfl
    have hfa : freeAll s x.ids = dropAll s x.ids := by unfold freeAll; rw [if_pos ⟨storeOk_iff.2 hso, hfit⟩]
    have hps : x.path.size < lim := by rw [hxp]; exact hp
    obtain ⟨-, -, ux, hbx, hux⟩ := hTr.nodes x hxm
    have hi4 := (idsFit_iff.1 hfit).1
    have Cd := fun W (e : Ext w W) => drop_c (w0 := w0) (hTr.ext e) ht hi hps (hm.ext e) (h0.trans e)
    rw [hxp] at Cd
    obtain ⟨Ax, cx, rfl, hAx⟩ := hux
    have HUx : Hid (Ints w0.heap.size w (.slice Ax x.ids.length cx) x.ids) := Lib.hid ⟨_, _, rfl, hAx⟩
    have HD := Lib.hid hd; have HC := Lib.hid hco; have HCd := Lib.hid Cd; have HBx := Lib.hid hbx
    have HF := Lib.hid (And.intro hus (And.intro hfit hso))
    have HSt := Lib.hid hSt; have H0 := Lib.hid h0
    have Hids := Lib.hid (And.intro hids hfa)
    clear hd hco Cd hbx hus hfit hso hSt h0 hids hfa hTr hv hm hf hAx hg
    go_enter Tryz.func96, Tryz.ntmps96
    go_wp2_with (go_at_call 83; refine Cf.mono ?_; rintro e w2 ⟨rfl, he2⟩)
    have hE2 := e0.trans he2
    have bx2 := HBx.out.ext hE2
    have r0 := fun W (e : Ext w2 W) => d0 W (he2.trans e)
    have r1 := fun W (e : Ext w2 W) => d1 W (he2.trans e)
    have r2 := fun W (e : Ext w2 W) => bx2.at_ (i := 2) (u := .slice Ax x.ids.length cx) rfl W e
    refine wp_region_hold (fun W => W.cell? ⟨w.heap.size, 0, none⟩ = some (.map (some b)) ∧ W.cell? ⟨w.heap.size, 1, none⟩ = some (.pointer (some ⟨adr [], 0, none⟩)) ∧ W.cell? ⟨adr (key x), 2, none⟩ = some (.slice Ax x.ids.length cx)) 15 [(0, true), (1, true), (2, true), (3, true), (4, true), (5, true), (6, false), (7, true), (8, true), (9, true), (10, true), (11, true), (12, true), (13, true), (14, true)] (by kernel_rfl) (by kernel_rfl) ?_ ?_
    · exact ⟨r0 _ (Ext.refl _).drew, r1 _ (Ext.refl _).drew, r2 _ (Ext.refl _).drew⟩
    (repeat (first | (apply hw_read (by rfl) (by rfl); (· (intro W hW; (try dsimp only at hW); go_simp; (first | done | rfl | (rw [if_pos] <;> first | omega | rfl)))); (try simp only [Act.put, List.setIfInBounds_toArray, List.set_cons_zero, List.set_cons_succ])) | (refine hw_skip (by rfl) (by rfl) ?_; (try simp only [Act.put, List.setIfInBounds_toArray, List.set_cons_zero, List.set_cons_succ]))))
    refine hw_step (by rfl) ?_
    go_wp2_with fail
    refine (HCd.out _ (hE2.trans (Ext.refl _).drew)).mono ?_
    have hE3 := hE2.trans (Ext.refl w2).drew
    have hbV := (hbk.ext (he2.trans (Ext.refl w2).drew))
    rintro e w3 (⟨hk0, rfl, he3⟩ | ⟨hk0, rfl, he3, hKN, hKO, hKx, kv', hT3⟩)
    · have hc : treeOk (t.eraseIdx i) ≠ true := fun h => hk0 (HC.out.1 h)
      have Hd : Hid (treeDrop t p = none) := Lib.hid (by rw [HD.out, if_neg hc])
      have e3 := (Ext.refl w2).drew.trans he3
      clear hk0 hc
      go_wp2
      refine ⟨⟨r0 _ e3, r1 _ e3, r2 _ e3⟩, ?_⟩
      (repeat (first | (apply hw_read (by rfl) (by rfl); (· (intro W hW; (try dsimp only at hW); go_simp; (first | done | rfl | (rw [if_pos] <;> first | omega | rfl)))); (try simp only [Act.put, List.setIfInBounds_toArray, List.set_cons_zero, List.set_cons_succ])) | (refine hw_skip (by rfl) (by rfl) ?_; (try simp only [Act.put, List.setIfInBounds_toArray, List.set_cons_zero, List.set_cons_succ]))))
      (refine hw_nil ?_; (try simp only [List.drop_succ_cons, List.drop_zero]))
      go_wp2
      refine NoPanic.normal ?_
      (try dsimp only [Exit.then])
      go_wp2
      go_ret
      exact ⟨by rw [Hd.out]; rfl, H0.out.trans (hE2.trans e3), (hE2.trans e3).keepsC.n, fun t' h => by rw [Hd.out] at h; cases h⟩
    · have hc := HC.out.2 hk0
      have Hd : Hid (treeDrop t p = some (t.eraseIdx i)) := Lib.hid (by rw [HD.out, if_pos hc])
      have Hc := Lib.hid hc
      have bV3 := hKN _ _ _ (by decide) (by decide) hbV
      have bx3 := hKx _ (HBx.out.ext hE3)
      have s0 := bV3.cell 0; have s1 := bV3.cell 1; have s2 := bx3.cell 2
      simp at s0 s1 s2
      have hSt3 := (HSt.out.ext hE3).keepN hKN hKO
      have Cff := freeFile_c (w0 := w0) HF.out.2.2 hSt3 ((HUx.out.ext hE3).keepN hKN) HF.out.2.1 HF.out.1 (by unfold maxLen; omega) he3 hb
      have HT3 := Lib.hid hT3
      have HKN := Lib.hid hKN
      clear hk0 hc hKN hKO hKx hT3 bV3 bx3 hSt3
      go_wp2
      refine ⟨⟨s0, s1, s2⟩, ?_⟩
      (repeat (first | (apply hw_read (by rfl) (by rfl); (· (intro W hW; (try dsimp only at hW); go_simp; (first | done | rfl | (rw [if_pos] <;> first | omega | rfl)))); (try simp only [Act.put, List.setIfInBounds_toArray, List.set_cons_zero, List.set_cons_succ])) | (refine hw_skip (by rfl) (by rfl) ?_; (try simp only [Act.put, List.setIfInBounds_toArray, List.set_cons_zero, List.set_cons_succ]))))
      (refine hw_nil ?_; (try simp only [List.drop_succ_cons, List.drop_zero]))
      go_wp2_with (go_at_call 147; refine Cff.mono ?_; rintro e w4 ⟨rfl, he4, hKC, s', hs', hso', hSt4⟩; have HT4 := Lib.hid (HT3.out.keepT (hKC.t 9) (by decide) (by decide) (by decide)); have HS4 := Lib.hid (And.intro hs' (And.intro hso' hSt4)); have HK4 := Lib.hid (hE3.keepsC.n.trans (HKN.out.trans hKC.n)); clear hKC hs' hso' hSt4)
      refine NoPanic.normal ?_
      (try dsimp only [Exit.then])
      go_wp2
      go_ret
      refine ⟨by rw [Hd.out]; rfl, he4, HK4.out, fun t' h => ?_⟩
      rw [Hd.out] at h
      injection h with h
      subst h
      obtain ⟨g1, g2, g3⟩ := HS4.out
      exact ⟨Hc.out, s', kv', by rw [Hids.out.1, Hids.out.2]; exact g1, g2, g3.mono (by omega), HT4.out⟩
end
end Go.Sf

/-! The program hands a volume out; VolumeDrop. -/
namespace Go.Sf
open Go Go.RowKit Go.Proofs
set_option maxRecDepth 4000 in
set_option maxHeartbeats 2000000 in
theorem volume_c {B b n : Nat} {s : List Hd} {t : List It} {adr : Key → Nat} {kv : Key → Value} (w : World) (hs : StoreOk s) (ht : treeOk t = true) (hSt : StoreAt B b n s w) (hTr : TreeAt B w t adr kv) :
    Calls Tryz.prog 91 #[.agg #[.map (some b), .pointer (some ⟨adr [], 0, none⟩)]] w (RetP (fun r w' => VolU w.heap.size w' r s t) w) := by
  have hg := (treeOk_iff'.1 ht).2
  have h12 := (treeOk_iff'.1 ht).1
  have e0 : Ext w ((w.alloc (.cells #[.map (some b), .pointer (some ⟨adr [], 0, none⟩)] 118)).alloc (.cells #[.slice none 0 0, .slice none 0 0] 44)) := ((Ext.refl w).alloc _).alloc _
  have hbk := (Blk.new w 118 #[.map (some b), .pointer (some ⟨adr [], 0, none⟩)]).alloc (.cells #[.slice none 0 0, .slice none 0 0] 44)
  have hbr : Blk ((w.alloc (.cells #[.map (some b), .pointer (some ⟨adr [], 0, none⟩)] 118)).alloc (.cells #[.slice none 0 0, .slice none 0 0] 44)) (w.heap.size + 1) 44 #[.slice none 0 0, .slice none 0 0] := by
    have := Blk.new (w.alloc (.cells #[.map (some b), .pointer (some ⟨adr [], 0, none⟩)] 118)) 44 #[.slice none 0 0, .slice none 0 0]
    simpa using this
  have d0 := fun W (e : Ext _ W) => hbk.at_ (i := 0) (u := .map (some b)) rfl W e
  have d1 := fun W (e : Ext _ W) => hbk.at_ (i := 1) (u := .pointer (some ⟨adr [], 0, none⟩)) rfl W e
  have Cs := fun W (e : Ext w W) => storeListU_c W hs (hSt.ext e)
  have Ct := fun W (e : Ext w W) => listU_c (hTr.ext e) hg h12
  have Hbr := Lib.hid hbr
  clear hbk hbr hs hg h12 hSt hTr
  go_enter Tryz.func91, Tryz.ntmps91
  go_wp2
  refine wp_region_hold (fun W => W.cell? ⟨w.heap.size, 0, none⟩ = some (.map (some b)) ∧ W.cell? ⟨w.heap.size, 1, none⟩ = some (.pointer (some ⟨adr [], 0, none⟩))) 5 [(0, true), (1, true), (3, true), (4, true), (2, false)] (by kernel_rfl) (by kernel_rfl) ?_ ?_
  · exact ⟨d0 _ (Ext.refl _).drew, d1 _ (Ext.refl _).drew⟩
  (repeat (first | (apply hw_read (by rfl) (by rfl); (· (intro W hW; (try dsimp only at hW); go_simp; (first | done | rfl | (rw [if_pos] <;> first | omega | rfl)))); (try simp only [Act.put, List.setIfInBounds_toArray, List.set_cons_zero, List.set_cons_succ])) | (refine hw_skip (by rfl) (by rfl) ?_; (try simp only [Act.put, List.setIfInBounds_toArray, List.set_cons_zero, List.set_cons_succ]))))
  refine hw_step (by rfl) ?_
  go_wp2_with (go_at_call 143; refine (Cs _ (e0.trans (Ext.refl _).drew)).mono ?_; rintro e w2 ⟨u1, rfl, ⟨lh, hlh, hU, hSp, -⟩, he2⟩; obtain ⟨A1, c1, rfl, -⟩ := id hU)
  have e2 := (Ext.refl ((w.alloc (.cells #[.map (some b), .pointer (some ⟨adr [], 0, none⟩)] 118)).alloc (.cells #[.slice none 0 0, .slice none 0 0] 44))).drew.trans he2
  have E2 := e0.trans e2
  refine ⟨⟨d0 _ e2, d1 _ e2⟩, ?_⟩
  have Hlh := Lib.hid hlh; have HU := Lib.hid hU; have HSp := Lib.hid hSp
  clear hlh hU hSp
  (repeat (first | (apply hw_read (by rfl) (by rfl); (· (intro W hW; (try dsimp only at hW); go_simp; (first | done | rfl | (rw [if_pos] <;> first | omega | rfl)))); (try simp only [Act.put, List.setIfInBounds_toArray, List.set_cons_zero, List.set_cons_succ])) | (refine hw_skip (by rfl) (by rfl) ?_; (try simp only [Act.put, List.setIfInBounds_toArray, List.set_cons_zero, List.set_cons_succ]))))
  (refine hw_nil ?_; (try simp only [List.drop_succ_cons, List.drop_zero]))
  have Ct2 := Ct _ E2
  go_wp2_with (go_at_call 120; refine Ct2.mono ?_; rintro e w3 ⟨u2, rfl, ⟨li, hli, hI, hSi, -⟩, he3⟩; obtain ⟨A2, c2, rfl, -⟩ := id hI; have b3 := Hbr.out.ext (e2.trans he3); have k0 := b3.cell 0; have k1 := b3.cell 1; have f0 := b3.frozen 0; have f1 := b3.frozen 1; simp at k0 k1; have Hli := Lib.hid hli; have HI := Lib.hid hI; have HSi := Lib.hid hSi; clear hli hI hSi)
  refine NoPanic.normal ?_
  (try dsimp only [Exit.then])
  go_wp2
  obtain ⟨p1, p2, p3, -⟩ := put_two (a := .slice A1 lh.length c1) (b := .slice A2 li.length c2) b3
  have z0 := p1.cell 0; have z1 := p1.cell 1
  simp at z0 z1
  have hB2 : w.heap.size ≤ w2.heap.size := E2.size
  refine bodyPost_ret (v := .agg #[.slice A1 lh.length c1, .slice A2 li.length c2]) (by simp [results, Tryz.results91, go_sem, z0, z1]) rfl ⟨_, rfl, ?_, p3 w (E2.trans he3) (by omega)⟩
  refine ⟨_, _, lh, li, w2.heap.size, rfl, Hlh.out, ?_, HSp.out, fun b hb => (HU.out.foot hb).2, Hli.out, HI.out.keepT p2 (by decide) (by decide), HSi.out, hB2⟩
  exact HdsU.keepT ((HU.out.keep (e0.trans (Ext.refl _).drew).size (fun _ _ _ => rfl)).ext he3) p2 (by decide) (by decide)
end Go.Sf

/-! The program's VolumeDrop. -/
namespace Go.Sf
open Go Go.RowKit Go.Proofs
/-- a volume of the call's own, to be marked, and whether there is one -/
def OutVol (B : Nat) (o : Option (List Hd × List It)) (r : Value) (w : World) : Prop := ∃ vv, r = .tuple #[vv, .bool o.isSome] ∧ VolU B w vv (o.elim [] (·.1)) (o.elim [] (·.2))
theorem VolU.nil (B : Nat) (w : World) : VolU B w (.agg #[.slice none 0 0, .slice none 0 0]) [] [] :=
  ⟨_, _, [], [], B, rfl, rfl, SlOf.nil _ _ _ _ _, List.Pairwise.nil, (fun b h => by
    rcases h with ⟨h, -⟩ | ⟨q, hq, -⟩
    · cases h
    · cases hq), rfl, SlOf.nil _ _ _ _ _, List.Pairwise.nil, Nat.le_refl _⟩
theorem OutVol.none_ {B : Nat} {w : World} {o : Option (List Hd × List It)} (h : o = none) : OutVol B o (.tuple #[.agg #[.slice none 0 0, .slice none 0 0], .bool false]) w := by
  subst h; exact ⟨_, rfl, VolU.nil _ _⟩
theorem VolU.low {B B' : Nat} {w : World} {r : Value} {s : List Hd} {t : List It} (h : VolU B w r s t) (hB : B' ≤ B) : VolU B' w r s t :=
  let ⟨u1, u2, lh, li, m, a1, a2, a3, a4, a5, a6, a7, a8, a9⟩ := h; ⟨u1, u2, lh, li, m, a1, a2, a3.keep hB (fun _ _ _ => rfl), a4, a5, a6, a7, a8, Nat.le_trans hB a9⟩
theorem VolU.keepT {B : Nat} {w w' : World} {r : Value} {s : List Hd} {t : List It} {ty : TypeId} (h : VolU B w r s t) (hk : KeepsT ty w w') (h1 : 70 ≠ ty) (h2 : 51 ≠ ty) (h3 : 3 ≠ ty) : VolU B w' r s t :=
  let ⟨u1, u2, lh, li, m, a1, a2, a3, a4, a5, a6, a7, a8, a9⟩ := h; ⟨u1, u2, lh, li, m, a1, a2, a3.keepT hk h1 h3, a4, a5, a6, a7.keepT hk h2 h3, a8, a9⟩
set_option maxRecDepth 4000 in
set_option maxHeartbeats 2000000 in
theorem VolumeDrop_c {B B' : Nat} {vs vt : Value} {s : List Hd} {t : List It} {p : ByteArray} (w : World) (hs : Hds B w vs s) (ht : Its B' w vt t) (hp : p.size < lim) (hm : ML w) :
    Calls Tryz.prog 39 #[.agg #[vs, vt], .string p] w (RetP (OutVol w.heap.size (volDrop s t p)) w) := by
  have HS := Lib.hid hs; have HT := Lib.hid ht; have HM := Lib.hid hm
  obtain ⟨A, c, rfl, -⟩ := hs
  obtain ⟨A2, c2, rfl, -⟩ := ht
  have e0 : Ext w ((w.alloc (.cells #[.slice A s.length c, .slice A2 t.length c2] 44)).alloc (.cells #[.slice none 0 0, .slice none 0 0] 44)) := ((Ext.refl w).alloc _).alloc _
  have hbr : Blk ((w.alloc (.cells #[.slice A s.length c, .slice A2 t.length c2] 44)).alloc (.cells #[.slice none 0 0, .slice none 0 0] 44)) (w.heap.size + 1) 44 #[.slice none 0 0, .slice none 0 0] := by
    have := Blk.new (w.alloc (.cells #[.slice A s.length c, .slice A2 t.length c2] 44)) 44 #[.slice none 0 0, .slice none 0 0]
    simpa using this
  have Hbr := Lib.hid hbr
  have Cn := openVol_c _ (HS.out.ext e0) (HT.out.ext e0) (HM.out.ext e0)
  clear hm hbr
  go_enter Tryz.func39, Tryz.ntmps39
  go_wp2_with fail
  refine Cn.mono ?_
  rintro e w1 ⟨he1, ⟨hv, rfl⟩ | ⟨hv, b, adr, kv, rfl, hSt, hTr, hbB⟩⟩
  · have b3 := (Hbr.out.ext he1).alloc (.cells #[.map none, .pointer none] 118)
    have c0 := b3.cell 0; have c1 := b3.cell 1; have f0 := b3.frozen 0; have f1 := b3.frozen 1
    simp at c0 c1 f0 f1
    have Hr : Hid (volDrop s t p = none) := Lib.hid (by unfold volDrop; rw [hv]; rfl)
    have Hb3 := Lib.hid b3
    clear hv b3 Cn
    go_wp2
    obtain ⟨p1, -, p3, -⟩ := put_two (a := .slice none 0 0) (b := .slice none 0 0) Hb3.out
    have z0 := p1.cell 0; have z1 := p1.cell 1
    simp at z0 z1
    exact bodyPost_ret (v := .tuple #[.agg #[.slice none 0 0, .slice none 0 0], .bool false]) (by simp [results, Tryz.results39, go_sem, z0, z1]) rfl ⟨_, rfl, OutVol.none_ Hr.out, p3 w ((e0.trans he1).alloc _) (by omega)⟩
  · have E1 := e0.trans he1
    have e4 : Ext w1 (w1.alloc (.cells #[.map (some b), .pointer (some ⟨adr [], 0, none⟩)] 118)) := (Ext.refl w1).alloc _
    have bo := Blk.new w1 118 #[.map (some b), .pointer (some ⟨adr [], 0, none⟩)]
    have q0 := bo.cell 0; have q1 := bo.cell 1
    simp at q0 q1
    have Cr := remove_c (w := w1.alloc (.cells #[.map (some b), .pointer (some ⟨adr [], 0, none⟩)] 118)) hv (hSt.ext e4) (hTr.ext e4) hbB (he1.trans e4) hp (HM.out.ext (E1.trans e4))
    have Hbo := Lib.hid bo
    clear Cn hSt hTr bo
    go_wp2_with fail
    refine Cr.mono ?_
    rintro e w2 ⟨rfl, he2, hKN, hsome⟩
    have E2 := e0.trans he2
    have b3 := Hbr.out.ext he2
    have c0 := b3.cell 0; have c1 := b3.cell 1; have f0 := b3.frozen 0; have f1 := b3.frozen 1
    simp at c0 c1 f0 f1
    have bo2 := hKN _ _ _ (by decide) (by decide) Hbo.out
    have r0 := bo2.cell 0; have r1 := bo2.cell 1
    simp at r0 r1
    have Hb3 := Lib.hid b3
    clear b3 bo2 hKN Cr q0 q1
    cases hd : treeDrop t p with
    | none =>
      have Hr : Hid (volDrop s t p = none) := Lib.hid (by unfold volDrop; rw [hv, hd]; rfl)
      clear hd hsome hv
      simp only [Option.isSome_none] at *
      go_wp2
      obtain ⟨p1, -, p3, -⟩ := put_two (a := .slice none 0 0) (b := .slice none 0 0) Hb3.out
      have z0 := p1.cell 0; have z1 := p1.cell 1
      simp at z0 z1
      exact bodyPost_ret (v := .tuple #[.agg #[.slice none 0 0, .slice none 0 0], .bool false]) (by simp [results, Tryz.results39, go_sem, z0, z1]) rfl ⟨_, rfl, OutVol.none_ Hr.out, p3 w E2 (by omega)⟩
    | some t' =>
      obtain ⟨ht', s', kv', hs', hso', hSt', hTr'⟩ := hsome t' hd
      have Hr : Hid (volDrop s t p = some (s', t')) := Lib.hid (by unfold volDrop; rw [hv, hd, hs']; rfl)
      have Cv := volume_c w2 hso' ht' hSt' hTr'
      clear hsome hv hd hs' hso' ht' hSt' hTr'
      simp only [Option.isSome_some]
      go_wp2_with (go_at_call 91; refine Cv.mono ?_; rintro e w4 ⟨vv, rfl, hV, he4⟩; obtain ⟨u1, u2, lh, li, mm, rfl, -, hh1, -, -, -, hh2, -, -⟩ := id hV; obtain ⟨A1, c1, rfl, -⟩ := hh1; obtain ⟨A3, c3, rfl, -⟩ := hh2; have b4 := Hb3.out.ext he4; have k0 := b4.cell 0; have k1 := b4.cell 1; have g0 := b4.frozen 0; have g1 := b4.frozen 1; simp at k0 k1 g0 g1; have HV := Lib.hid hV; clear hV)
      obtain ⟨p1, p2, p3, -⟩ := put_two (a := .slice A1 lh.length c1) (b := .slice A3 li.length c3) b4
      have z0 := p1.cell 0; have z1 := p1.cell 1
      simp at z0 z1
      refine bodyPost_ret (v := .tuple #[.agg #[.slice A1 lh.length c1, .slice A3 li.length c3], .bool true]) (by simp [results, Tryz.results39, go_sem, z0, z1]) rfl ⟨_, rfl, ?_, p3 w (E2.trans he4) (by omega)⟩
      rw [Hr.out]
      exact ⟨_, rfl, (HV.out.low E2.size).keepT p2 (by decide) (by decide) (by decide)⟩
end Go.Sf
