/- slices.Delete of one node. -/
import Derived.Test.YtdnnojghjnjnfaaGreatDoorGE
import Derived.Lib.OwnBridge
import Derived.Test.YtdnnojghjnjnfaaGreatDoorGT
import Derived.Test.YtdnnojghjnjnfaaGreatDoorGF
import Derived.Test.YtdnnojghjnjnfaaGreatDoorT28
import Derived.Test.YtdnnojghjnjnfaaGreatDoorGQ
import Derived.Test.YtdnnojghjnjnfaaGreatDoorT88
/-! slices.Delete of one node. -/
namespace Go.Sf
open Go Go.RowKit Go.Proofs
def encP : Option Nat → Value
  | some b => .pointer (some ⟨b, 0, none⟩)
  | none => .pointer none
theorem encP_one : ∀ x, (encP x).oneCell' = true := fun x => by cases x <;> rfl
theorem ptr_xs {w : World} {xs : List Value} {bs : List Nat} (hl : xs.length = bs.length * 1) (h : ∀ k x, bs[k]? = some x → EPtr w xs.toArray (k * 1) x) : xs = (bs.map some).map encP := by
  apply List.ext_getElem?
  intro j
  rw [List.map_map, List.getElem?_map]
  cases hb : bs[j]? with
  | none =>
    have : bs.length ≤ j := List.getElem?_eq_none_iff.1 hb
    rw [List.getElem?_eq_none (by omega)]; rfl
  | some b =>
    have := h j b hb
    unfold EPtr at this
    rw [Nat.mul_one, List.getElem?_toArray] at this
    rw [this]; rfl
theorem ptr_own {B n : Nat} {w : World} {v : Value} {bs : List Nat} (hn : bs.length = n) (h : w.ownsRow B 84 1 v n ((bs.map some).map encP)) : OwnS B 84 1 EPtr w v bs := by
  subst hn
  refine ⟨_, h, fun k x hk => ?_⟩
  unfold EPtr
  rw [Nat.mul_one, List.getElem?_toArray, List.map_map, List.getElem?_map, hk]
  rfl
/-- the row is as long as it was, or shorter: in place -/
def CutV (B g c : Nat) (w : World) (bs : List Nat) (e : Ending) (w' : World) : Prop :=
  e = .returned (.slice (some ⟨g, 0, none⟩) bs.length c) ∧ OwnS B 84 1 EPtr w' (.slice (some ⟨g, 0, none⟩) bs.length c) bs ∧ w.grownBy w' (some g)
theorem grownBy_putRow {α : Type} [Inhabited α] {enc : α → Value} {w : World} {g n : Nat} (d : Array α) : w.grownBy (Sort.putRow enc (Sort.ahead w n) g 0 d) (some g) := by
  refine ⟨rfl, rfl, rfl, by simp [Sort.ahead], fun k hk hne => ?_⟩
  have : g ≠ k := fun e => hne (by rw [e])
  simp [Sort.putRow, Sort.mapBlock, Sort.ahead, Array.getElem?_modify, this]
end Go.Sf

/-! A tree of nodes gets one node less. -/
namespace Go.Sf
open Go Go.RowKit
theorem TreeAt.cut {B : Nat} {w4 w7 : World} {l : List It} {adr : Key → Nat} {kv : Key → Value} {i : Nat} {x : It} {v' : Value} (h : TreeAt B w4 l adr kv) (hs : Srt l) (hx : l[i]? = some x)
    (hk : isKey l (key x).dropLast)
    (hO : OwnS B 84 1 EPtr w7 v' ((kidsOf (l.eraseIdx i) (key x).dropLast).map fun y => adr (key y)))
    (hgr : w4.grownBy w7 (kv (key x).dropLast).ownBlock) (hvb : v'.ownBlock = (kv (key x).dropLast).ownBlock) :
    ∃ kv', TreeAt B (w7.setCell ⟨adr (key x).dropLast, 3, none⟩ v') (l.eraseIdx i) adr kv' ∧ B ≤ adr (key x).dropLast := by
  classical
  have hfar := fun k (e : (key x).dropLast ≠ k) => kids_cut_far hx e
  generalize (key x).dropLast = k at *
  have hown : ∀ q, isKey l q → OwnS B 84 1 EPtr w4 (kv q) ((kidsOf l q).map fun y => adr (key y)) := fun q hq => by
    obtain ⟨_, _, ⟨-, ho, -⟩, -⟩ := h.node hq; exact ho
  have hnk : ∀ g, (kv k).ownBlock = some g → ∀ b cs, Blk w4 b 99 cs → b ≠ g := fun g hg b cs hb => by
    obtain ⟨-, cs', hb'⟩ := (hown k hk).block hg
    exact Blk.ne_ hb hb' (by decide)
  have keepN : ∀ b cs, Blk w4 b 99 cs → Blk w7 b 99 cs := fun b cs hb =>
    (hgr.block b hb.lt (fun e => hnk b e.symm b cs hb rfl)).trans hb
  have keepI : ∀ u ids, Ints B w4 u ids → Ints B (w7.setCell ⟨adr k, 3, none⟩ v') u ids := fun u ids hi => by
    obtain ⟨_, _, ⟨-, -, _, hbk, -⟩, -⟩ := h.node hk
    obtain ⟨A, c, hv, a1, a2, a3, a4⟩ := hi
    refine ⟨A, c, hv, a1, a2, a3, fun j y hy => ?_⟩
    obtain ⟨b, o, cs, e1, e2, e3, e4⟩ := a4 j y hy
    refine ⟨b, o, cs, e1, e2, ?_, e4⟩
    have h7 : Blk w7 b 3 cs := (hgr.block b e3.lt (fun e => by
      obtain ⟨-, cs', hb'⟩ := (hown k hk).block e.symm
      exact Blk.ne_ e3 hb' (by decide) rfl)).trans e3
    exact h7.far (p := ⟨adr k, 3, none⟩) (Blk.ne_ e3 hbk (by decide)) v'
  have hak7 : ∃ cs, Blk w7 (adr k) 99 cs := by
    obtain ⟨_, _, ⟨-, -, _, hbk, -⟩, -⟩ := h.node hk
    exact ⟨_, keepN _ _ hbk⟩
  obtain ⟨csk, hak⟩ := hak7
  refine ⟨fun q => if q = k then v' else kv q, ?_, ?_⟩
  rotate_left
  · obtain ⟨_, _, ⟨hb, -⟩, -⟩ := h.node hk; exact hb
  have old : ∀ q dir ids, isKey l q → Node B w4 l adr kv q dir ids →
      Node B (w7.setCell ⟨adr k, 3, none⟩ v') (l.eraseIdx i) adr (fun q => if q = k then v' else kv q) q dir ids := fun q dir ids hq hn => by
    obtain ⟨a1, -, uq, a3, a4⟩ := hn
    have b3 := keepN _ _ a3
    have b4 := keepI _ _ a4
    unfold Node
    dsimp only
    refine ⟨a1, ?_, ?_⟩
    · by_cases hqk : q = k
      · subst hqk
        rw [if_pos rfl]
        refine hO.frame (fun g hg => ?_) (fun _ _ _ e => e)
        refine Below.heap_setCell w7 ⟨adr q, 3, none⟩ v' g ?_
        obtain ⟨-, cs', hb'⟩ := hO.block hg
        exact Blk.ne_ hb' hak (by decide)
      · rw [if_neg hqk, hfar q (fun e => hqk e.symm)]
        refine (hown q hq).frame (fun g hg => ?_) (fun _ _ _ e => e)
        obtain ⟨-, cs', hb'⟩ := (hown q hq).block hg
        have e1 : w7.heap[g]? = w4.heap[g]? := hgr.block g hb'.lt (fun e => hqk (h.sep q k g hq hk hg e.symm))
        rw [← e1]
        refine Below.heap_setCell w7 ⟨adr k, 3, none⟩ v' g ?_
        exact Blk.ne_ (e1.trans hb' : Blk w7 g 84 cs') hak (by decide)
    · by_cases hqk : q = k
      · subst hqk
        rw [if_pos rfl]
        exact ⟨uq, by simpa using b3.set_ 3 v', b4⟩
      · rw [if_neg hqk]
        exact ⟨uq, b3.far (p := ⟨adr k, 3, none⟩) (fun e => hqk (h.inj q k hq hk e)) v', b4⟩
  have hblk : ∀ q g, (if q = k then v' else kv q).ownBlock = some g → (kv q).ownBlock = some g := fun q g e => by
    split at e
    · next hq => subst hq; rw [← hvb]; exact e
    · exact e
  refine ⟨old [] true [] (.inl rfl) h.root, fun y hy => ?_, fun q q' hq hq' e => ?_, fun q q' g hq hq' e1 e2 => ?_⟩
  · have hyl := ((mem_erase hs hx).1 hy).1
    exact old _ _ _ (.inr ⟨y, hyl, rfl⟩) (h.nodes y hyl)
  · exact h.inj _ _ (erase_key hs hx hq).1 (erase_key hs hx hq').1 e
  · exact h.sep _ _ _ (erase_key hs hx hq).1 (erase_key hs hx hq').1 (hblk _ _ e1) (hblk _ _ e2)
end Go.Sf

/-! The program drops a node. -/
namespace Go.Sf
open Go Go.RowKit Go.Proofs
/-- what is no row of cells stays -/
def KeepsO (w w' : World) : Prop := ∀ b, b < w.heap.size → (∀ t cs, ¬ Blk w b t cs) → w'.heap[b]? = w.heap[b]?
def DropV (w0 w : World) (l : List It) (i : Nat) (x : It) (adr : Key → Nat) (e : Ending) (w' : World) : Prop :=
  (kidsOf l (key x) ≠ [] ∧ e = .returned (.bool false) ∧ Ext w w') ∨
  (kidsOf l (key x) = [] ∧ e = .returned (.bool true) ∧ Ext w0 w' ∧ KeepsN w w' ∧ KeepsO w w' ∧ (∀ cs, Blk w (adr (key x)) 99 cs → Blk w' (adr (key x)) 99 cs) ∧ ∃ kv', TreeAt w0.heap.size w' (l.eraseIdx i) adr kv')
theorem map_eraseIdx' {α β : Type} (f : α → β) (l : List α) (j : Nat) : (l.eraseIdx j).map f = (l.map f).eraseIdx j := by
  apply List.ext_getElem?
  intro t
  simp only [List.getElem?_eraseIdx, List.getElem?_map]
  split <;> rfl
section
variable {w0 w : World} {l : List It} {adr : Key → Nat} {kv : Key → Value}
end
end Go.Sf

/-! The program frees a file. -/
namespace Go.Sf
open Go Go.RowKit Go.Proofs Go.Maps
theorem dropId_of {l : List Hd} (h : StoreOk l) {k : Nat} {y : Hd} (hy : l[k]? = some y) : dropId l y.id = some (dropAt l k) := by
  have hat : hAt l y.id = (k : Int) := by
    rcases atG_find (idIs y.id) l 0 with ⟨h1, -⟩ | ⟨i, x, h1, h2, -, h4, -⟩
    · exact absurd (List.find?_eq_none.1 h1 y (List.mem_of_getElem? hy)) (by simp [idIs, eqb_true])
    · have he : x.id = y.id := by simpa [idIs, eqb_iff] using h2
      have := h.inj h1 hy he
      subst this
      rw [hAt, h4]; simp
  unfold dropId
  rw [if_pos ⟨storeOk_iff.2 h, by rw [hat]; omega⟩, hat]
  simp
/-- each block is used as often as it is named -/
def HasUses (l : List Hd) (r : List Int) : Prop := ∀ i, i ∈ r → ∃ h, findH l i = some h ∧ (cntI i r : Int) ≤ h.uses
theorem cntI_cons (i j : Int) (r : List Int) : cntI i (j :: r) = cntI i r + if j = i then 1 else 0 := by
  unfold cntI
  by_cases e : j = i
  · subst e
    rw [List.filter_cons_of_pos (by exact eqb_true.2 rfl), if_pos rfl]; rfl
  · rw [List.filter_cons_of_neg (by simp [eqb_false.2 e]), if_neg e]; rfl
theorem cntI_pos {i : Int} {r : List Int} (h : i ∈ r) : 1 ≤ cntI i r := by
  unfold cntI
  exact List.length_pos_of_mem (List.mem_filter.2 ⟨h, eqb_true.2 rfl⟩)
theorem uses_step {l : List Hd} (h : StoreOk l) {i : Int} {r : List Int} (hu : HasUses l (i :: r)) : ∃ k y, l[k]? = some y ∧ y.id = i ∧ HasUses (dropAt l k) r := by
  obtain ⟨y, hy, hc⟩ := hu i (by simp)
  obtain ⟨h1, h2⟩ := findH_some hy
  obtain ⟨k, hk⟩ := List.mem_iff_getElem?.1 h1
  refine ⟨k, y, hk, h2, fun j hj => ?_⟩
  rw [find_dropAt h hk, h2]
  rw [cntI_cons, if_pos rfl] at hc
  by_cases e : j = i
  · subst e
    have := cntI_pos hj
    rw [if_pos rfl, if_neg (by omega)]
    exact ⟨_, rfl, by show _ ≤ y.uses - 1; omega⟩
  · rw [if_neg e]
    obtain ⟨z, hz, hc2⟩ := hu j (by simp [hj])
    rw [cntI_cons, if_neg (fun e' => e e'.symm)] at hc2
    exact ⟨z, hz, hc2⟩
theorem cntI_le_T {i : Int} {t : List It} {x : It} (h : x ∈ t) : cntI i x.ids ≤ cntT i t := by
  unfold cntT
  induction t with
  | nil => cases h
  | cons y r ih =>
    rw [List.map_cons, List.sum_cons]
    rcases List.mem_cons.1 h with rfl | h
    · omega
    · have := ih h; omega
theorem vol_uses {s : List Hd} {t : List It} (h : volOk s t = true) {x : It} (hx : x ∈ t) : HasUses s x.ids ∧ idsFit s x.ids = true ∧ StoreOk s ∧ treeOk t = true := by
  unfold volOk at h
  simp only [Bool.and_eq_true] at h
  obtain ⟨h1, h2, h3, h4⟩ := h
  have hf : idsFit s x.ids = true := by unfold filesFit at h3; exact List.all_eq_true.1 h3 x hx
  refine ⟨fun i hi => ?_, hf, storeOk_iff.1 h1, h2⟩
  obtain ⟨k, hk⟩ := List.mem_iff_getElem?.1 hi
  obtain ⟨y, hy, -⟩ := (idsFit_iff.1 hf).2 k i hk
  obtain ⟨g1, g2⟩ := findH_some hy
  have := List.all_eq_true.1 h4 y g1
  rw [eqb_iff] at this
  have h5 := cntI_le_T (i := i) hx
  rw [g2] at this
  exact ⟨y, hy, by omega⟩
/-- all that is made of cells stays -/
def KeepsC (w w' : World) : Prop := ∀ g t cs, Blk w g t cs → Blk w' g t cs
theorem KeepsC.t {w w' : World} (h : KeepsC w w') (t : TypeId) : KeepsT t w w' := fun g t' cs _ hb => h g t' cs hb
theorem Ext.keepsC {w w' : World} (h : Ext w w') : KeepsC w w' := fun _ _ _ hb => hb.ext h
theorem KeepsC.trans {w w' w'' : World} (h : KeepsC w w') (k : KeepsC w' w'') : KeepsC w w'' := fun g t cs hb => k g t cs (h g t cs hb)
theorem map_keepsC {b n : Nat} {M : Lit → Option Value} {w w' : World} {P : Program} {k : TypeId} (h : MapV P k b n M w) (hg : w.grownBy w' (some b)) : KeepsC w w' := fun g t cs hb => by
  by_cases e : t = 9
  · exact map_keepsT h hg 3 g t cs (by rw [e]; decide) hb
  · exact map_keepsT h hg 9 g t cs e hb
def DropMP (w0 w : World) (B b n : Nat) (s : List Hd) (e : Ending) (w' : World) : Prop :=
  e = .returned (.bool true) ∧ Ext w0 w' ∧ KeepsC w w' ∧ StoreAt B b n s w'
def FreeP (w0 w : World) (B b n : Nat) (o : Option (List Hd)) (e : Ending) (w' : World) : Prop :=
  e = .returned (.bool true) ∧ Ext w0 w' ∧ KeepsC w w' ∧ ∃ s', o = some s' ∧ StoreOk s' ∧ StoreAt B b n s' w'
end Go.Sf

/-! The program removes an item of an open volume. -/
namespace Go.Sf
open Go Go.RowKit Go.Proofs Go.Maps
theorem Ints.keepN {B : Nat} {w w' : World} {u : Value} {ids : List Int} (h : Ints B w u ids) (hk : KeepsN w w') : Ints B w' u ids := by
  obtain ⟨A, c, hv, a1, a2, a3, a4⟩ := h
  refine ⟨A, c, hv, a1, a2, a3, fun j y hy => ?_⟩
  obtain ⟨b, o, cs, e1, e2, e3, e4⟩ := a4 j y hy
  exact ⟨b, o, cs, e1, e2, hk b _ cs (by decide) (by decide) e3, e4⟩
theorem KeepsC.n {w w' : World} (h : KeepsC w w') : KeepsN w w' := fun b t cs _ _ hb => h b t cs hb
theorem KeepsN.trans {w w' w'' : World} (h : KeepsN w w') (k : KeepsN w' w'') : KeepsN w w'' := fun b t cs h1 h2 hb => k b t cs h1 h2 (h b t cs h1 h2 hb)
theorem StoreAt.keepN {B b n : Nat} {w w' : World} {l : List Hd} (h : StoreAt B b n l w) (hk : KeepsN w w') (ho : KeepsO w w') : StoreAt B b n l w' := by
  have hno : ∀ t cs, ¬ Blk w b t cs := fun t cs hb => store_ne h hb rfl
  obtain ⟨M, h1, h2⟩ := h
  have hlt : b < w.heap.size := by
    obtain ⟨D, ⟨es, cl, hb, -⟩, -⟩ := h1
    rcases Nat.lt_or_ge b w.heap.size with hlt | hge
    · exact hlt
    · rw [Array.getElem?_eq_none hge] at hb; cases hb
  exact ⟨M, h1.block (ho b hlt hno), fun i => ⟨(h2 i).1, fun y hy => let ⟨u, r1, r2⟩ := (h2 i).2 y hy; ⟨u, r1, r2.keepN hk⟩⟩⟩
theorem treeDrop_ok {t : List It} (ht : treeOk t = true) {p : ByteArray} {i : Nat} {x : It} (hx : t[i]? = some x) (hp : x.path = p) : treeDrop t p = if treeOk (t.eraseIdx i) = true then some (t.eraseIdx i) else none := by
  have hat : atPath t p = (i : Int) := by
    rcases atG_find (pathIs p) t 0 with ⟨h1, -⟩ | ⟨j, y, h1, h2, -, h4, -⟩
    · exact absurd (List.find?_eq_none.1 h1 x (List.mem_of_getElem? hx)) (by simp [pathIs, hp, eqb_true])
    · have he : y.path = x.path := by rw [hp]; simpa [pathIs, eqb_iff] using h2
      have hg := (treeOk_iff'.1 ht).2
      have hij : j = i := by
        rcases Nat.lt_trichotomy j i with hij | hij | hij
        · have := hg.lt h1 hx hij; rw [he, lt8_irrefl] at this; cases this
        · exact hij
        · have := hg.lt hx h1 hij; rw [he, lt8_irrefl] at this; cases this
      subst hij
      rw [atPath, h4]; simp
  unfold treeDrop
  rw [hat]
  simp [ht]
theorem treeDrop_none {t : List It} {p : ByteArray} (h : findIt t p = none) : treeDrop t p = none := by
  unfold treeDrop
  rw [if_neg]
  rintro ⟨-, h2, -⟩
  rcases atG_find (pathIs p) t 0 with ⟨-, h1⟩ | ⟨j, y, -, -, h3, -, -⟩
  · rw [atPath, h1] at h2; omega
  · unfold findIt at h; rw [h] at h3; cases h3
/-- what removing leaves -/
def RemoveV (w0 w : World) (b : Nat) (s : List Hd) (t : List It) (p : ByteArray) (adr : Key → Nat) (e : Ending) (w' : World) : Prop :=
  e = .returned (.bool (treeDrop t p).isSome) ∧ Ext w0 w' ∧ KeepsN w w' ∧ ∀ t', treeDrop t p = some t' → treeOk t' = true ∧ ∃ s' kv', freeAll s (idsAt t p) = some s' ∧ StoreOk s' ∧ StoreAt w0.heap.size b 20 s' w' ∧ TreeAt w0.heap.size w' t' adr kv'
section
variable {w0 w : World} {s : List Hd} {t : List It} {adr : Key → Nat} {kv : Key → Value}
end
end Go.Sf

/-! The program hands a volume out; VolumeDrop. -/
namespace Go.Sf
open Go Go.RowKit Go.Proofs
set_option maxRecDepth 4000 in
set_option maxHeartbeats 2000000 in
theorem volume_c {B b n : Nat} {s : List Hd} {t : List It} {adr : Key → Nat} {kv : Key → Value} (w : World) (hs : StoreOk s) (ht : treeOk t = true) (hSt : StoreAt B b n s w) (hTr : TreeAt B w t adr kv) :
    Calls Tryz.prog 53 #[.agg #[.map (some b), .pointer (some ⟨adr [], 0, none⟩)]] w (RetP (fun r w' => VolU w.heap.size w' r s t) w) := by
  have hg := (treeOk_iff'.1 ht).2
  have h12 := (treeOk_iff'.1 ht).1
  have e0 : Ext w ((w.alloc (.cells #[.map (some b), .pointer (some ⟨adr [], 0, none⟩)] 86)).alloc (.cells #[.slice none 0 0, .slice none 0 0] 26)) := ((Ext.refl w).alloc _).alloc _
  have hbk := (Blk.new w 86 #[.map (some b), .pointer (some ⟨adr [], 0, none⟩)]).alloc (.cells #[.slice none 0 0, .slice none 0 0] 26)
  have hbr : Blk ((w.alloc (.cells #[.map (some b), .pointer (some ⟨adr [], 0, none⟩)] 86)).alloc (.cells #[.slice none 0 0, .slice none 0 0] 26)) (w.heap.size + 1) 26 #[.slice none 0 0, .slice none 0 0] := by
    have := Blk.new (w.alloc (.cells #[.map (some b), .pointer (some ⟨adr [], 0, none⟩)] 86)) 26 #[.slice none 0 0, .slice none 0 0]
    simpa using this
  have d0 := fun W (e : Ext _ W) => hbk.at_ (i := 0) (u := .map (some b)) rfl W e
  have d1 := fun W (e : Ext _ W) => hbk.at_ (i := 1) (u := .pointer (some ⟨adr [], 0, none⟩)) rfl W e
  have Cs := fun W (e : Ext w W) => storeListU_c W hs (hSt.ext e)
  have Ct := fun W (e : Ext w W) => listU_c (hTr.ext e) hg h12
  have Hbr := Lib.hid hbr
  clear hbk hbr hs hg h12 hSt hTr
  go_enter Tryz.func53, Tryz.ntmps53
  go_wp2
  refine wp_region_hold (fun W => W.cell? ⟨w.heap.size, 0, none⟩ = some (.map (some b)) ∧ W.cell? ⟨w.heap.size, 1, none⟩ = some (.pointer (some ⟨adr [], 0, none⟩))) 5 [(0, true), (1, true), (3, true), (4, true), (2, false)] (by kernel_rfl) (by kernel_rfl) ?_ ?_
  · exact ⟨d0 _ (Ext.refl _).drew, d1 _ (Ext.refl _).drew⟩
  (repeat (first | (apply hw_read (by rfl) (by rfl); (· (intro W hW; (try dsimp only at hW); go_simp; (first | done | rfl | (rw [if_pos] <;> first | omega | rfl)))); (try simp only [Act.put, List.setIfInBounds_toArray, List.set_cons_zero, List.set_cons_succ])) | (refine hw_skip (by rfl) (by rfl) ?_; (try simp only [Act.put, List.setIfInBounds_toArray, List.set_cons_zero, List.set_cons_succ]))))
  refine hw_step (by rfl) ?_
  go_wp2_with (go_at_call 97; refine (Cs _ (e0.trans (Ext.refl _).drew)).mono ?_; rintro e w2 ⟨u1, rfl, ⟨lh, hlh, hU, hSp, -⟩, he2⟩; obtain ⟨A1, c1, rfl, -⟩ := id hU)
  have e2 := (Ext.refl ((w.alloc (.cells #[.map (some b), .pointer (some ⟨adr [], 0, none⟩)] 86)).alloc (.cells #[.slice none 0 0, .slice none 0 0] 26))).drew.trans he2
  have E2 := e0.trans e2
  refine ⟨⟨d0 _ e2, d1 _ e2⟩, ?_⟩
  have Hlh := Lib.hid hlh; have HU := Lib.hid hU; have HSp := Lib.hid hSp
  clear hlh hU hSp
  (repeat (first | (apply hw_read (by rfl) (by rfl); (· (intro W hW; (try dsimp only at hW); go_simp; (first | done | rfl | (rw [if_pos] <;> first | omega | rfl)))); (try simp only [Act.put, List.setIfInBounds_toArray, List.set_cons_zero, List.set_cons_succ])) | (refine hw_skip (by rfl) (by rfl) ?_; (try simp only [Act.put, List.setIfInBounds_toArray, List.set_cons_zero, List.set_cons_succ]))))
  (refine hw_nil ?_; (try simp only [List.drop_succ_cons, List.drop_zero]))
  have Ct2 := Ct _ E2
  go_wp2_with (go_at_call 98; refine Ct2.mono ?_; rintro e w3 ⟨u2, rfl, ⟨li, hli, hI, hSi, -⟩, he3⟩; obtain ⟨A2, c2, rfl, -⟩ := id hI; have b3 := Hbr.out.ext (e2.trans he3); have k0 := b3.cell 0; have k1 := b3.cell 1; have f0 := b3.frozen 0; have f1 := b3.frozen 1; simp at k0 k1; have Hli := Lib.hid hli; have HI := Lib.hid hI; have HSi := Lib.hid hSi; clear hli hI hSi)
  refine NoPanic.normal ?_
  (try dsimp only [Exit.then])
  go_wp2
  obtain ⟨p1, p2, p3, -⟩ := put_two (a := .slice A1 lh.length c1) (b := .slice A2 li.length c2) b3
  have z0 := p1.cell 0; have z1 := p1.cell 1
  simp at z0 z1
  have hB2 : w.heap.size ≤ w2.heap.size := E2.size
  refine bodyPost_ret (v := .agg #[.slice A1 lh.length c1, .slice A2 li.length c2]) (by simp [results, Tryz.results53, go_sem, z0, z1]) rfl ⟨_, rfl, ?_, p3 w (E2.trans he3) (by omega)⟩
  refine ⟨_, _, lh, li, w2.heap.size, rfl, Hlh.out, ?_, HSp.out, fun b hb => (HU.out.foot hb).2, Hli.out, HI.out.keepT p2 (by decide) (by decide), HSi.out, hB2⟩
  exact HdsU.keepT ((HU.out.keep (e0.trans (Ext.refl _).drew).size (fun _ _ _ => rfl)).ext he3) p2 (by decide) (by decide)
end Go.Sf

/-! The program's VolumeDrop. -/
namespace Go.Sf
open Go Go.RowKit Go.Proofs
/-- a volume of the call's own, to be marked, and whether there is one -/
def OutVol (B : Nat) (o : Option (List Hd × List It)) (r : Value) (w : World) : Prop := ∃ vv, r = .tuple #[vv, .bool o.isSome] ∧ VolU B w vv (o.elim [] (·.1)) (o.elim [] (·.2))
theorem VolU.nil (B : Nat) (w : World) : VolU B w (.agg #[.slice none 0 0, .slice none 0 0]) [] [] :=
  ⟨_, _, [], [], B, rfl, rfl, SlOf.nil _ _ _ _ _, List.Pairwise.nil, (fun b h => by
    rcases h with ⟨h, -⟩ | ⟨q, hq, -⟩
    · cases h
    · cases hq), rfl, SlOf.nil _ _ _ _ _, List.Pairwise.nil, Nat.le_refl _⟩
theorem OutVol.none_ {B : Nat} {w : World} {o : Option (List Hd × List It)} (h : o = none) : OutVol B o (.tuple #[.agg #[.slice none 0 0, .slice none 0 0], .bool false]) w := by
  subst h; exact ⟨_, rfl, VolU.nil _ _⟩
theorem VolU.low {B B' : Nat} {w : World} {r : Value} {s : List Hd} {t : List It} (h : VolU B w r s t) (hB : B' ≤ B) : VolU B' w r s t :=
  let ⟨u1, u2, lh, li, m, a1, a2, a3, a4, a5, a6, a7, a8, a9⟩ := h; ⟨u1, u2, lh, li, m, a1, a2, a3.keep hB (fun _ _ _ => rfl), a4, a5, a6, a7, a8, Nat.le_trans hB a9⟩
theorem VolU.keepT {B : Nat} {w w' : World} {r : Value} {s : List Hd} {t : List It} {ty : TypeId} (h : VolU B w r s t) (hk : KeepsT ty w w') (h1 : 45 ≠ ty) (h2 : 47 ≠ ty) (h3 : 3 ≠ ty) : VolU B w' r s t :=
  let ⟨u1, u2, lh, li, m, a1, a2, a3, a4, a5, a6, a7, a8, a9⟩ := h; ⟨u1, u2, lh, li, m, a1, a2, a3.keepT hk h1 h3, a4, a5, a6, a7.keepT hk h2 h3, a8, a9⟩
end Go.Sf
