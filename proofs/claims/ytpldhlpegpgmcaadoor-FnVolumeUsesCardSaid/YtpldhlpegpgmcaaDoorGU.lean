/- slices.Delete of one node. -/
import Derived.Test.YtpldhlpegpgmcaaDoorGE
import Derived.Lib.OwnBridge
import Derived.Test.YtpldhlpegpgmcaaDoorGT
import Derived.Test.YtpldhlpegpgmcaaDoorGF
import Derived.Test.YtpldhlpegpgmcaaDoorHG
import Derived.Test.YtpldhlpegpgmcaaDoorGQ
import Derived.Test.YtpldhlpegpgmcaaDoorHH
/-! slices.Delete of one node. -/
namespace Go.Sf
open Go Go.RowKit Go.Proofs
end Go.Sf

/-! A tree of nodes gets one node less. -/
namespace Go.Sf
open Go Go.RowKit
theorem TreeAt.cut {B : Nat} {w4 w7 : World} {l : List It} {adr : Key → Nat} {kv : Key → Value} {i : Nat} {x : It} {v' : Value} (h : TreeAt B w4 l adr kv) (hs : Srt l) (hx : l[i]? = some x)
    (hk : isKey l (key x).dropLast)
    (hO : OwnS B 41 1 EPtr w7 v' ((kidsOf (l.eraseIdx i) (key x).dropLast).map fun y => adr (key y)))
    (hgr : w4.grownBy w7 (kv (key x).dropLast).ownBlock) (hvb : v'.ownBlock = (kv (key x).dropLast).ownBlock) :
    ∃ kv', TreeAt B (w7.setCell ⟨adr (key x).dropLast, 3, none⟩ v') (l.eraseIdx i) adr kv' ∧ B ≤ adr (key x).dropLast := by
  classical
  have hfar := fun k (e : (key x).dropLast ≠ k) => kids_cut_far hx e
  generalize (key x).dropLast = k at *
  have hown : ∀ q, isKey l q → OwnS B 41 1 EPtr w4 (kv q) ((kidsOf l q).map fun y => adr (key y)) := fun q hq => by
    obtain ⟨_, _, ⟨-, ho, -⟩, -⟩ := h.node hq; exact ho
  have hnk : ∀ g, (kv k).ownBlock = some g → ∀ b cs, Blk w4 b 87 cs → b ≠ g := fun g hg b cs hb => by
    obtain ⟨-, cs', hb'⟩ := (hown k hk).block hg
    exact Blk.ne_ hb hb' (by decide)
  have keepN : ∀ b cs, Blk w4 b 87 cs → Blk w7 b 87 cs := fun b cs hb =>
    (hgr.block b hb.lt (fun e => hnk b e.symm b cs hb rfl)).trans hb
  have keepI : ∀ u ids, Ints B w4 u ids → Ints B (w7.setCell ⟨adr k, 3, none⟩ v') u ids := fun u ids hi => by
    obtain ⟨_, _, ⟨-, -, _, hbk, -⟩, -⟩ := h.node hk
    obtain ⟨A, c, hv, a1, a2, a3, a4⟩ := hi
    refine ⟨A, c, hv, a1, a2, a3, fun j y hy => ?_⟩
    obtain ⟨b, o, cs, e1, e2, e3, e4⟩ := a4 j y hy
    refine ⟨b, o, cs, e1, e2, ?_, e4⟩
    have h7 : Blk w7 b 3 cs := (hgr.block b e3.lt (fun e => by
      obtain ⟨-, cs', hb'⟩ := (hown k hk).block e.symm
      exact Blk.ne_ e3 hb' (by decide) rfl)).trans e3
    exact h7.far (p := ⟨adr k, 3, none⟩) (Blk.ne_ e3 hbk (by decide)) v'
  have hak7 : ∃ cs, Blk w7 (adr k) 87 cs := by
    obtain ⟨_, _, ⟨-, -, _, hbk, -⟩, -⟩ := h.node hk
    exact ⟨_, keepN _ _ hbk⟩
  obtain ⟨csk, hak⟩ := hak7
  refine ⟨fun q => if q = k then v' else kv q, ?_, ?_⟩
  rotate_left
  · obtain ⟨_, _, ⟨hb, -⟩, -⟩ := h.node hk; exact hb
  have old : ∀ q dir ids, isKey l q → Node B w4 l adr kv q dir ids →
      Node B (w7.setCell ⟨adr k, 3, none⟩ v') (l.eraseIdx i) adr (fun q => if q = k then v' else kv q) q dir ids := fun q dir ids hq hn => by
    obtain ⟨a1, -, uq, a3, a4⟩ := hn
    have b3 := keepN _ _ a3
    have b4 := keepI _ _ a4
    unfold Node
    dsimp only
    refine ⟨a1, ?_, ?_⟩
    · by_cases hqk : q = k
      · subst hqk
        rw [if_pos rfl]
        refine hO.frame (fun g hg => ?_) (fun _ _ _ e => e)
        refine Below.heap_setCell w7 ⟨adr q, 3, none⟩ v' g ?_
        obtain ⟨-, cs', hb'⟩ := hO.block hg
        exact Blk.ne_ hb' hak (by decide)
      · rw [if_neg hqk, hfar q (fun e => hqk e.symm)]
        refine (hown q hq).frame (fun g hg => ?_) (fun _ _ _ e => e)
        obtain ⟨-, cs', hb'⟩ := (hown q hq).block hg
        have e1 : w7.heap[g]? = w4.heap[g]? := hgr.block g hb'.lt (fun e => hqk (h.sep q k g hq hk hg e.symm))
        rw [← e1]
        refine Below.heap_setCell w7 ⟨adr k, 3, none⟩ v' g ?_
        exact Blk.ne_ (e1.trans hb' : Blk w7 g 41 cs') hak (by decide)
    · by_cases hqk : q = k
      · subst hqk
        rw [if_pos rfl]
        exact ⟨uq, by simpa using b3.set_ 3 v', b4⟩
      · rw [if_neg hqk]
        exact ⟨uq, b3.far (p := ⟨adr k, 3, none⟩) (fun e => hqk (h.inj q k hq hk e)) v', b4⟩
  have hblk : ∀ q g, (if q = k then v' else kv q).ownBlock = some g → (kv q).ownBlock = some g := fun q g e => by
    split at e
    · next hq => subst hq; rw [← hvb]; exact e
    · exact e
  refine ⟨old [] true [] (.inl rfl) h.root, fun y hy => ?_, fun q q' hq hq' e => ?_, fun q q' g hq hq' e1 e2 => ?_⟩
  · have hyl := ((mem_erase hs hx).1 hy).1
    exact old _ _ _ (.inr ⟨y, hyl, rfl⟩) (h.nodes y hyl)
  · exact h.inj _ _ (erase_key hs hx hq).1 (erase_key hs hx hq').1 e
  · exact h.sep _ _ _ (erase_key hs hx hq).1 (erase_key hs hx hq').1 (hblk _ _ e1) (hblk _ _ e2)
end Go.Sf

/-! The program drops a node. -/
namespace Go.Sf
open Go Go.RowKit Go.Proofs
/-- what is no row of cells stays -/
def KeepsO (w w' : World) : Prop := ∀ b, b < w.heap.size → (∀ t cs, ¬ Blk w b t cs) → w'.heap[b]? = w.heap[b]?
section
variable {w0 w : World} {l : List It} {adr : Key → Nat} {kv : Key → Value}
end
end Go.Sf

/-! The program frees a file. -/
namespace Go.Sf
open Go Go.RowKit Go.Proofs Go.Maps
theorem cntI_cons (i j : Int) (r : List Int) : cntI i (j :: r) = cntI i r + if j = i then 1 else 0 := by
  unfold cntI
  by_cases e : j = i
  · subst e
    rw [List.filter_cons_of_pos (by exact eqb_true.2 rfl), if_pos rfl]; rfl
  · rw [List.filter_cons_of_neg (by simp [eqb_false.2 e]), if_neg e]; rfl
/-- all that is made of cells stays -/
def KeepsC (w w' : World) : Prop := ∀ g t cs, Blk w g t cs → Blk w' g t cs
theorem KeepsC.t {w w' : World} (h : KeepsC w w') (t : TypeId) : KeepsT t w w' := fun g t' cs _ hb => h g t' cs hb
theorem KeepsC.trans {w w' w'' : World} (h : KeepsC w w') (k : KeepsC w' w'') : KeepsC w w'' := fun g t cs hb => k g t cs (h g t cs hb)
end Go.Sf

/-! The program removes an item of an open volume. -/
namespace Go.Sf
open Go Go.RowKit Go.Proofs Go.Maps
theorem Ints.keepN {B : Nat} {w w' : World} {u : Value} {ids : List Int} (h : Ints B w u ids) (hk : KeepsN w w') : Ints B w' u ids := by
  obtain ⟨A, c, hv, a1, a2, a3, a4⟩ := h
  refine ⟨A, c, hv, a1, a2, a3, fun j y hy => ?_⟩
  obtain ⟨b, o, cs, e1, e2, e3, e4⟩ := a4 j y hy
  exact ⟨b, o, cs, e1, e2, hk b _ cs (by decide) (by decide) e3, e4⟩
theorem KeepsC.n {w w' : World} (h : KeepsC w w') : KeepsN w w' := fun b t cs _ _ hb => h b t cs hb
theorem KeepsN.trans {w w' w'' : World} (h : KeepsN w w') (k : KeepsN w' w'') : KeepsN w w'' := fun b t cs h1 h2 hb => k b t cs h1 h2 (h b t cs h1 h2 hb)
theorem StoreAt.keepN {B b n : Nat} {w w' : World} {l : List Hd} (h : StoreAt B b n l w) (hk : KeepsN w w') (ho : KeepsO w w') : StoreAt B b n l w' := by
  have hno : ∀ t cs, ¬ Blk w b t cs := fun t cs hb => store_ne h hb rfl
  obtain ⟨M, h1, h2⟩ := h
  have hlt : b < w.heap.size := by
    obtain ⟨D, ⟨es, cl, hb, -⟩, -⟩ := h1
    rcases Nat.lt_or_ge b w.heap.size with hlt | hge
    · exact hlt
    · rw [Array.getElem?_eq_none hge] at hb; cases hb
  exact ⟨M, h1.block (ho b hlt hno), fun i => ⟨(h2 i).1, fun y hy => let ⟨u, r1, r2⟩ := (h2 i).2 y hy; ⟨u, r1, r2.keepN hk⟩⟩⟩
section
variable {w0 w : World} {s : List Hd} {t : List It} {adr : Key → Nat} {kv : Key → Value}
end
end Go.Sf

/-! The program hands a volume out; VolumeDrop. -/
namespace Go.Sf
open Go Go.RowKit Go.Proofs
end Go.Sf

/-! The program's VolumeDrop. -/
namespace Go.Sf
open Go Go.RowKit Go.Proofs
/-- a volume of the call's own, to be marked, and whether there is one -/
def OutVol (B : Nat) (o : Option (List Hd × List It)) (r : Value) (w : World) : Prop := ∃ vv, r = .tuple #[vv, .bool o.isSome] ∧ VolU B w vv (o.elim [] (·.1)) (o.elim [] (·.2))
theorem VolU.nil (B : Nat) (w : World) : VolU B w (.agg #[.slice none 0 0, .slice none 0 0]) [] [] :=
  ⟨_, _, [], [], B, rfl, rfl, SlOf.nil _ _ _ _ _, List.Pairwise.nil, (fun b h => by
    rcases h with ⟨h, -⟩ | ⟨q, hq, -⟩
    · cases h
    · cases hq), rfl, SlOf.nil _ _ _ _ _, List.Pairwise.nil, Nat.le_refl _⟩
theorem OutVol.none_ {B : Nat} {w : World} {o : Option (List Hd × List It)} (h : o = none) : OutVol B o (.tuple #[.agg #[.slice none 0 0, .slice none 0 0], .bool false]) w := by
  subst h; exact ⟨_, rfl, VolU.nil _ _⟩
theorem VolU.low {B B' : Nat} {w : World} {r : Value} {s : List Hd} {t : List It} (h : VolU B w r s t) (hB : B' ≤ B) : VolU B' w r s t :=
  let ⟨u1, u2, lh, li, m, a1, a2, a3, a4, a5, a6, a7, a8, a9⟩ := h; ⟨u1, u2, lh, li, m, a1, a2, a3.keep hB (fun _ _ _ => rfl), a4, a5, a6, a7, a8, Nat.le_trans hB a9⟩
theorem VolU.keepT {B : Nat} {w w' : World} {r : Value} {s : List Hd} {t : List It} {ty : TypeId} (h : VolU B w r s t) (hk : KeepsT ty w w') (h1 : 31 ≠ ty) (h2 : 34 ≠ ty) (h3 : 3 ≠ ty) : VolU B w' r s t :=
  let ⟨u1, u2, lh, li, m, a1, a2, a3, a4, a5, a6, a7, a8, a9⟩ := h; ⟨u1, u2, lh, li, m, a1, a2, a3.keepT hk h1 h3, a4, a5, a6, a7.keepT hk h2 h3, a8, a9⟩
end Go.Sf
