/- A tree of nodes gets one node less. -/
import Derived.Test.YtneabdoianmfhaaGreatDoorGE
import Derived.Test.YtneabdoianmfhaaGreatDoorP23
import Derived.Test.YtneabdoianmfhaaGreatDoorGF
namespace Go.Sf
open Go Go.RowKit
theorem TreeAt.cut {B : Nat} {w4 w7 : World} {l : List It} {adr : Key → Nat} {kv : Key → Value} {i : Nat} {x : It} {v' : Value} (h : TreeAt B w4 l adr kv) (hs : Srt l) (hx : l[i]? = some x)
    (hk : isKey l (key x).dropLast)
    (hO : OwnS B 94 1 EPtr w7 v' ((kidsOf (l.eraseIdx i) (key x).dropLast).map fun y => adr (key y)))
    (hgr : w4.grownBy w7 (kv (key x).dropLast).ownBlock) (hvb : v'.ownBlock = (kv (key x).dropLast).ownBlock) :
    ∃ kv', TreeAt B (w7.setCell ⟨adr (key x).dropLast, 3, none⟩ v') (l.eraseIdx i) adr kv' ∧ B ≤ adr (key x).dropLast := by
  classical
  have hfar := fun k (e : (key x).dropLast ≠ k) => kids_cut_far hx e
  generalize (key x).dropLast = k at *
  have hown : ∀ q, isKey l q → OwnS B 94 1 EPtr w4 (kv q) ((kidsOf l q).map fun y => adr (key y)) := fun q hq => by
    obtain ⟨_, _, ⟨-, ho, -⟩, -⟩ := h.node hq; exact ho
  have hnk : ∀ g, (kv k).ownBlock = some g → ∀ b cs, Blk w4 b 241 cs → b ≠ g := fun g hg b cs hb => by
    obtain ⟨-, cs', hb'⟩ := (hown k hk).block hg
    exact Blk.ne_ hb hb' (by decide)
  have keepN : ∀ b cs, Blk w4 b 241 cs → Blk w7 b 241 cs := fun b cs hb =>
    (hgr.block b hb.lt (fun e => hnk b e.symm b cs hb rfl)).trans hb
  have keepI : ∀ u ids, Ints B w4 u ids → Ints B (w7.setCell ⟨adr k, 3, none⟩ v') u ids := fun u ids hi => by
    obtain ⟨_, _, ⟨-, -, _, hbk, -⟩, -⟩ := h.node hk
    obtain ⟨A, c, hv, a1, a2, a3, a4⟩ := hi
    refine ⟨A, c, hv, a1, a2, a3, fun j y hy => ?_⟩
    obtain ⟨b, o, cs, e1, e2, e3, e4⟩ := a4 j y hy
    refine ⟨b, o, cs, e1, e2, ?_, e4⟩
    have h7 : Blk w7 b 3 cs := (hgr.block b e3.lt (fun e => by
      obtain ⟨-, cs', hb'⟩ := (hown k hk).block e.symm
      exact Blk.ne_ e3 hb' (by decide) rfl)).trans e3
    exact h7.far (p := ⟨adr k, 3, none⟩) (Blk.ne_ e3 hbk (by decide)) v'
  have hak7 : ∃ cs, Blk w7 (adr k) 241 cs := by
    obtain ⟨_, _, ⟨-, -, _, hbk, -⟩, -⟩ := h.node hk
    exact ⟨_, keepN _ _ hbk⟩
  obtain ⟨csk, hak⟩ := hak7
  refine ⟨fun q => if q = k then v' else kv q, ?_, ?_⟩
  rotate_left
  · obtain ⟨_, _, ⟨hb, -⟩, -⟩ := h.node hk; exact hb
  have old : ∀ q dir ids, isKey l q → Node B w4 l adr kv q dir ids →
      Node B (w7.setCell ⟨adr k, 3, none⟩ v') (l.eraseIdx i) adr (fun q => if q = k then v' else kv q) q dir ids := fun q dir ids hq hn => by
    obtain ⟨a1, -, uq, a3, a4⟩ := hn
    have b3 := keepN _ _ a3
    have b4 := keepI _ _ a4
    unfold Node
    dsimp only
    refine ⟨a1, ?_, ?_⟩
    · by_cases hqk : q = k
      · subst hqk
        rw [if_pos rfl]
        refine hO.frame (fun g hg => ?_) (fun _ _ _ e => e)
        refine Below.heap_setCell w7 ⟨adr q, 3, none⟩ v' g ?_
        obtain ⟨-, cs', hb'⟩ := hO.block hg
        exact Blk.ne_ hb' hak (by decide)
      · rw [if_neg hqk, hfar q (fun e => hqk e.symm)]
        refine (hown q hq).frame (fun g hg => ?_) (fun _ _ _ e => e)
        obtain ⟨-, cs', hb'⟩ := (hown q hq).block hg
        have e1 : w7.heap[g]? = w4.heap[g]? := hgr.block g hb'.lt (fun e => hqk (h.sep q k g hq hk hg e.symm))
        rw [← e1]
        refine Below.heap_setCell w7 ⟨adr k, 3, none⟩ v' g ?_
        exact Blk.ne_ (e1.trans hb' : Blk w7 g 94 cs') hak (by decide)
    · by_cases hqk : q = k
      · subst hqk
        rw [if_pos rfl]
        exact ⟨uq, by simpa using b3.set_ 3 v', b4⟩
      · rw [if_neg hqk]
        exact ⟨uq, b3.far (p := ⟨adr k, 3, none⟩) (fun e => hqk (h.inj q k hq hk e)) v', b4⟩
  have hblk : ∀ q g, (if q = k then v' else kv q).ownBlock = some g → (kv q).ownBlock = some g := fun q g e => by
    split at e
    · next hq => subst hq; rw [← hvb]; exact e
    · exact e
  refine ⟨old [] true [] (.inl rfl) h.root, fun y hy => ?_, fun q q' hq hq' e => ?_, fun q q' g hq hq' e1 e2 => ?_⟩
  · have hyl := ((mem_erase hs hx).1 hy).1
    exact old _ _ _ (.inr ⟨y, hyl, rfl⟩) (h.nodes y hyl)
  · exact h.inj _ _ (erase_key hs hx hq).1 (erase_key hs hx hq').1 e
  · exact h.sep _ _ _ (erase_key hs hx hq).1 (erase_key hs hx hq').1 (hblk _ _ e1) (hblk _ _ e2)
end Go.Sf
