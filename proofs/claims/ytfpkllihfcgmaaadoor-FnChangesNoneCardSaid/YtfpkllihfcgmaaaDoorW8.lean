/- A tree of nodes gets one node more. -/
import Derived.Test.YtfpkllihfcgmaaaDoorW7
import Derived.Laws.AppendOwn
namespace Go.Sf
open Go Go.RowKit
theorem OwnS.frame {α : Type} {base : Nat} {t : TypeId} {sz : Nat} {E : World → Array Value → Nat → α → Prop} {w w' : World} {v : Value} {l : List α} (h : OwnS base t sz E w v l)
    (hb : ∀ g, v.ownBlock = some g → w'.heap[g]? = w.heap[g]?) (hE : ∀ cs p x, E w cs p x → E w' cs p x) : OwnS base t sz E w' v l := by
  obtain ⟨xs, ⟨h1, h1'⟩, h2⟩ := h
  refine ⟨xs, ⟨h1, ?_⟩, fun k x hx => hE _ _ _ (h2 k x hx)⟩
  rcases h1' with h | ⟨g, cap, cur, hv, hg, hh, r⟩
  · exact .inl h
  · exact .inr ⟨g, cap, cur, hv, hg, (hb g (by rw [hv]; rfl)).trans hh, r⟩
/-- the block of a row of one's own, if it has one -/
theorem OwnS.block {α : Type} {base : Nat} {t : TypeId} {sz : Nat} {E : World → Array Value → Nat → α → Prop} {w : World} {v : Value} {l : List α} (h : OwnS base t sz E w v l) {g : Nat} (hg : v.ownBlock = some g) : base ≤ g ∧ ∃ cs, Blk w g t cs := by
  obtain ⟨xs, ⟨h1, h1'⟩, h2⟩ := h
  rcases h1' with ⟨rfl, -⟩ | ⟨g', cap, cur, rfl, hg', hh, r⟩
  · cases hg
  · simp only [Value.ownBlock, Option.some.injEq] at hg
    subst hg
    exact ⟨hg', cur, hh⟩
theorem kids_key_none {l : List It} {x : It} (hg : Grow l) (hf : Fits l x) : kidsOf (l ++ [x]) (key x) = [] := by
  rw [kidsOf, List.filter_eq_nil_iff]
  intro y hy
  simp only [kin, decide_eq_true_eq]
  intro e
  rw [List.mem_append, List.mem_singleton] at hy
  rcases hy with hy | rfl
  · rcases (hg.fits hy).2 with h | ⟨z, hz, h, -⟩
    · rw [e] at h; exact key_ne x h
    · rw [e] at h
      have := hf.2.1 z hz
      rw [key_path h, lt8_irrefl] at this; cases this
  · have := congrArg List.length e
    have h2 := congrArg List.length (key_last (x := y))
    simp only [List.length_append, List.length_singleton] at h2; omega
theorem fits_new {l : List It} {x : It} (hf : Fits l x) {y : It} (hy : y ∈ l) : key y ≠ key x := fun e => by
  have := hf.2.1 y hy
  rw [key_path e, lt8_irrefl] at this; cases this
theorem TreeAt.grow {B : Nat} {w4 w7 : World} {l : List It} {adr : Key → Nat} {kv : Key → Value} {x : It} {u v' : Value} (h : TreeAt B w4 l adr kv) (hg : Grow l) (hf : Fits l x) (hB : B ≤ w4.heap.size)
    (hu : Ints B w4 u x.ids)
    (hO : OwnS B 50 1 EPtr w7 v' (((kidsOf l (key x).dropLast).map fun y => adr (key y)) ++ [w4.heap.size]))
    (hgr : ((w4.alloc (.cells #[.string (nameOf (key x)), .bool x.dir, u, .slice none 0 0] 66)).alloc (.cells #[.pointer (some ⟨w4.heap.size, 0, none⟩)] 50)).grownBy w7 (kv (key x).dropLast).ownBlock)
    (hvb : v'.ownBlock = (kv (key x).dropLast).ownBlock ∨ v'.ownBlock = some (w4.heap.size + 2)) :
    ∃ adr' kv', TreeAt B (w7.setCell ⟨adr (key x).dropLast, 3, none⟩ v') (l ++ [x]) adr' kv' ∧ adr' [] = adr [] ∧ B ≤ adr (key x).dropLast := by
  classical
  have hk : isKey l (key x).dropLast := hf.2.2.imp_right fun ⟨z, h1, h2, _⟩ => ⟨z, h1, h2⟩
  have hdx : (key x).dropLast ≠ key x := fun e => by
    have := congrArg List.length e
    have h2 := congrArg List.length (key_last (x := x))
    simp only [List.length_append, List.length_singleton] at h2; omega
  have hkx : ¬ isKey l (key x) := fun hk => by
    rcases hk with h0 | ⟨y, hy, e⟩
    · exact key_ne x h0
    · exact fits_new hf hy e
  generalize hkd : (key x).dropLast = k at *
  generalize hw5 : w4.alloc (.cells #[.string (nameOf (key x)), .bool x.dir, u, .slice none 0 0] 66) = w5 at *
  generalize hw6 : w5.alloc (.cells #[.pointer (some ⟨w4.heap.size, 0, none⟩)] 50) = w6 at *
  have hx5 : Ext w4 w5 := by rw [← hw5]; exact (Ext.refl _).alloc _
  have hx6 : Ext w5 w6 := by rw [← hw6]; exact (Ext.refl _).alloc _
  have hx46 := hx5.trans hx6
  have hs6 : w6.heap.size = w4.heap.size + 2 := by rw [← hw6, ← hw5]; simp
  have hnb : Blk w6 w4.heap.size 66 #[.string (nameOf (key x)), .bool x.dir, u, .slice none 0 0] := by
    rw [← hw6, ← hw5]; exact (Blk.new w4 _ _).alloc _
  have h6 := h.ext hx46
  have hlt : ∀ q, isKey l q → adr q < w4.heap.size := fun q hq => by
    obtain ⟨_, _, ⟨-, -, _, hb, -⟩, -⟩ := h.node hq; exact hb.lt
  have hown : ∀ q, isKey l q → OwnS B 50 1 EPtr w6 (kv q) ((kidsOf l q).map fun y => adr (key y)) := fun q hq => by
    obtain ⟨_, _, ⟨-, ho, -⟩, -⟩ := h6.node hq; exact ho
  have hblt : ∀ q g, isKey l q → (kv q).ownBlock = some g → g < w4.heap.size := fun q g hq hg => by
    obtain ⟨_, _, ⟨-, ho, -⟩, -⟩ := h.node hq
    obtain ⟨-, cs, hb⟩ := ho.block hg
    exact hb.lt
  -- a node's block is no row of kids
  have hnk : ∀ g, isKey l k → (kv k).ownBlock = some g → ∀ b cs, Blk w6 b 66 cs → b ≠ g := fun g _ hg b cs hb => by
    obtain ⟨-, cs', hb'⟩ := (hown k hk).block hg
    exact Blk.ne_ hb hb' (by decide)
  have keepN : ∀ b cs, Blk w6 b 66 cs → Blk w7 b 66 cs := fun b cs hb =>
    (hgr.block b hb.lt (fun e => hnk b hk e.symm b cs hb rfl)).trans hb
  have keepI : ∀ u ids, Ints B w6 u ids → Ints B (w7.setCell ⟨adr k, 3, none⟩ v') u ids := fun u ids hi => by
    obtain ⟨_, _, ⟨-, -, _, hbk, -⟩, -⟩ := h6.node hk
    obtain ⟨A, c, hv, a1, a2, a3, a4⟩ := hi
    refine ⟨A, c, hv, a1, a2, a3, fun j y hy => ?_⟩
    obtain ⟨b, o, cs, e1, e2, e3, e4⟩ := a4 j y hy
    refine ⟨b, o, cs, e1, e2, ?_, e4⟩
    have h7 : Blk w7 b 3 cs := (hgr.block b e3.lt (fun e => by
      obtain ⟨-, cs', hb'⟩ := (hown k hk).block e.symm
      exact Blk.ne_ e3 hb' (by decide) rfl)).trans e3
    exact h7.far (p := ⟨adr k, 3, none⟩) (Blk.ne_ e3 hbk (by decide)) v'
  have hak7 : ∃ cs, Blk w7 (adr k) 66 cs := by
    obtain ⟨_, _, ⟨-, -, _, hbk, -⟩, -⟩ := h6.node hk
    exact ⟨_, keepN _ _ hbk⟩
  obtain ⟨csk, hak⟩ := hak7
  refine ⟨fun q => if q = key x then w4.heap.size else adr q, fun q => if q = key x then .slice none 0 0 else if q = k then v' else kv q, ?_, ?_, ?_⟩
  rotate_left
  · show (if ([] : Key) = key x then _ else _) = _
    rw [if_neg (fun e => key_ne x e.symm)]
  · obtain ⟨_, _, ⟨hb, -⟩, -⟩ := h.node hk; exact hb
  have hmap : ∀ q, (kidsOf l q).map (fun y => if key y = key x then w4.heap.size else adr (key y)) = (kidsOf l q).map fun y => adr (key y) := fun q =>
    List.map_congr_left fun y hy => if_neg (fits_new hf (mem_kids.1 hy).1)
  have old : ∀ q dir ids, isKey l q → Node B w4 l adr kv q dir ids →
      Node B (w7.setCell ⟨adr k, 3, none⟩ v') (l ++ [x]) (fun q => if q = key x then w4.heap.size else adr q) (fun q => if q = key x then .slice none 0 0 else if q = k then v' else kv q) q dir ids := fun q dir ids hq hn => by
    obtain ⟨a1, -, uq, a3, a4⟩ := hn
    have hqx : q ≠ key x := fun e => hkx (e ▸ hq)
    have b3 := keepN _ _ (a3.ext hx46)
    have b4 := keepI _ _ (a4.ext hx46)
    unfold Node
    simp only [if_neg hqx]
    rw [kidsOf_append, List.map_append, hmap]
    refine ⟨a1, ?_, ?_⟩
    · by_cases hqk : q = k
      · subst hqk
        rw [if_pos rfl, if_pos hkd]
        simp only [List.map_cons, List.map_nil, if_pos]
        refine hO.frame (fun g hg => ?_) (fun _ _ _ e => e)
        refine Below.heap_setCell w7 ⟨adr q, 3, none⟩ v' g ?_
        obtain ⟨-, cs', hb'⟩ := hO.block hg
        exact Blk.ne_ hb' hak (by decide)
      · rw [if_neg hqk, if_neg (fun e => hqk (e.symm.trans hkd)), List.map_nil, List.append_nil]
        refine (hown q hq).frame (fun g hg => ?_) (fun _ _ _ e => e)
        obtain ⟨-, cs', hb'⟩ := (hown q hq).block hg
        have e1 : w7.heap[g]? = w6.heap[g]? := hgr.block g hb'.lt (fun e => hqk (h.sep q k g hq hk hg e.symm))
        rw [← e1]
        refine Below.heap_setCell w7 ⟨adr k, 3, none⟩ v' g ?_
        exact Blk.ne_ (e1.trans hb' : Blk w7 g 50 cs') hak (by decide)
    · by_cases hqk : q = k
      · subst hqk
        rw [if_pos rfl]
        exact ⟨uq, by simpa using b3.set_ 3 v', b4⟩
      · rw [if_neg hqk]
        exact ⟨uq, b3.far (p := ⟨adr k, 3, none⟩) (fun e => hqk (h.inj q k hq hk e)) v', b4⟩
  have hkey : ∀ q, isKey (l ++ [x]) q → isKey l q ∨ q = key x := fun q hq => by
    rcases hq with h0 | ⟨y, hy, e⟩
    · exact .inl (.inl h0)
    · rw [List.mem_append, List.mem_singleton] at hy
      rcases hy with hy | rfl
      · exact .inl (.inr ⟨y, hy, e⟩)
      · exact .inr e.symm
  have hv'b : ∀ g, v'.ownBlock = some g → (kv k).ownBlock = some g ∨ g = w4.heap.size + 2 := fun g hg => by
    rcases hvb with e | e
    · exact .inl (e ▸ hg)
    · rw [e] at hg; exact .inr (Option.some.inj hg).symm
  refine ⟨old [] true [] (.inl rfl) h.root, fun y hy => ?_, fun q q' hq hq' e => ?_, fun q q' g hq hq' e1 e2 => ?_⟩
  · rw [List.mem_append, List.mem_singleton] at hy
    rcases hy with hy | rfl
    · exact old _ _ _ (.inr ⟨y, hy, rfl⟩) (h.nodes y hy)
    · unfold Node
      simp only [if_pos]
      rw [kids_key_none hg hf]
      refine ⟨hB, OwnS.nil _ _ _ _ _, u, ?_, keepI _ _ (hu.ext hx46)⟩
      exact (keepN _ _ hnb).far (p := ⟨adr k, 3, none⟩) (fun e => by have := hlt k hk; simp at e; omega) v'
  · rcases hkey q hq with h1 | rfl <;> rcases hkey q' hq' with h2 | rfl
    · simp only [if_neg (fun e => hkx (e ▸ h1) : q ≠ key x), if_neg (fun e => hkx (e ▸ h2) : q' ≠ key x)] at e
      exact h.inj _ _ h1 h2 e
    · simp only [if_neg (fun e => hkx (e ▸ h1) : q ≠ key x), if_pos] at e
      have := hlt q h1; omega
    · simp only [if_neg (fun e => hkx (e ▸ h2) : q' ≠ key x), if_pos] at e
      have := hlt q' h2; omega
    · rfl
  · rcases hkey q hq with h1 | rfl
    · rcases hkey q' hq' with h2 | rfl
      · simp only [if_neg (fun e => hkx (e ▸ h1) : q ≠ key x)] at e1
        simp only [if_neg (fun e => hkx (e ▸ h2) : q' ≠ key x)] at e2
        by_cases c1 : q = k <;> by_cases c2 : q' = k
        · rw [c1, c2]
        · subst c1
          rw [if_pos rfl] at e1
          rw [if_neg c2] at e2
          rcases hv'b g e1 with e | e
          · exact h.sep _ _ _ h1 h2 e e2
          · have := hblt _ _ h2 e2; omega
        · subst c2
          rw [if_pos rfl] at e2
          rw [if_neg c1] at e1
          rcases hv'b g e2 with e | e
          · exact h.sep _ _ _ h1 h2 e1 e
          · have := hblt _ _ h1 e1; omega
        · rw [if_neg c1] at e1
          rw [if_neg c2] at e2
          exact h.sep _ _ _ h1 h2 e1 e2
      · simp only [if_pos] at e2; cases e2
    · simp only [if_pos] at e1; cases e1
end Go.Sf
