/- Arguments from outside, read by their cells alone; what szItemS makes of them. -/
import Derived.Test.YtpldhlpegpgmcaaDoorGC
import Derived.Test.YtpldhlpegpgmcaaDoorGE
import Derived.Laws.MakeOwn
import Derived.Lib.SlBytesRow
/-! Arguments from outside, read by their cells alone; what szItemS makes of them. -/
namespace Go.Sf
open Go Go.RowKit Go.Proofs
/-- a row of elements that are read by cells, sz cells each -/
def ARow {α : Type} (sz : Nat) (E : World → Nat → Nat → α → Prop) (w : World) (A : Option Addr) (c : Nat) (l : List α) : Prop :=
  l.length ≤ c ∧ (c ≤ maxLen ∧ (A = none → c = 0)) ∧ ∀ (k : Nat) (x : α), l[k]? = some x → ∃ b o, A = some ⟨b, o, none⟩ ∧ E w b (o + k * sz) x
def ASl {α : Type} (sz : Nat) (E : World → Nat → Nat → α → Prop) (w : World) (v : Value) (l : List α) : Prop := ∃ A c, v = .slice A l.length c ∧ ARow sz E w A c l
theorem ASl.ext {α : Type} {sz : Nat} {E : World → Nat → Nat → α → Prop} {w w' : World} {v : Value} {l : List α} (h : ASl sz E w v l) (hE : ∀ b p x, E w b p x → E w' b p x) : ASl sz E w' v l :=
  let ⟨A, c, h1, h2, h3, h4⟩ := h; ⟨A, c, h1, h2, h3, fun k x hx => let ⟨b, o, e1, e2⟩ := h4 k x hx; ⟨b, o, e1, hE _ _ _ e2⟩⟩
/-- an int of an argument -/
def AInt (w : World) (b p : Nat) (x : Int) : Prop := w.cell? ⟨b, p, none⟩ = some (.int .i64 x) ∧ inI x
def AInts (w : World) (v : Value) (xs : List Int) : Prop := ASl 1 AInt w v xs
theorem AInts.ext {w w' : World} {v : Value} {xs : List Int} (h : AInts w v xs) (e : Ext w w') : AInts w' v xs := ASl.ext h fun _ _ _ ⟨h1, h2⟩ => ⟨e.cell h1, h2⟩
/-! ### items -/
end Go.Sf

/-! Copies of arguments: toIntS, toItem, toItemS make memory of the call's own, each row apart. -/
namespace Go.Sf
open Go Go.RowKit Go.Proofs
/-- a row of one's own: the cells ahead of k are the list's -/
def RowTo (w : World) (g : Nat) (n : Nat) (l : List Int) (k : Nat) : Prop := ∃ cs : Array Value, Blk w g 3 cs ∧ cs.size = n ∧ ∀ i x, i < k → l[i]? = some x → cs[i]? = some (.int .i64 x)
theorem RowTo.put {w W : World} {g n k : Nat} {l : List Int} {x : Int} (h : RowTo w g n l k) (e : Ext w W) (hx : l[k]? = some x) (hk : k < n) : RowTo (W.setCell ⟨g, k, none⟩ (.int .i64 x)) g n l (k + 1) := by
  obtain ⟨cs, h1, h2, h3⟩ := h
  refine ⟨_, (h1.ext e).set_ k (.int .i64 x), by simpa using h2, fun i y hi hy => ?_⟩
  rw [Array.getElem?_setIfInBounds]
  by_cases hik : k = i
  · subst hik
    rw [hx] at hy
    rw [if_pos rfl, if_pos (by omega), Option.some.inj hy]
  · rw [if_neg hik]; exact h3 i y (by omega) hy
/-- an item whose slice of ids is told, too -/
def EItU (B : Nat) (w : World) (cs : Array Value) (p : Nat) (q : It × Value) : Prop :=
  cs[p]? = some (.string q.1.path) ∧ q.1.path.size < lim ∧ cs[p + 1]? = some (.bool q.1.dir) ∧ cs[p + 2]? = some q.2 ∧ Ints B w q.2 q.1.ids
def ItsU (B : Nat) (w : World) (v : Value) (l : List (It × Value)) : Prop := SlOf B 34 3 (EItU B) w v l
/-- no two of them share their ints -/
def Sep {α : Type} (l : List (α × Value)) : Prop := l.Pairwise fun a b => ∀ g, a.2.ownBlock = some g → b.2.ownBlock ≠ some g
theorem Sep.snoc {α : Type} {l : List (α × Value)} {q : α × Value} (h : Sep l) (hq : ∀ p, p ∈ l → ∀ g, p.2.ownBlock = some g → q.2.ownBlock ≠ some g) : Sep (l ++ [q]) := by
  unfold Sep at h ⊢
  rw [List.pairwise_append]
  exact ⟨h, List.pairwise_singleton _ _, fun a ha b hb => by rw [List.mem_singleton] at hb; subst hb; exact hq a ha⟩
theorem EItU.keepT {B : Nat} {t : TypeId} {w w' : World} {cs : Array Value} {p : Nat} {q : It × Value} (h : EItU B w cs p q) (hk : KeepsT t w w') (ht : 3 ≠ t) : EItU B w' cs p q :=
  let ⟨h1, h2, h3, h4, h5⟩ := h; ⟨h1, h2, h3, h4, h5.keepT hk ht⟩
theorem EItU.keep {B B' : Nat} {w w' : World} {cs : Array Value} {p : Nat} {q : It × Value} (h : EItU B w cs p q) (hB : B' ≤ B) (hk : Keeps B w w') : EItU B' w' cs p q :=
  let ⟨h1, h2, h3, h4, h5⟩ := h; ⟨h1, h2, h3, h4, h5.keep hB hk⟩
theorem EItU.loc {B : Nat} {w : World} {cs cs' : Array Value} {p p' : Nat} {q : It × Value} (h : EItU B w cs p q) (hj : ∀ j, j < 3 → cs'[p' + j]? = cs[p + j]?) : EItU B w cs' p' q := by
  obtain ⟨h1, h2, h3, h4, h5⟩ := h
  have j0 := hj 0 (by omega); have j1 := hj 1 (by omega); have j2 := hj 2 (by omega)
  simp only [Nat.add_zero] at j0
  exact ⟨j0.trans h1, h2, j1.trans h3, j2.trans h4, h5⟩
theorem EItU_ok (B : Nat) : ElOk 34 3 (EItU B) := ⟨fun _ _ _ _ _ hk h => h.keepT hk (by decide), fun _ _ _ _ _ _ hj h => h.loc hj, fun _ _ _ _ ⟨h1, _, h3, h4, h5⟩ j hj => match j, hj with
  | 0, _ => ⟨_, h1, rfl⟩
  | 1, _ => ⟨_, h3, rfl⟩
  | 2, _ => ⟨_, h4, h5.one⟩⟩
theorem ItsU.its {B : Nat} {w : World} {v : Value} {lu : List (It × Value)} (h : ItsU B w v lu) : Its B w v (lu.map Prod.fst) := by
  obtain ⟨A, c, rfl, h1, h2, h3, h4⟩ := h
  refine ⟨A, c, by rw [List.length_map], by rw [List.length_map]; exact h1, h2, by rw [List.length_map]; exact h3, fun k x hx => ?_⟩
  rw [List.getElem?_map, Option.map_eq_some_iff] at hx
  obtain ⟨q, hq, rfl⟩ := hx
  obtain ⟨b, o, cs, e1, e2, e3, f1, f2, f3, f4, f5⟩ := h4 k q hq
  exact ⟨b, o, cs, e1, e2, e3, f1, f2, f3, ⟨_, f4, f5⟩⟩
theorem ItsU.keep {B B' : Nat} {w w' : World} {v : Value} {lu : List (It × Value)} (h : ItsU B w v lu) (hB : B' ≤ B) (hk : Keeps B w w') : ItsU B' w' v lu := SlOf.mono h hB hk fun _ _ _ e => e.keep hB hk
theorem ItsU.ext {B : Nat} {w w' : World} {v : Value} {lu : List (It × Value)} (h : ItsU B w v lu) (e : Ext w w') : ItsU B w' v lu := h.keep (Nat.le_refl _) (e.keeps _)
end Go.Sf

/-! The marks that the exact laws write: their texts. -/
namespace Go.Sf
open Go Go.RowKit Go.Proofs
end Go.Sf

/-! Rows of the call's own are marked: markIntS, markItemS; what they leave alone. -/
namespace Go.Sf
open Go Go.RowKit Go.Proofs
/-- nothing but the blocks in S has changed; new ones may have come -/
def Mod (S : Nat → Prop) (w w' : World) : Prop := (w'.os = w.os ∧ w'.tape = w.tape ∧ w'.output = w.output) ∧ w.heap.size ≤ w'.heap.size ∧ ∀ b, b < w.heap.size → ¬ S b → w'.heap[b]? = w.heap[b]?
section
variable {S S' : Nat → Prop} {w w' w'' w0 : World}
theorem Ext.mod (h : Ext w w') (S : Nat → Prop) : Mod S w w' := ⟨⟨Below.os h, Below.tape h, Below.output h⟩, h.size, fun _ hb _ => h.block hb⟩
theorem Mod.refl (S : Nat → Prop) (w : World) : Mod S w w := (Ext.refl w).mod S
theorem Mod.trans (h : Mod S w w') (k : Mod S w' w'') : Mod S w w'' :=
  ⟨⟨k.1.1.trans h.1.1, k.1.2.1.trans h.1.2.1, k.1.2.2.trans h.1.2.2⟩, Nat.le_trans h.2.1 k.2.1, fun b hb hs => (k.2.2 b (Nat.lt_of_lt_of_le hb h.2.1) hs).trans (h.2.2 b hb hs)⟩
theorem Mod.mono (h : Mod S w w') (hs : ∀ b, S b → S' b) : Mod S' w w' := ⟨h.1, h.2.1, fun b hb hn => h.2.2 b hb fun h => hn (hs b h)⟩
theorem Mod.size (h : Mod S w w') : w.heap.size ≤ w'.heap.size := h.2.1
theorem Mod.keeps {B : Nat} (h : Mod S w w') (hs : ∀ b, S b → b < B) : Keeps B w w' := fun b hB hb => h.2.2 b hb fun k => by have := hs b k; omega
theorem Mod.ext (h : Mod S w w') (h0 : Ext w0 w) (hs : ∀ b, S b → w0.heap.size ≤ b) : Ext w0 w' :=
  ⟨h.1.1.trans (Below.os h0 : w.os = w0.os), h.1.2.1.trans (Below.tape h0 : w.tape = w0.tape), h.1.2.2.trans (Below.output h0 : w.output = w0.output), Nat.le_trans h0.size h.2.1, fun b hb => (h.2.2 b (Nat.lt_of_lt_of_le hb h0.size) (fun k => by have := hs b k; omega)).trans (h0.block hb)⟩
theorem Mod.set {p : Addr} (hp : S p.block) (u : Value) : Mod S w (w.setCell p u) :=
  ⟨⟨rfl, rfl, rfl⟩, by simp [World.setCell], fun k _ hk => Below.heap_setCell w p u k fun e => hk (e ▸ hp)⟩
theorem Mod.blk (h : Mod S w w') {b : Nat} {t : TypeId} {cs : Array Value} (hb : Blk w b t cs) (hs : ¬ S b) : Blk w' b t cs := (h.2.2 b hb.lt hs).trans hb
end
theorem SlIn.mod {α : Type} {B : Nat} {t : TypeId} {sz : Nat} {E E' : World → Array Value → Nat → α → Prop} {S : Nat → Prop} {w w' : World} {A : Option Addr} {c : Nat} {l : List α} (h : SlIn B t sz E w A c l) (hm : Mod S w w')
    (hs : ∀ b o, A = some ⟨b, o, none⟩ → ¬ S b) (hE : ∀ (k : Nat) (x : α) (cs : Array Value) (p : Nat), l[k]? = some x → E w cs p x → E' w' cs p x) : SlIn B t sz E' w' A c l :=
  ⟨h.1, h.2.1, h.2.2.1, fun k x hx => let ⟨b, o, cs, e1, e2, e3, e4⟩ := h.2.2.2 k x hx; ⟨b, o, cs, e1, e2, hm.blk e3 (hs b o e1), hE k x _ _ hx e4⟩⟩
theorem Blk.inj {w : World} {b : Nat} {t t' : TypeId} {cs cs' : Array Value} (h : Blk w b t cs) (h' : Blk w b t' cs') : cs = cs' := by
  unfold Blk at h h'
  rw [h] at h'
  simp only [Option.some.injEq, Obj.cells.injEq] at h'
  exact h'.1
/-- block b holds the ints xs of the slice u -/
def Own (u : Value) (xs : List Int) (b : Nat) : Prop := u.ownBlock = some b ∧ xs ≠ []
theorem Ints.own {B : Nat} {w : World} {u : Value} {xs : List Int} (h : Ints B w u xs) {b : Nat} (ho : Own u xs b) : B ≤ b ∧ ∃ cs, Blk w b 3 cs := by
  obtain ⟨A, c, rfl, -, -, -, h⟩ := h
  obtain ⟨ho, hn⟩ := ho
  cases xs with
  | nil => exact absurd rfl hn
  | cons x xs =>
    obtain ⟨b', o', cs, rfl, h1, h2, -⟩ := h 0 x rfl
    simp only [Value.ownBlock, Option.some.injEq] at ho
    subst ho
    exact ⟨h1, cs, h2⟩
theorem Ints.mod {B : Nat} {S : Nat → Prop} {w w' : World} {u : Value} {xs : List Int} (h : Ints B w u xs) (hm : Mod S w w') (hs : ∀ b, Own u xs b → ¬ S b) : Ints B w' u xs := by
  obtain ⟨A, c, rfl, h⟩ := h
  exact ⟨A, c, rfl, h.1, h.2.1, h.2.2.1, fun k x hx => let ⟨b, o, cs, e1, e2, e3, e4⟩ := h.2.2.2 k x hx; ⟨b, o, cs, e1, e2, hm.blk e3 (hs b ⟨by rw [e1]; rfl, fun e => by rw [e] at hx; simp at hx⟩), e4⟩⟩
/-! ### ints -/
/-! ### items -/
end Go.Sf

/-! Readings with the inner slice told, plain marks, and the walks that mark rows (written by gen_marks.py). -/
namespace Go.Sf
open Go Go.RowKit Go.Proofs
/-! ### impl.Held -/
def EHdU (B : Nat) (w : World) (cs : Array Value) (p : Nat) (q : Hd × Value) : Prop :=
  cs[p]? = some (.int .i64 q.1.id) ∧ inI q.1.id ∧ cs[p + 1]? = some q.2 ∧ cs[p + 2]? = some (.int .i64 q.1.uses) ∧ inI q.1.uses ∧ Ints B w q.2 q.1.bytes
def HdsU (B : Nat) (w : World) (v : Value) (l : List (Hd × Value)) : Prop := SlOf B 31 3 (EHdU B) w v l
theorem EHdU.keepT {B : Nat} {t : TypeId} {w w' : World} {cs : Array Value} {p : Nat} {q : Hd × Value} (h : EHdU B w cs p q) (hk : KeepsT t w w') (ht : 3 ≠ t) : EHdU B w' cs p q :=
  let ⟨y0, g0, y1, y2, g2, hI⟩ := h; ⟨y0, g0, y1, y2, g2, hI.keepT hk ht⟩
theorem EHdU.keep {B B' : Nat} {w w' : World} {cs : Array Value} {p : Nat} {q : Hd × Value} (h : EHdU B w cs p q) (hB : B' ≤ B) (hk : Keeps B w w') : EHdU B' w' cs p q :=
  let ⟨y0, g0, y1, y2, g2, hI⟩ := h; ⟨y0, g0, y1, y2, g2, hI.keep hB hk⟩
theorem EHdU.loc {B : Nat} {w : World} {cs cs' : Array Value} {p p' : Nat} {q : Hd × Value} (h : EHdU B w cs p q) (hj : ∀ j, j < 3 → cs'[p' + j]? = cs[p + j]?) : EHdU B w cs' p' q := by
  obtain ⟨y0, g0, y1, y2, g2, hI⟩ := h
  have j0 := hj 0 (by omega); have j1 := hj 1 (by omega); have j2 := hj 2 (by omega)
  simp only [Nat.add_zero] at j0
  exact ⟨j0.trans y0, g0, j1.trans y1, j2.trans y2, g2, hI⟩
theorem HdsU.plain {B : Nat} {w : World} {v : Value} {lu : List (Hd × Value)} (h : HdsU B w v lu) : Hds B w v (lu.map Prod.fst) := by
  obtain ⟨A, c, rfl, h1, h2, h3, h4⟩ := h
  refine ⟨A, c, by rw [List.length_map], by rw [List.length_map]; exact h1, h2, by rw [List.length_map]; exact h3, fun k x hx => ?_⟩
  rw [List.getElem?_map, Option.map_eq_some_iff] at hx
  obtain ⟨q, hq, rfl⟩ := hx
  obtain ⟨b, o, cs, e1, e2, e3, y0, g0, y1, y2, g2, hI⟩ := h4 k q hq
  exact ⟨b, o, cs, e1, e2, e3, y0, g0, ⟨_, y1, hI⟩, y2, g2⟩
theorem HdsU.keep {B B' : Nat} {w w' : World} {v : Value} {lu : List (Hd × Value)} (h : HdsU B w v lu) (hB : B' ≤ B) (hk : Keeps B w w') : HdsU B' w' v lu := SlOf.mono h hB hk fun _ _ _ e => e.keep hB hk
theorem HdsU.ext {B : Nat} {w w' : World} {v : Value} {lu : List (Hd × Value)} (h : HdsU B w v lu) (e : Ext w w') : HdsU B w' v lu := h.keep (Nat.le_refl _) (e.keeps _)
/-- the blocks that a row of them and their ints lie in -/
def FootHd (v : Value) (l : List (Hd × Value)) (b : Nat) : Prop := (v.ownBlock = some b ∧ l ≠ []) ∨ ∃ q, q ∈ l ∧ Own q.2 q.1.bytes b
end Go.Sf

/-! What was marked is held: items (written by gen_marks.py). -/
namespace Go.Sf
open Go Go.RowKit Go.Proofs
end Go.Sf

/-! Arguments that are changes: how large they are; copies of them. -/
namespace Go.Sf
open Go Go.RowKit Go.Proofs
end Go.Sf
