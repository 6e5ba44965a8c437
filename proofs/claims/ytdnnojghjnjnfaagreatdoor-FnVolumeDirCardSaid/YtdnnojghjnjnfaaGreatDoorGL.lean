/- Arguments from outside, read by their cells alone; what szItemS makes of them. -/
import Derived.Test.YtdnnojghjnjnfaaGreatDoorGC
import Derived.Test.YtdnnojghjnjnfaaGreatDoorGE
import Derived.Laws.MakeOwn
import Derived.Lib.SlBytesRow
/-! Arguments from outside, read by their cells alone; what szItemS makes of them. -/
namespace Go.Sf
open Go Go.RowKit Go.Proofs
/-- a row of elements that are read by cells, sz cells each -/
def ARow {α : Type} (sz : Nat) (E : World → Nat → Nat → α → Prop) (w : World) (A : Option Addr) (c : Nat) (l : List α) : Prop :=
  l.length ≤ c ∧ (c ≤ maxLen ∧ (A = none → c = 0)) ∧ ∀ (k : Nat) (x : α), l[k]? = some x → ∃ b o, A = some ⟨b, o, none⟩ ∧ E w b (o + k * sz) x
def ASl {α : Type} (sz : Nat) (E : World → Nat → Nat → α → Prop) (w : World) (v : Value) (l : List α) : Prop := ∃ A c, v = .slice A l.length c ∧ ARow sz E w A c l
theorem ASl.ext {α : Type} {sz : Nat} {E : World → Nat → Nat → α → Prop} {w w' : World} {v : Value} {l : List α} (h : ASl sz E w v l) (hE : ∀ b p x, E w b p x → E w' b p x) : ASl sz E w' v l :=
  let ⟨A, c, h1, h2, h3, h4⟩ := h; ⟨A, c, h1, h2, h3, fun k x hx => let ⟨b, o, e1, e2⟩ := h4 k x hx; ⟨b, o, e1, hE _ _ _ e2⟩⟩
/-- an int of an argument -/
def AInt (w : World) (b p : Nat) (x : Int) : Prop := w.cell? ⟨b, p, none⟩ = some (.int .i64 x) ∧ inI x
def AInts (w : World) (v : Value) (xs : List Int) : Prop := ASl 1 AInt w v xs
theorem AInts.ext {w w' : World} {v : Value} {xs : List Int} (h : AInts w v xs) (e : Ext w w') : AInts w' v xs := ASl.ext h fun _ _ _ ⟨h1, h2⟩ => ⟨e.cell h1, h2⟩
/-- what is left of a bound, or -1 -/
def dec (left : Int) (n : Nat) : Int := if left < n then -1 else left - n
theorem dec_neg {left : Int} {n : Nat} (h : left < n) : dec left n = -1 := if_pos h
theorem dec_pos {left : Int} {n : Nat} (h : ¬ left < n) : dec left n = left - n := if_neg h
theorem dec_le {left : Int} {n : Nat} (h0 : 0 ≤ left) (h1 : left ≤ 1048576) : dec left n ≤ 1048576 := by unfold dec; split <;> omega
theorem dec_dec {left : Int} {a b : Nat} (h : ¬ left < a) : dec (dec left a) b = dec left (a + b) := by
  rw [dec_pos h]; unfold dec
  by_cases h2 : left < ((a + b : Nat) : Int)
  · rw [if_pos h2, if_pos (by omega)]
  · rw [if_neg h2, if_neg (by omega)]; omega
theorem dec_more {left : Int} {a b : Nat} (h : left < a) : dec left (a + b) = -1 := dec_neg (by omega)
/-! ### items -/
end Go.Sf

/-! Copies of arguments: toIntS, toItem, toItemS make memory of the call's own, each row apart. -/
namespace Go.Sf
open Go Go.RowKit Go.Proofs
/-- `make([]T, n)`: a row of n elements, whatever they are -/
theorem run_mk {P : Program} {T t : TypeId} {sz : Nat} (el : Elem P T t sz) (n : Nat) (hn : n ≤ lim) : ∃ cs : Array Value, cs.size = n * sz ∧
    ∀ W, (Instr.makeSlice T (.int .i64 n) (.int .i64 n)).run P W = .ok (.slice (some ⟨W.heap.size, 0, none⟩) n n) (W.alloc (.cells cs t)) := by
  obtain ⟨i, z, by_, hi, hz, hsz, hby, hb128, hzs⟩ := el.info
  refine ⟨madeCells z.cells (n * i.size), by rw [size_madeCells, hsz], fun W => ?_⟩
  have hm : by_ * n ≤ 128 * n := Nat.mul_le_mul_right _ hb128
  unfold lim at hn
  have := run_make (P := P) W T t i z el.under hi hz .i64 .i64 n n (by omega) (Int.le_refl _) (by rw [hby]; rw [← Int.natCast_mul]; omega) (by omega)
  simpa using this
/-- a row of one's own: the cells ahead of k are the list's -/
def RowTo (w : World) (g : Nat) (n : Nat) (l : List Int) (k : Nat) : Prop := ∃ cs : Array Value, Blk w g 3 cs ∧ cs.size = n ∧ ∀ i x, i < k → l[i]? = some x → cs[i]? = some (.int .i64 x)
theorem RowTo.put {w W : World} {g n k : Nat} {l : List Int} {x : Int} (h : RowTo w g n l k) (e : Ext w W) (hx : l[k]? = some x) (hk : k < n) : RowTo (W.setCell ⟨g, k, none⟩ (.int .i64 x)) g n l (k + 1) := by
  obtain ⟨cs, h1, h2, h3⟩ := h
  refine ⟨_, (h1.ext e).set_ k (.int .i64 x), by simpa using h2, fun i y hi hy => ?_⟩
  rw [Array.getElem?_setIfInBounds]
  by_cases hik : k = i
  · subst hik
    rw [hx] at hy
    rw [if_pos rfl, if_pos (by omega), Option.some.inj hy]
  · rw [if_neg hik]; exact h3 i y (by omega) hy
/-- a slice in a block that the call laid -/
def NewIn (w w' : World) (u : Value) : Prop := ∃ g, u.ownBlock = some g ∧ w.heap.size ≤ g ∧ g < w'.heap.size
/-- an item whose slice of ids is told, too -/
def EItU (B : Nat) (w : World) (cs : Array Value) (p : Nat) (q : It × Value) : Prop :=
  cs[p]? = some (.string q.1.path) ∧ q.1.path.size < lim ∧ cs[p + 1]? = some (.bool q.1.dir) ∧ cs[p + 2]? = some q.2 ∧ Ints B w q.2 q.1.ids
def ItsU (B : Nat) (w : World) (v : Value) (l : List (It × Value)) : Prop := SlOf B 47 3 (EItU B) w v l
/-- no two of them share their ints -/
def Sep {α : Type} (l : List (α × Value)) : Prop := l.Pairwise fun a b => ∀ g, a.2.ownBlock = some g → b.2.ownBlock ≠ some g
theorem Sep.snoc {α : Type} {l : List (α × Value)} {q : α × Value} (h : Sep l) (hq : ∀ p, p ∈ l → ∀ g, p.2.ownBlock = some g → q.2.ownBlock ≠ some g) : Sep (l ++ [q]) := by
  unfold Sep at h ⊢
  rw [List.pairwise_append]
  exact ⟨h, List.pairwise_singleton _ _, fun a ha b hb => by rw [List.mem_singleton] at hb; subst hb; exact hq a ha⟩
theorem EItU.keepT {B : Nat} {t : TypeId} {w w' : World} {cs : Array Value} {p : Nat} {q : It × Value} (h : EItU B w cs p q) (hk : KeepsT t w w') (ht : 3 ≠ t) : EItU B w' cs p q :=
  let ⟨h1, h2, h3, h4, h5⟩ := h; ⟨h1, h2, h3, h4, h5.keepT hk ht⟩
theorem EItU.keep {B B' : Nat} {w w' : World} {cs : Array Value} {p : Nat} {q : It × Value} (h : EItU B w cs p q) (hB : B' ≤ B) (hk : Keeps B w w') : EItU B' w' cs p q :=
  let ⟨h1, h2, h3, h4, h5⟩ := h; ⟨h1, h2, h3, h4, h5.keep hB hk⟩
theorem EItU.loc {B : Nat} {w : World} {cs cs' : Array Value} {p p' : Nat} {q : It × Value} (h : EItU B w cs p q) (hj : ∀ j, j < 3 → cs'[p' + j]? = cs[p + j]?) : EItU B w cs' p' q := by
  obtain ⟨h1, h2, h3, h4, h5⟩ := h
  have j0 := hj 0 (by omega); have j1 := hj 1 (by omega); have j2 := hj 2 (by omega)
  simp only [Nat.add_zero] at j0
  exact ⟨j0.trans h1, h2, j1.trans h3, j2.trans h4, h5⟩
theorem EItU_ok (B : Nat) : ElOk 47 3 (EItU B) := ⟨fun _ _ _ _ _ hk h => h.keepT hk (by decide), fun _ _ _ _ _ _ hj h => h.loc hj, fun _ _ _ _ ⟨h1, _, h3, h4, h5⟩ j hj => match j, hj with
  | 0, _ => ⟨_, h1, rfl⟩
  | 1, _ => ⟨_, h3, rfl⟩
  | 2, _ => ⟨_, h4, h5.one⟩⟩
theorem ItsU.its {B : Nat} {w : World} {v : Value} {lu : List (It × Value)} (h : ItsU B w v lu) : Its B w v (lu.map Prod.fst) := by
  obtain ⟨A, c, rfl, h1, h2, h3, h4⟩ := h
  refine ⟨A, c, by rw [List.length_map], by rw [List.length_map]; exact h1, h2, by rw [List.length_map]; exact h3, fun k x hx => ?_⟩
  rw [List.getElem?_map, Option.map_eq_some_iff] at hx
  obtain ⟨q, hq, rfl⟩ := hx
  obtain ⟨b, o, cs, e1, e2, e3, f1, f2, f3, f4, f5⟩ := h4 k q hq
  exact ⟨b, o, cs, e1, e2, e3, f1, f2, f3, ⟨_, f4, f5⟩⟩
theorem ItsU.keep {B B' : Nat} {w w' : World} {v : Value} {lu : List (It × Value)} (h : ItsU B w v lu) (hB : B' ≤ B) (hk : Keeps B w w') : ItsU B' w' v lu := SlOf.mono h hB hk fun _ _ _ e => e.keep hB hk
theorem ItsU.ext {B : Nat} {w w' : World} {v : Value} {lu : List (It × Value)} (h : ItsU B w v lu) (e : Ext w w') : ItsU B w' v lu := h.keep (Nat.le_refl _) (e.keeps _)
end Go.Sf

/-! The marks that the exact laws write: their texts. -/
namespace Go.Sf
open Go Go.RowKit Go.Proofs
def decs : Nat → Nat → ByteArray → ByteArray
  | 0, _, s => s
  | f + 1, n, s => if n = 0 then s else decs f (n / 10) ((⟨#[UInt8.ofNat (48 + n % 10)]⟩ : ByteArray) ++ s)
/-- the text of a mark -/
def mt (k : Int) : ByteArray := if k ≤ 0 then ⟨#[109, 48]⟩ else (⟨#[109]⟩ : ByteArray) ++ decs 20 k.toNat ⟨#[]⟩
theorem decs_size : ∀ (f n : Nat) (s : ByteArray), (decs f n s).size ≤ s.size + f := by
  intro f
  induction f with
  | zero => intro n s; exact Nat.le_refl _
  | succ f ih =>
    intro n s
    rw [decs]
    split
    · omega
    · refine Nat.le_trans (ih _ _) ?_
      simp only [ByteArray.size_append]
      show 1 + s.size + f ≤ _
      omega
theorem mt_size (k : Int) : (mt k).size < lim := by
  unfold mt lim
  split
  · show 2 < _; omega
  · have := decs_size 20 k.toNat ⟨#[]⟩
    simp only [ByteArray.size_append]
    show 1 + _ < _
    have h0 : (⟨#[]⟩ : ByteArray).size = 0 := rfl
    omega
theorem decs_zero (f : Nat) (t : ByteArray) : decs f 0 t = t := by cases f <;> rfl
end Go.Sf

/-! Rows of the call's own are marked: markIntS, markItemS; what they leave alone. -/
namespace Go.Sf
open Go Go.RowKit Go.Proofs
/-- nothing but the blocks in S has changed; new ones may have come -/
def Mod (S : Nat → Prop) (w w' : World) : Prop := (w'.os = w.os ∧ w'.tape = w.tape ∧ w'.output = w.output) ∧ w.heap.size ≤ w'.heap.size ∧ ∀ b, b < w.heap.size → ¬ S b → w'.heap[b]? = w.heap[b]?
section
variable {S S' : Nat → Prop} {w w' w'' w0 : World}
theorem Ext.mod (h : Ext w w') (S : Nat → Prop) : Mod S w w' := ⟨⟨Below.os h, Below.tape h, Below.output h⟩, h.size, fun _ hb _ => h.block hb⟩
theorem Mod.refl (S : Nat → Prop) (w : World) : Mod S w w := (Ext.refl w).mod S
theorem Mod.trans (h : Mod S w w') (k : Mod S w' w'') : Mod S w w'' :=
  ⟨⟨k.1.1.trans h.1.1, k.1.2.1.trans h.1.2.1, k.1.2.2.trans h.1.2.2⟩, Nat.le_trans h.2.1 k.2.1, fun b hb hs => (k.2.2 b (Nat.lt_of_lt_of_le hb h.2.1) hs).trans (h.2.2 b hb hs)⟩
theorem Mod.mono (h : Mod S w w') (hs : ∀ b, S b → S' b) : Mod S' w w' := ⟨h.1, h.2.1, fun b hb hn => h.2.2 b hb fun h => hn (hs b h)⟩
theorem Mod.size (h : Mod S w w') : w.heap.size ≤ w'.heap.size := h.2.1
theorem Mod.keeps {B : Nat} (h : Mod S w w') (hs : ∀ b, S b → b < B) : Keeps B w w' := fun b hB hb => h.2.2 b hb fun k => by have := hs b k; omega
theorem Mod.ext (h : Mod S w w') (h0 : Ext w0 w) (hs : ∀ b, S b → w0.heap.size ≤ b) : Ext w0 w' :=
  ⟨h.1.1.trans (Below.os h0 : w.os = w0.os), h.1.2.1.trans (Below.tape h0 : w.tape = w0.tape), h.1.2.2.trans (Below.output h0 : w.output = w0.output), Nat.le_trans h0.size h.2.1, fun b hb => (h.2.2 b (Nat.lt_of_lt_of_le hb h0.size) (fun k => by have := hs b k; omega)).trans (h0.block hb)⟩
theorem Mod.set {p : Addr} (hp : S p.block) (u : Value) : Mod S w (w.setCell p u) :=
  ⟨⟨rfl, rfl, rfl⟩, by simp [World.setCell], fun k _ hk => Below.heap_setCell w p u k fun e => hk (e ▸ hp)⟩
theorem Mod.blk (h : Mod S w w') {b : Nat} {t : TypeId} {cs : Array Value} (hb : Blk w b t cs) (hs : ¬ S b) : Blk w' b t cs := (h.2.2 b hb.lt hs).trans hb
end
theorem SlIn.mod {α : Type} {B : Nat} {t : TypeId} {sz : Nat} {E E' : World → Array Value → Nat → α → Prop} {S : Nat → Prop} {w w' : World} {A : Option Addr} {c : Nat} {l : List α} (h : SlIn B t sz E w A c l) (hm : Mod S w w')
    (hs : ∀ b o, A = some ⟨b, o, none⟩ → ¬ S b) (hE : ∀ (k : Nat) (x : α) (cs : Array Value) (p : Nat), l[k]? = some x → E w cs p x → E' w' cs p x) : SlIn B t sz E' w' A c l :=
  ⟨h.1, h.2.1, h.2.2.1, fun k x hx => let ⟨b, o, cs, e1, e2, e3, e4⟩ := h.2.2.2 k x hx; ⟨b, o, cs, e1, e2, hm.blk e3 (hs b o e1), hE k x _ _ hx e4⟩⟩
theorem Blk.inj {w : World} {b : Nat} {t t' : TypeId} {cs cs' : Array Value} (h : Blk w b t cs) (h' : Blk w b t' cs') : cs = cs' := by
  unfold Blk at h h'
  rw [h] at h'
  simp only [Option.some.injEq, Obj.cells.injEq] at h'
  exact h'.1
/-- block b holds the ints xs of the slice u -/
def Own (u : Value) (xs : List Int) (b : Nat) : Prop := u.ownBlock = some b ∧ xs ≠ []
theorem Ints.own {B : Nat} {w : World} {u : Value} {xs : List Int} (h : Ints B w u xs) {b : Nat} (ho : Own u xs b) : B ≤ b ∧ ∃ cs, Blk w b 3 cs := by
  obtain ⟨A, c, rfl, -, -, -, h⟩ := h
  obtain ⟨ho, hn⟩ := ho
  cases xs with
  | nil => exact absurd rfl hn
  | cons x xs =>
    obtain ⟨b', o', cs, rfl, h1, h2, -⟩ := h 0 x rfl
    simp only [Value.ownBlock, Option.some.injEq] at ho
    subst ho
    exact ⟨h1, cs, h2⟩
theorem Ints.mod {B : Nat} {S : Nat → Prop} {w w' : World} {u : Value} {xs : List Int} (h : Ints B w u xs) (hm : Mod S w w') (hs : ∀ b, Own u xs b → ¬ S b) : Ints B w' u xs := by
  obtain ⟨A, c, rfl, h⟩ := h
  exact ⟨A, c, rfl, h.1, h.2.1, h.2.2.1, fun k x hx => let ⟨b, o, cs, e1, e2, e3, e4⟩ := h.2.2.2 k x hx; ⟨b, o, cs, e1, e2, hm.blk e3 (hs b ⟨by rw [e1]; rfl, fun e => by rw [e] at hx; simp at hx⟩), e4⟩⟩
/-- one element of a row turns -/
theorem SlIn.upd {α : Type} {B : Nat} {t : TypeId} {sz : Nat} {E : World → Array Value → Nat → α → Prop} {w w' : World} {b o c j : Nat} {L : List α} {x y : α} (h : SlIn B t sz E w (some ⟨b, o, none⟩) c L) (hj : L[j]? = some x)
    (hw : ∀ cs, Blk w b t cs → E w cs (o + j * sz) x → ∃ cs', Blk w' b t cs' ∧ E w' cs' (o + j * sz) y ∧ ∀ i z, i ≠ j → L[i]? = some z → E w cs (o + i * sz) z → E w' cs' (o + i * sz) z) :
    SlIn B t sz E w' (some ⟨b, o, none⟩) c (L.set j y) := by
  obtain ⟨h1, h2, h3, h4⟩ := h
  obtain ⟨b', o', cs, e1, hB, hb, he⟩ := h4 j x hj
  simp only [Option.some.injEq, Addr.mk.injEq, and_true] at e1
  obtain ⟨rfl, rfl⟩ := e1
  obtain ⟨cs', hb', hy, hz⟩ := hw cs hb he
  refine ⟨by simpa using h1, h2, by simpa using h3, fun k z hk => ⟨b, o, cs', rfl, hB, hb', ?_⟩⟩
  rw [List.getElem?_set] at hk
  by_cases hjk : j = k
  · subst hjk
    rw [if_pos rfl, if_pos (lt_of_get hj)] at hk
    rw [← Option.some.inj hk]; exact hy
  · rw [if_neg hjk] at hk
    obtain ⟨b2, o2, cs2, e2, -, hb2, he2⟩ := h4 k z hk
    simp only [Option.some.injEq, Addr.mk.injEq, and_true] at e2
    obtain ⟨rfl, rfl⟩ := e2
    have : cs2 = cs := by
      unfold Blk at hb hb2
      rw [hb] at hb2
      simp only [Option.some.injEq, Obj.cells.injEq] at hb2
      exact hb2.1.symm
    subst this
    exact hz k z (fun e => hjk e.symm) hk he2
theorem set_mid {α : Type} {a r : List α} {x y : α} {j : Nat} (hj : a.length = j) : (a ++ x :: r).set j y = a ++ y :: r := by
  rw [List.set_append_right _ _ (by omega), hj, Nat.sub_self]; rfl
/-! ### ints -/
def mkInts (k : Int) (n : Nat) : List Int := (List.range n).map fun i => k + (i : Nat)
theorem mkInts_len (k : Int) (n : Nat) : (mkInts k n).length = n := by simp [mkInts]
theorem mkInts_succ (k : Int) (n : Nat) : mkInts k (n + 1) = mkInts k n ++ [k + (n : Nat)] := by simp [mkInts, List.range_succ]
/-! ### items -/
def wIt (x : It) : Nat := 2 + x.ids.length
def cIts (l : List It) : Nat := (l.map wIt).sum
def mkIt (k : Int) (x : It) : It := ⟨mt k, ((k + 1) % 3 == 0), mkInts (k + 1 + 1) x.ids.length⟩
def mkItsU : Int → List (It × Value) → List (It × Value)
  | _, [] => []
  | k, q :: r => (mkIt k q.1, q.2) :: mkItsU (k + (wIt q.1 : Nat)) r
def mkIts : Int → List It → List It
  | _, [] => []
  | k, x :: r => mkIt k x :: mkIts (k + (wIt x : Nat)) r
theorem mkItsU_fst : ∀ (k : Int) (l : List (It × Value)), (mkItsU k l).map Prod.fst = mkIts k (l.map Prod.fst) := by
  intro k l
  induction l generalizing k with
  | nil => rfl
  | cons q r ih => rw [mkItsU, List.map_cons, List.map_cons, mkIts, ih]
theorem mkItsU_len (k : Int) (l : List (It × Value)) : (mkItsU k l).length = l.length := by
  induction l generalizing k with
  | nil => rfl
  | cons q r ih => rw [mkItsU, List.length_cons, List.length_cons, ih]
theorem mkItsU_snd (k : Int) (l : List (It × Value)) : (mkItsU k l).map Prod.snd = l.map Prod.snd := by
  induction l generalizing k with
  | nil => rfl
  | cons q r ih => rw [mkItsU, List.map_cons, List.map_cons, ih]
theorem mkItsU_snoc (k : Int) (l : List (It × Value)) (q : It × Value) : mkItsU k (l ++ [q]) = mkItsU k l ++ [(mkIt (k + (cIts (l.map Prod.fst) : Nat)) q.1, q.2)] := by
  induction l generalizing k with
  | nil => simp [mkItsU, cIts]
  | cons p r ih =>
    rw [List.cons_append, mkItsU, ih, mkItsU, List.cons_append]
    have e : k + (wIt p.1 : Nat) + (cIts (r.map Prod.fst) : Nat) = k + (cIts ((p :: r).map Prod.fst) : Nat) := by
      simp only [cIts, List.map_cons, List.sum_cons, Int.natCast_add]; omega
    rw [e]
theorem cIts_take {l : List It} {j : Nat} {x : It} (h : l[j]? = some x) : cIts (l.take (j + 1)) = cIts (l.take j) + wIt x := by
  unfold cIts; rw [List.take_add_one, h]; simp
theorem cIts_take_le (l : List It) (j : Nat) : cIts (l.take j) ≤ cIts l := by
  unfold cIts
  conv => rhs; rw [← List.take_append_drop j l]
  rw [List.map_append, List.sum_append]; omega
/-- the blocks that a row of items and their ids lie in -/
def FootIt (v : Value) (l : List (It × Value)) (b : Nat) : Prop := (v.ownBlock = some b ∧ l ≠ []) ∨ ∃ q, q ∈ l ∧ Own q.2 q.1.ids b
theorem ItsU.foot {B : Nat} {w : World} {v : Value} {l : List (It × Value)} (h : ItsU B w v l) {b : Nat} (hf : FootIt v l b) : B ≤ b ∧ b < w.heap.size := by
  obtain ⟨A, c, rfl, -, -, -, h⟩ := h
  rcases hf with ⟨ho, hn⟩ | ⟨q, hq, ho⟩
  · cases l with
    | nil => exact absurd rfl hn
    | cons x xs =>
      obtain ⟨b', o', cs, rfl, h1, h2, -⟩ := h 0 x rfl
      simp only [Value.ownBlock, Option.some.injEq] at ho
      subst ho
      exact ⟨h1, h2.lt⟩
  · obtain ⟨k, hk⟩ := List.mem_iff_getElem?.1 hq
    obtain ⟨b', o', cs, -, -, -, -, -, -, -, hi⟩ := h k q hk
    obtain ⟨h1, cs', h2⟩ := hi.own ho
    exact ⟨h1, h2.lt⟩
theorem Sep.ne {α : Type} {l : List (α × Value)} (h : Sep l) {i j : Nat} {p q : α × Value} (hi : l[i]? = some p) (hj : l[j]? = some q) (hij : i ≠ j) {g : Nat} (hg : p.2.ownBlock = some g) : q.2.ownBlock ≠ some g := by
  unfold Sep at h
  rw [List.pairwise_iff_getElem] at h
  have h1 := lt_of_get hi; have h2 := lt_of_get hj
  rw [List.getElem?_eq_getElem h1] at hi
  rw [List.getElem?_eq_getElem h2] at hj
  rcases Nat.lt_or_ge i j with hlt | hge
  · have := h i j h1 h2 hlt g
    rw [Option.some.inj hi, Option.some.inj hj] at this
    exact this hg
  · intro hq
    have := h j i h2 h1 (by omega) g
    rw [Option.some.inj hi, Option.some.inj hj] at this
    exact this hq hg
end Go.Sf

/-! Readings with the inner slice told, plain marks, and the walks that mark rows (written by gen_marks.py). -/
namespace Go.Sf
open Go Go.RowKit Go.Proofs
/-! ### impl.Change -/
def EChU (B : Nat) (w : World) (cs : Array Value) (p : Nat) (q : Ch × Value) : Prop :=
  cs[p]? = some (.int .i64 q.1.kind) ∧ inI q.1.kind ∧ cs[p + 1]? = some (.string q.1.item.path) ∧ q.1.item.path.size < lim ∧ cs[p + 2]? = some (.bool q.1.item.dir) ∧ cs[p + 3]? = some q.2 ∧ Ints B w q.2 q.1.item.ids
def ChsU (B : Nat) (w : World) (v : Value) (l : List (Ch × Value)) : Prop := SlOf B 131 4 (EChU B) w v l
theorem EChU.keepT {B : Nat} {t : TypeId} {w w' : World} {cs : Array Value} {p : Nat} {q : Ch × Value} (h : EChU B w cs p q) (hk : KeepsT t w w') (ht : 3 ≠ t) : EChU B w' cs p q :=
  let ⟨y0, g0, y1, g1, y2, y3, hI⟩ := h; ⟨y0, g0, y1, g1, y2, y3, hI.keepT hk ht⟩
theorem EChU.keep {B B' : Nat} {w w' : World} {cs : Array Value} {p : Nat} {q : Ch × Value} (h : EChU B w cs p q) (hB : B' ≤ B) (hk : Keeps B w w') : EChU B' w' cs p q :=
  let ⟨y0, g0, y1, g1, y2, y3, hI⟩ := h; ⟨y0, g0, y1, g1, y2, y3, hI.keep hB hk⟩
theorem EChU.loc {B : Nat} {w : World} {cs cs' : Array Value} {p p' : Nat} {q : Ch × Value} (h : EChU B w cs p q) (hj : ∀ j, j < 4 → cs'[p' + j]? = cs[p + j]?) : EChU B w cs' p' q := by
  obtain ⟨y0, g0, y1, g1, y2, y3, hI⟩ := h
  have j0 := hj 0 (by omega); have j1 := hj 1 (by omega); have j2 := hj 2 (by omega); have j3 := hj 3 (by omega)
  simp only [Nat.add_zero] at j0
  exact ⟨j0.trans y0, g0, j1.trans y1, g1, j2.trans y2, j3.trans y3, hI⟩
theorem EChU_ok (B : Nat) : ElOk 131 4 (EChU B) := ⟨fun _ _ _ _ _ hk h => h.keepT hk (by decide), fun _ _ _ _ _ _ hj h => h.loc hj, fun _ _ _ _ ⟨y0, _, y1, _, y2, y3, hI⟩ j hj => match j, hj with
  | 0, _ => ⟨_, y0, rfl⟩
  | 1, _ => ⟨_, y1, rfl⟩
  | 2, _ => ⟨_, y2, rfl⟩
  | 3, _ => ⟨_, y3, hI.one⟩⟩
theorem ChsU.plain {B : Nat} {w : World} {v : Value} {lu : List (Ch × Value)} (h : ChsU B w v lu) : Chs B w v (lu.map Prod.fst) := by
  obtain ⟨A, c, rfl, h1, h2, h3, h4⟩ := h
  refine ⟨A, c, by rw [List.length_map], by rw [List.length_map]; exact h1, h2, by rw [List.length_map]; exact h3, fun k x hx => ?_⟩
  rw [List.getElem?_map, Option.map_eq_some_iff] at hx
  obtain ⟨q, hq, rfl⟩ := hx
  obtain ⟨b, o, cs, e1, e2, e3, y0, g0, y1, g1, y2, y3, hI⟩ := h4 k q hq
  exact ⟨b, o, cs, e1, e2, e3, y0, g0, y1, g1, y2, ⟨_, y3, hI⟩⟩
theorem ChsU.keep {B B' : Nat} {w w' : World} {v : Value} {lu : List (Ch × Value)} (h : ChsU B w v lu) (hB : B' ≤ B) (hk : Keeps B w w') : ChsU B' w' v lu := SlOf.mono h hB hk fun _ _ _ e => e.keep hB hk
theorem ChsU.ext {B : Nat} {w w' : World} {v : Value} {lu : List (Ch × Value)} (h : ChsU B w v lu) (e : Ext w w') : ChsU B w' v lu := h.keep (Nat.le_refl _) (e.keeps _)
def wCh (x : Ch) : Nat := 3 + x.item.ids.length
def cChs (l : List Ch) : Nat := (l.map wCh).sum
def mkCh (k : Int) (x : Ch) : Ch := ⟨k, ⟨mt (k + 1), ((k + 1 + 1) % 3 == 0), mkInts (k + 1 + 1 + 1) x.item.ids.length⟩⟩
def mkChsU : Int → List (Ch × Value) → List (Ch × Value)
  | _, [] => []
  | k, q :: r => (mkCh k q.1, q.2) :: mkChsU (k + (wCh q.1 : Nat)) r
def mkChs : Int → List Ch → List Ch
  | _, [] => []
  | k, x :: r => mkCh k x :: mkChs (k + (wCh x : Nat)) r
theorem mkChsU_fst : ∀ (k : Int) (l : List (Ch × Value)), (mkChsU k l).map Prod.fst = mkChs k (l.map Prod.fst) := by
  intro k l
  induction l generalizing k with
  | nil => rfl
  | cons q r ih => rw [mkChsU, List.map_cons, List.map_cons, mkChs, ih]
theorem mkChsU_len (k : Int) (l : List (Ch × Value)) : (mkChsU k l).length = l.length := by
  induction l generalizing k with
  | nil => rfl
  | cons q r ih => rw [mkChsU, List.length_cons, List.length_cons, ih]
theorem mkChsU_snd (k : Int) (l : List (Ch × Value)) : (mkChsU k l).map Prod.snd = l.map Prod.snd := by
  induction l generalizing k with
  | nil => rfl
  | cons q r ih => rw [mkChsU, List.map_cons, List.map_cons, ih]
theorem mkChsU_snoc (k : Int) (l : List (Ch × Value)) (q : Ch × Value) : mkChsU k (l ++ [q]) = mkChsU k l ++ [(mkCh (k + (cChs (l.map Prod.fst) : Nat)) q.1, q.2)] := by
  induction l generalizing k with
  | nil => simp [mkChsU, cChs]
  | cons p r ih =>
    rw [List.cons_append, mkChsU, ih, mkChsU, List.cons_append]
    have e : k + (wCh p.1 : Nat) + (cChs (r.map Prod.fst) : Nat) = k + (cChs ((p :: r).map Prod.fst) : Nat) := by
      simp only [cChs, List.map_cons, List.sum_cons, Int.natCast_add]; omega
    rw [e]
theorem mkChs_len (k : Int) (l : List Ch) : (mkChs k l).length = l.length := by
  induction l generalizing k with
  | nil => rfl
  | cons q r ih => rw [mkChs, List.length_cons, List.length_cons, ih]
theorem mkChs_get {k : Int} {l : List Ch} {j : Nat} {x : Ch} (h : l[j]? = some x) : (mkChs k l)[j]? = some (mkCh (k + (cChs (l.take j) : Nat)) x) := by
  induction l generalizing k j with
  | nil => simp at h
  | cons p r ih =>
    cases j with
    | zero => simp at h; subst h; simp [mkChs, cChs]
    | succ j =>
      rw [List.getElem?_cons_succ] at h
      rw [mkChs, List.getElem?_cons_succ, ih h]
      have e : k + (wCh p : Nat) + (cChs (r.take j) : Nat) = k + (cChs ((p :: r).take (j + 1)) : Nat) := by
        simp only [cChs, List.take_succ_cons, List.map_cons, List.sum_cons, Int.natCast_add]; omega
      rw [e]
theorem cChs_take {l : List Ch} {j : Nat} {x : Ch} (h : l[j]? = some x) : cChs (l.take (j + 1)) = cChs (l.take j) + wCh x := by
  unfold cChs; rw [List.take_add_one, h]; simp
theorem cChs_take_le (l : List Ch) (j : Nat) : cChs (l.take j) ≤ cChs l := by
  unfold cChs
  conv => rhs; rw [← List.take_append_drop j l]
  rw [List.map_append, List.sum_append]; omega
/-- the blocks that a row of them and their ints lie in -/
def FootCh (v : Value) (l : List (Ch × Value)) (b : Nat) : Prop := (v.ownBlock = some b ∧ l ≠ []) ∨ ∃ q, q ∈ l ∧ Own q.2 q.1.item.ids b
theorem ChsU.foot {B : Nat} {w : World} {v : Value} {l : List (Ch × Value)} (h : ChsU B w v l) {b : Nat} (hf : FootCh v l b) : B ≤ b ∧ b < w.heap.size := by
  obtain ⟨A, c, rfl, -, -, -, h⟩ := h
  rcases hf with ⟨ho, hn⟩ | ⟨q, hq, ho⟩
  · cases l with
    | nil => exact absurd rfl hn
    | cons x xs =>
      obtain ⟨b', o', cs, rfl, h1, h2, -⟩ := h 0 x rfl
      simp only [Value.ownBlock, Option.some.injEq] at ho
      subst ho
      exact ⟨h1, h2.lt⟩
  · obtain ⟨k, hk⟩ := List.mem_iff_getElem?.1 hq
    obtain ⟨b', o', cs, -, -, -, -, -, -, -, -, -, hI⟩ := h k q hk
    obtain ⟨h1, cs', h2⟩ := hI.own ho
    exact ⟨h1, h2.lt⟩
/-! ### impl.Held -/
def EHdU (B : Nat) (w : World) (cs : Array Value) (p : Nat) (q : Hd × Value) : Prop :=
  cs[p]? = some (.int .i64 q.1.id) ∧ inI q.1.id ∧ cs[p + 1]? = some q.2 ∧ cs[p + 2]? = some (.int .i64 q.1.uses) ∧ inI q.1.uses ∧ Ints B w q.2 q.1.bytes
def HdsU (B : Nat) (w : World) (v : Value) (l : List (Hd × Value)) : Prop := SlOf B 45 3 (EHdU B) w v l
theorem EHdU.keepT {B : Nat} {t : TypeId} {w w' : World} {cs : Array Value} {p : Nat} {q : Hd × Value} (h : EHdU B w cs p q) (hk : KeepsT t w w') (ht : 3 ≠ t) : EHdU B w' cs p q :=
  let ⟨y0, g0, y1, y2, g2, hI⟩ := h; ⟨y0, g0, y1, y2, g2, hI.keepT hk ht⟩
theorem EHdU.keep {B B' : Nat} {w w' : World} {cs : Array Value} {p : Nat} {q : Hd × Value} (h : EHdU B w cs p q) (hB : B' ≤ B) (hk : Keeps B w w') : EHdU B' w' cs p q :=
  let ⟨y0, g0, y1, y2, g2, hI⟩ := h; ⟨y0, g0, y1, y2, g2, hI.keep hB hk⟩
theorem EHdU.loc {B : Nat} {w : World} {cs cs' : Array Value} {p p' : Nat} {q : Hd × Value} (h : EHdU B w cs p q) (hj : ∀ j, j < 3 → cs'[p' + j]? = cs[p + j]?) : EHdU B w cs' p' q := by
  obtain ⟨y0, g0, y1, y2, g2, hI⟩ := h
  have j0 := hj 0 (by omega); have j1 := hj 1 (by omega); have j2 := hj 2 (by omega)
  simp only [Nat.add_zero] at j0
  exact ⟨j0.trans y0, g0, j1.trans y1, j2.trans y2, g2, hI⟩
theorem EHdU_ok (B : Nat) : ElOk 45 3 (EHdU B) := ⟨fun _ _ _ _ _ hk h => h.keepT hk (by decide), fun _ _ _ _ _ _ hj h => h.loc hj, fun _ _ _ _ ⟨y0, _, y1, y2, _, hI⟩ j hj => match j, hj with
  | 0, _ => ⟨_, y0, rfl⟩
  | 1, _ => ⟨_, y1, hI.one⟩
  | 2, _ => ⟨_, y2, rfl⟩⟩
theorem HdsU.plain {B : Nat} {w : World} {v : Value} {lu : List (Hd × Value)} (h : HdsU B w v lu) : Hds B w v (lu.map Prod.fst) := by
  obtain ⟨A, c, rfl, h1, h2, h3, h4⟩ := h
  refine ⟨A, c, by rw [List.length_map], by rw [List.length_map]; exact h1, h2, by rw [List.length_map]; exact h3, fun k x hx => ?_⟩
  rw [List.getElem?_map, Option.map_eq_some_iff] at hx
  obtain ⟨q, hq, rfl⟩ := hx
  obtain ⟨b, o, cs, e1, e2, e3, y0, g0, y1, y2, g2, hI⟩ := h4 k q hq
  exact ⟨b, o, cs, e1, e2, e3, y0, g0, ⟨_, y1, hI⟩, y2, g2⟩
theorem HdsU.keep {B B' : Nat} {w w' : World} {v : Value} {lu : List (Hd × Value)} (h : HdsU B w v lu) (hB : B' ≤ B) (hk : Keeps B w w') : HdsU B' w' v lu := SlOf.mono h hB hk fun _ _ _ e => e.keep hB hk
theorem HdsU.ext {B : Nat} {w w' : World} {v : Value} {lu : List (Hd × Value)} (h : HdsU B w v lu) (e : Ext w w') : HdsU B w' v lu := h.keep (Nat.le_refl _) (e.keeps _)
def wHd (x : Hd) : Nat := 2 + x.bytes.length
def cHds (l : List Hd) : Nat := (l.map wHd).sum
def mkHd (k : Int) (x : Hd) : Hd := ⟨k, mkInts (k + 1) x.bytes.length, k + 1 + (x.bytes.length : Nat)⟩
def mkHdsU : Int → List (Hd × Value) → List (Hd × Value)
  | _, [] => []
  | k, q :: r => (mkHd k q.1, q.2) :: mkHdsU (k + (wHd q.1 : Nat)) r
def mkHds : Int → List Hd → List Hd
  | _, [] => []
  | k, x :: r => mkHd k x :: mkHds (k + (wHd x : Nat)) r
theorem mkHdsU_fst : ∀ (k : Int) (l : List (Hd × Value)), (mkHdsU k l).map Prod.fst = mkHds k (l.map Prod.fst) := by
  intro k l
  induction l generalizing k with
  | nil => rfl
  | cons q r ih => rw [mkHdsU, List.map_cons, List.map_cons, mkHds, ih]
theorem mkHdsU_len (k : Int) (l : List (Hd × Value)) : (mkHdsU k l).length = l.length := by
  induction l generalizing k with
  | nil => rfl
  | cons q r ih => rw [mkHdsU, List.length_cons, List.length_cons, ih]
theorem mkHdsU_snd (k : Int) (l : List (Hd × Value)) : (mkHdsU k l).map Prod.snd = l.map Prod.snd := by
  induction l generalizing k with
  | nil => rfl
  | cons q r ih => rw [mkHdsU, List.map_cons, List.map_cons, ih]
theorem mkHdsU_snoc (k : Int) (l : List (Hd × Value)) (q : Hd × Value) : mkHdsU k (l ++ [q]) = mkHdsU k l ++ [(mkHd (k + (cHds (l.map Prod.fst) : Nat)) q.1, q.2)] := by
  induction l generalizing k with
  | nil => simp [mkHdsU, cHds]
  | cons p r ih =>
    rw [List.cons_append, mkHdsU, ih, mkHdsU, List.cons_append]
    have e : k + (wHd p.1 : Nat) + (cHds (r.map Prod.fst) : Nat) = k + (cHds ((p :: r).map Prod.fst) : Nat) := by
      simp only [cHds, List.map_cons, List.sum_cons, Int.natCast_add]; omega
    rw [e]
theorem mkHds_len (k : Int) (l : List Hd) : (mkHds k l).length = l.length := by
  induction l generalizing k with
  | nil => rfl
  | cons q r ih => rw [mkHds, List.length_cons, List.length_cons, ih]
theorem mkHds_get {k : Int} {l : List Hd} {j : Nat} {x : Hd} (h : l[j]? = some x) : (mkHds k l)[j]? = some (mkHd (k + (cHds (l.take j) : Nat)) x) := by
  induction l generalizing k j with
  | nil => simp at h
  | cons p r ih =>
    cases j with
    | zero => simp at h; subst h; simp [mkHds, cHds]
    | succ j =>
      rw [List.getElem?_cons_succ] at h
      rw [mkHds, List.getElem?_cons_succ, ih h]
      have e : k + (wHd p : Nat) + (cHds (r.take j) : Nat) = k + (cHds ((p :: r).take (j + 1)) : Nat) := by
        simp only [cHds, List.take_succ_cons, List.map_cons, List.sum_cons, Int.natCast_add]; omega
      rw [e]
theorem cHds_take {l : List Hd} {j : Nat} {x : Hd} (h : l[j]? = some x) : cHds (l.take (j + 1)) = cHds (l.take j) + wHd x := by
  unfold cHds; rw [List.take_add_one, h]; simp
theorem cHds_take_le (l : List Hd) (j : Nat) : cHds (l.take j) ≤ cHds l := by
  unfold cHds
  conv => rhs; rw [← List.take_append_drop j l]
  rw [List.map_append, List.sum_append]; omega
/-- the blocks that a row of them and their ints lie in -/
def FootHd (v : Value) (l : List (Hd × Value)) (b : Nat) : Prop := (v.ownBlock = some b ∧ l ≠ []) ∨ ∃ q, q ∈ l ∧ Own q.2 q.1.bytes b
theorem HdsU.foot {B : Nat} {w : World} {v : Value} {l : List (Hd × Value)} (h : HdsU B w v l) {b : Nat} (hf : FootHd v l b) : B ≤ b ∧ b < w.heap.size := by
  obtain ⟨A, c, rfl, -, -, -, h⟩ := h
  rcases hf with ⟨ho, hn⟩ | ⟨q, hq, ho⟩
  · cases l with
    | nil => exact absurd rfl hn
    | cons x xs =>
      obtain ⟨b', o', cs, rfl, h1, h2, -⟩ := h 0 x rfl
      simp only [Value.ownBlock, Option.some.injEq] at ho
      subst ho
      exact ⟨h1, h2.lt⟩
  · obtain ⟨k, hk⟩ := List.mem_iff_getElem?.1 hq
    obtain ⟨b', o', cs, -, -, -, -, -, -, -, -, hI⟩ := h k q hk
    obtain ⟨h1, cs', h2⟩ := hI.own ho
    exact ⟨h1, h2.lt⟩
/-! ### impl.Part -/
def EPtU (B : Nat) (w : World) (cs : Array Value) (p : Nat) (q : Pt × Value) : Prop :=
  cs[p]? = some (.int .i64 q.1.kind) ∧ inI q.1.kind ∧ cs[p + 1]? = some (.string q.1.path) ∧ q.1.path.size < lim ∧ cs[p + 2]? = some (.bool q.1.dir) ∧ cs[p + 3]? = some q.2 ∧ Ints B w q.2 q.1.bytes
def PtsU (B : Nat) (w : World) (v : Value) (l : List (Pt × Value)) : Prop := SlOf B 63 4 (EPtU B) w v l
theorem EPtU.keepT {B : Nat} {t : TypeId} {w w' : World} {cs : Array Value} {p : Nat} {q : Pt × Value} (h : EPtU B w cs p q) (hk : KeepsT t w w') (ht : 3 ≠ t) : EPtU B w' cs p q :=
  let ⟨y0, g0, y1, g1, y2, y3, hI⟩ := h; ⟨y0, g0, y1, g1, y2, y3, hI.keepT hk ht⟩
theorem EPtU.keep {B B' : Nat} {w w' : World} {cs : Array Value} {p : Nat} {q : Pt × Value} (h : EPtU B w cs p q) (hB : B' ≤ B) (hk : Keeps B w w') : EPtU B' w' cs p q :=
  let ⟨y0, g0, y1, g1, y2, y3, hI⟩ := h; ⟨y0, g0, y1, g1, y2, y3, hI.keep hB hk⟩
theorem EPtU.loc {B : Nat} {w : World} {cs cs' : Array Value} {p p' : Nat} {q : Pt × Value} (h : EPtU B w cs p q) (hj : ∀ j, j < 4 → cs'[p' + j]? = cs[p + j]?) : EPtU B w cs' p' q := by
  obtain ⟨y0, g0, y1, g1, y2, y3, hI⟩ := h
  have j0 := hj 0 (by omega); have j1 := hj 1 (by omega); have j2 := hj 2 (by omega); have j3 := hj 3 (by omega)
  simp only [Nat.add_zero] at j0
  exact ⟨j0.trans y0, g0, j1.trans y1, g1, j2.trans y2, j3.trans y3, hI⟩
theorem EPtU_ok (B : Nat) : ElOk 63 4 (EPtU B) := ⟨fun _ _ _ _ _ hk h => h.keepT hk (by decide), fun _ _ _ _ _ _ hj h => h.loc hj, fun _ _ _ _ ⟨y0, _, y1, _, y2, y3, hI⟩ j hj => match j, hj with
  | 0, _ => ⟨_, y0, rfl⟩
  | 1, _ => ⟨_, y1, rfl⟩
  | 2, _ => ⟨_, y2, rfl⟩
  | 3, _ => ⟨_, y3, hI.one⟩⟩
theorem PtsU.plain {B : Nat} {w : World} {v : Value} {lu : List (Pt × Value)} (h : PtsU B w v lu) : Pts B w v (lu.map Prod.fst) := by
  obtain ⟨A, c, rfl, h1, h2, h3, h4⟩ := h
  refine ⟨A, c, by rw [List.length_map], by rw [List.length_map]; exact h1, h2, by rw [List.length_map]; exact h3, fun k x hx => ?_⟩
  rw [List.getElem?_map, Option.map_eq_some_iff] at hx
  obtain ⟨q, hq, rfl⟩ := hx
  obtain ⟨b, o, cs, e1, e2, e3, y0, g0, y1, g1, y2, y3, hI⟩ := h4 k q hq
  exact ⟨b, o, cs, e1, e2, e3, y0, g0, y1, g1, y2, ⟨_, y3, hI⟩⟩
theorem PtsU.keep {B B' : Nat} {w w' : World} {v : Value} {lu : List (Pt × Value)} (h : PtsU B w v lu) (hB : B' ≤ B) (hk : Keeps B w w') : PtsU B' w' v lu := SlOf.mono h hB hk fun _ _ _ e => e.keep hB hk
theorem PtsU.ext {B : Nat} {w w' : World} {v : Value} {lu : List (Pt × Value)} (h : PtsU B w v lu) (e : Ext w w') : PtsU B w' v lu := h.keep (Nat.le_refl _) (e.keeps _)
def wPt (x : Pt) : Nat := 3 + x.bytes.length
def cPts (l : List Pt) : Nat := (l.map wPt).sum
def mkPt (k : Int) (x : Pt) : Pt := ⟨k, mt (k + 1), ((k + 1 + 1) % 3 == 0), mkInts (k + 1 + 1 + 1) x.bytes.length⟩
def mkPtsU : Int → List (Pt × Value) → List (Pt × Value)
  | _, [] => []
  | k, q :: r => (mkPt k q.1, q.2) :: mkPtsU (k + (wPt q.1 : Nat)) r
def mkPts : Int → List Pt → List Pt
  | _, [] => []
  | k, x :: r => mkPt k x :: mkPts (k + (wPt x : Nat)) r
theorem mkPtsU_fst : ∀ (k : Int) (l : List (Pt × Value)), (mkPtsU k l).map Prod.fst = mkPts k (l.map Prod.fst) := by
  intro k l
  induction l generalizing k with
  | nil => rfl
  | cons q r ih => rw [mkPtsU, List.map_cons, List.map_cons, mkPts, ih]
theorem mkPtsU_len (k : Int) (l : List (Pt × Value)) : (mkPtsU k l).length = l.length := by
  induction l generalizing k with
  | nil => rfl
  | cons q r ih => rw [mkPtsU, List.length_cons, List.length_cons, ih]
theorem mkPtsU_snd (k : Int) (l : List (Pt × Value)) : (mkPtsU k l).map Prod.snd = l.map Prod.snd := by
  induction l generalizing k with
  | nil => rfl
  | cons q r ih => rw [mkPtsU, List.map_cons, List.map_cons, ih]
theorem mkPtsU_snoc (k : Int) (l : List (Pt × Value)) (q : Pt × Value) : mkPtsU k (l ++ [q]) = mkPtsU k l ++ [(mkPt (k + (cPts (l.map Prod.fst) : Nat)) q.1, q.2)] := by
  induction l generalizing k with
  | nil => simp [mkPtsU, cPts]
  | cons p r ih =>
    rw [List.cons_append, mkPtsU, ih, mkPtsU, List.cons_append]
    have e : k + (wPt p.1 : Nat) + (cPts (r.map Prod.fst) : Nat) = k + (cPts ((p :: r).map Prod.fst) : Nat) := by
      simp only [cPts, List.map_cons, List.sum_cons, Int.natCast_add]; omega
    rw [e]
theorem mkPts_len (k : Int) (l : List Pt) : (mkPts k l).length = l.length := by
  induction l generalizing k with
  | nil => rfl
  | cons q r ih => rw [mkPts, List.length_cons, List.length_cons, ih]
theorem mkPts_get {k : Int} {l : List Pt} {j : Nat} {x : Pt} (h : l[j]? = some x) : (mkPts k l)[j]? = some (mkPt (k + (cPts (l.take j) : Nat)) x) := by
  induction l generalizing k j with
  | nil => simp at h
  | cons p r ih =>
    cases j with
    | zero => simp at h; subst h; simp [mkPts, cPts]
    | succ j =>
      rw [List.getElem?_cons_succ] at h
      rw [mkPts, List.getElem?_cons_succ, ih h]
      have e : k + (wPt p : Nat) + (cPts (r.take j) : Nat) = k + (cPts ((p :: r).take (j + 1)) : Nat) := by
        simp only [cPts, List.take_succ_cons, List.map_cons, List.sum_cons, Int.natCast_add]; omega
      rw [e]
theorem cPts_take {l : List Pt} {j : Nat} {x : Pt} (h : l[j]? = some x) : cPts (l.take (j + 1)) = cPts (l.take j) + wPt x := by
  unfold cPts; rw [List.take_add_one, h]; simp
theorem cPts_take_le (l : List Pt) (j : Nat) : cPts (l.take j) ≤ cPts l := by
  unfold cPts
  conv => rhs; rw [← List.take_append_drop j l]
  rw [List.map_append, List.sum_append]; omega
/-- the blocks that a row of them and their ints lie in -/
def FootPt (v : Value) (l : List (Pt × Value)) (b : Nat) : Prop := (v.ownBlock = some b ∧ l ≠ []) ∨ ∃ q, q ∈ l ∧ Own q.2 q.1.bytes b
theorem PtsU.foot {B : Nat} {w : World} {v : Value} {l : List (Pt × Value)} (h : PtsU B w v l) {b : Nat} (hf : FootPt v l b) : B ≤ b ∧ b < w.heap.size := by
  obtain ⟨A, c, rfl, -, -, -, h⟩ := h
  rcases hf with ⟨ho, hn⟩ | ⟨q, hq, ho⟩
  · cases l with
    | nil => exact absurd rfl hn
    | cons x xs =>
      obtain ⟨b', o', cs, rfl, h1, h2, -⟩ := h 0 x rfl
      simp only [Value.ownBlock, Option.some.injEq] at ho
      subst ho
      exact ⟨h1, h2.lt⟩
  · obtain ⟨k, hk⟩ := List.mem_iff_getElem?.1 hq
    obtain ⟨b', o', cs, -, -, -, -, -, -, -, -, -, hI⟩ := h k q hk
    obtain ⟨h1, cs', h2⟩ := hI.own ho
    exact ⟨h1, h2.lt⟩
end Go.Sf

/-! What was marked is held: items (written by gen_marks.py). -/
namespace Go.Sf
open Go Go.RowKit Go.Proofs
theorem mkIts_len (k : Int) (l : List It) : (mkIts k l).length = l.length := by
  induction l generalizing k with
  | nil => rfl
  | cons q r ih => rw [mkIts, List.length_cons, List.length_cons, ih]
theorem mkIts_get {k : Int} {l : List It} {j : Nat} {x : It} (h : l[j]? = some x) : (mkIts k l)[j]? = some (mkIt (k + (cIts (l.take j) : Nat)) x) := by
  induction l generalizing k j with
  | nil => simp at h
  | cons p r ih =>
    cases j with
    | zero => simp at h; subst h; simp [mkIts, cIts]
    | succ j =>
      rw [List.getElem?_cons_succ] at h
      rw [mkIts, List.getElem?_cons_succ, ih h]
      have e : k + (wIt p : Nat) + (cIts (r.take j) : Nat) = k + (cIts ((p :: r).take (j + 1)) : Nat) := by
        simp only [cIts, List.take_succ_cons, List.map_cons, List.sum_cons, Int.natCast_add]; omega
      rw [e]
end Go.Sf

/-! Arguments that are changes: how large they are; copies of them. -/
namespace Go.Sf
open Go Go.RowKit Go.Proofs
end Go.Sf
