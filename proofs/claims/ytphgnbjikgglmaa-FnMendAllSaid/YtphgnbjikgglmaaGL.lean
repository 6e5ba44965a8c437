/- Arguments from outside, read by their cells alone; what szItemS makes of them. -/
import Derived.Test.YtphgnbjikgglmaaGC
import Derived.Test.YtphgnbjikgglmaaGE
import Derived.Laws.MakeOwn
import Derived.Lib.SlBytesRow
set_option linter.all false
/-! Arguments from outside, read by their cells alone; what szItemS makes of them. -/
namespace Go.Sf
open Go Go.RowKit Go.Proofs
/-- a row of elements that are read by cells, sz cells each -/
def ARow {α : Type} (sz : Nat) (E : World → Nat → Nat → α → Prop) (w : World) (A : Option Addr) (c : Nat) (l : List α) : Prop :=
  l.length ≤ c ∧ (c ≤ maxLen ∧ (A = none → c = 0)) ∧ ∀ (k : Nat) (x : α), l[k]? = some x → ∃ b o, A = some ⟨b, o, none⟩ ∧ E w b (o + k * sz) x
def ASl {α : Type} (sz : Nat) (E : World → Nat → Nat → α → Prop) (w : World) (v : Value) (l : List α) : Prop := ∃ A c, v = .slice A l.length c ∧ ARow sz E w A c l
theorem ASl.ext {α : Type} {sz : Nat} {E : World → Nat → Nat → α → Prop} {w w' : World} {v : Value} {l : List α} (h : ASl sz E w v l) (hE : ∀ b p x, E w b p x → E w' b p x) : ASl sz E w' v l :=
  let ⟨A, c, h1, h2, h3, h4⟩ := h; ⟨A, c, h1, h2, h3, fun k x hx => let ⟨b, o, e1, e2⟩ := h4 k x hx; ⟨b, o, e1, hE _ _ _ e2⟩⟩
/-- an int of an argument -/
def AInt (w : World) (b p : Nat) (x : Int) : Prop := w.cell? ⟨b, p, none⟩ = some (.int .i64 x) ∧ inI x
def AInts (w : World) (v : Value) (xs : List Int) : Prop := ASl 1 AInt w v xs
theorem AInts.ext {w w' : World} {v : Value} {xs : List Int} (h : AInts w v xs) (e : Ext w w') : AInts w' v xs := ASl.ext h fun _ _ _ ⟨h1, h2⟩ => ⟨e.cell h1, h2⟩
/-- what is left of a bound, or -1 -/
def dec (left : Int) (n : Nat) : Int := if left < n then -1 else left - n
theorem dec_neg {left : Int} {n : Nat} (h : left < n) : dec left n = -1 := if_pos h
theorem dec_pos {left : Int} {n : Nat} (h : ¬ left < n) : dec left n = left - n := if_neg h
set_option maxHeartbeats 1000000 in
theorem szIntS_c {A : Option Addr} {n c : Nat} {left : Int} (w : World) (h0 : 0 ≤ left) (h1 : left ≤ 1048576) (hn : n ≤ maxLen) : Calls TryG.prog 63 #[.slice A n c, .int .i64 left] w (Ret (.int .i64 (dec left n)) w) := by
  unfold maxLen at hn
  by_cases h : left < n
  · have h2 : left - (n : Int) < 0 := by omega
    go_enter TryG.func63, TryG.ntmps63
    go_wp2
    go_ret
    exact ⟨ret_v (by rw [dec_neg (by omega)]; rfl), Ext.refl w⟩
  · have h2 : ¬ left - (n : Int) < 0 := by omega
    go_enter TryG.func63, TryG.ntmps63
    go_wp2
    go_ret
    exact ⟨ret_v (by rw [dec_pos (by omega)]; rfl), Ext.refl w⟩
theorem dec_le {left : Int} {n : Nat} (h0 : 0 ≤ left) (h1 : left ≤ 1048576) : dec left n ≤ 1048576 := by unfold dec; split <;> omega
theorem dec_more {left : Int} {a b : Nat} (h : left < a) : dec left (a + b) = -1 := dec_neg (by omega)
/-! ### items -/
end Go.Sf

/-! Copies of arguments: toIntS, toItem, toItemS make memory of the call's own, each row apart. -/
namespace Go.Sf
open Go Go.RowKit Go.Proofs
/-- `make([]T, n)`: a row of n elements, whatever they are -/
theorem run_mk {P : Program} {T t : TypeId} {sz : Nat} (el : Elem P T t sz) (n : Nat) (hn : n ≤ lim) : ∃ cs : Array Value, cs.size = n * sz ∧
    ∀ W, (Instr.makeSlice T (.int .i64 n) (.int .i64 n)).run P W = .ok (.slice (some ⟨W.heap.size, 0, none⟩) n n) (W.alloc (.cells cs t)) := by
  obtain ⟨i, z, by_, hi, hz, hsz, hby, hb128, hzs⟩ := el.info
  refine ⟨madeCells z.cells (n * i.size), by rw [size_madeCells, hsz], fun W => ?_⟩
  have hm : by_ * n ≤ 128 * n := Nat.mul_le_mul_right _ hb128
  unfold lim at hn
  have := run_make (P := P) W T t i z el.under hi hz .i64 .i64 n n (by omega) (Int.le_refl _) (by rw [hby]; rw [← Int.natCast_mul]; omega) (by omega)
  simpa using this
/-- a row of one's own: the cells ahead of k are the list's -/
def RowTo (w : World) (g : Nat) (n : Nat) (l : List Int) (k : Nat) : Prop := ∃ cs : Array Value, Blk w g 3 cs ∧ cs.size = n ∧ ∀ i x, i < k → l[i]? = some x → cs[i]? = some (.int .i64 x)
theorem RowTo.put {w W : World} {g n k : Nat} {l : List Int} {x : Int} (h : RowTo w g n l k) (e : Ext w W) (hx : l[k]? = some x) (hk : k < n) : RowTo (W.setCell ⟨g, k, none⟩ (.int .i64 x)) g n l (k + 1) := by
  obtain ⟨cs, h1, h2, h3⟩ := h
  refine ⟨_, (h1.ext e).set_ k (.int .i64 x), by simpa using h2, fun i y hi hy => ?_⟩
  rw [Array.getElem?_setIfInBounds]
  by_cases hik : k = i
  · subst hik
    rw [hx] at hy
    rw [if_pos rfl, if_pos (by omega), Option.some.inj hy]
  · rw [if_neg hik]; exact h3 i y (by omega) hy
/-- a slice in a block that the call laid -/
def NewIn (w w' : World) (u : Value) : Prop := ∃ g, u.ownBlock = some g ∧ w.heap.size ≤ g ∧ g < w'.heap.size
set_option maxRecDepth 4000 in
set_option maxHeartbeats 1000000 in
theorem toIntS_c {v : Value} {xs : List Int} (w : World) (h : AInts w v xs) (hl : xs.length ≤ lim) :
    Calls TryG.prog 64 #[v] w (RetP (fun u w' => u = .slice (some ⟨w.heap.size, 0, none⟩) xs.length xs.length ∧ Ints w.heap.size w' u xs ∧ NewIn w w' u) w) := by
  obtain ⟨A, c, rfl, hlc, ⟨hcm, hA⟩, hel⟩ := h
  obtain ⟨cs0, hcs, hmk⟩ := run_mk el_int xs.length hl
  have hlim := Lib.hid hl
  have hin : Hid (∀ k x, xs[k]? = some x → inI x) := Lib.hid fun k x hx => by obtain ⟨b, o, _, _, h⟩ := hel k x hx; exact h
  unfold lim at hl
  have hex : ∃ n, xs.length = n := ⟨_, rfl⟩
  obtain ⟨n, hn⟩ := hex
  rw [hn] at hl hmk hcs ⊢
  have Hn := Lib.hid hn
  have HE := Lib.hid hel
  have Hcs := Lib.hid hcs
  clear hel hlc hcm hA hn hcs
  go_enter TryG.func64, TryG.ntmps64
  go_wp2
  clear hmk
  go_loopw [4] (fun i wr => ∃ k : Nat, k ≤ n ∧ i = .int .i64 k ∧ Ext w wr ∧ Hid (RowTo wr w.heap.size n xs k)) (fun i _ => n - (RowKit.intOf i).toNat)
  case atStart => exact ⟨0, by omega, rfl, (Ext.refl w).alloc _, Lib.hid ⟨cs0, Blk.new _ _ _, by simpa using Hcs.out, fun i x hi => by omega⟩⟩
  case round =>
    obtain ⟨k, hk, rfl, he, hR⟩ := hrel
    by_cases hlt : k < n
    · obtain ⟨x, hx⟩ := get_of_lt (l := xs) (k := k) (by rw [Hn.out]; exact hlt)
      obtain ⟨b, o, rfl, hc0, hI⟩ := HE.out k x hx
      have a0 := he.cell hc0
      rw [Nat.mul_one] at a0
      have f0 : wr.frozen? ⟨w.heap.size, k, none⟩ = false := by obtain ⟨cs, h1, -⟩ := hR.out; exact h1.frozen k
      have d0 : ∃ u, wr.cell? ⟨w.heap.size, k, none⟩ = some u := by
        obtain ⟨cs, h1, h2, -⟩ := hR.out
        rw [h1.cell]; exact ⟨cs[k], by simp [h2, hlt]⟩
      obtain ⟨u0, d0⟩ := d0
      have Hx := Lib.hid hx
      clear hc0 hx
      go_wp2
      go_roundw
      case rel => exact ⟨k + 1, by omega, by go_num, he.setCell (Nat.le_refl _) _, Lib.hid (hR.out.put (Ext.refl _) Hx.out hlt)⟩
      case measure => simp [RowKit.intOf]; omega
    · have hks : k = n := by omega
      subst hks
      go_wp2
      go_ret
      refine ⟨.slice (some ⟨w.heap.size, 0, none⟩) k k, rfl, ⟨rfl, ⟨some ⟨w.heap.size, 0, none⟩, k, by rw [Hn.out], by rw [Hn.out]; exact Nat.le_refl _, ⟨by unfold maxLen; omega, fun h => by cases h⟩, hlim.out, fun i x hx => ?_⟩, ⟨w.heap.size, rfl, Nat.le_refl _, by obtain ⟨cs, h1, -⟩ := hR.out; exact h1.lt⟩⟩, he⟩
      obtain ⟨cs, h1, h2, h3⟩ := hR.out
      refine ⟨w.heap.size, 0, cs, rfl, Nat.le_refl _, h1, ?_, hin.out i x hx⟩
      have := lt_of_get hx
      rw [Nat.zero_add, Nat.mul_one]
      exact h3 i x (by have := Hn.out; omega) hx
/-- an item whose slice of ids is told, too -/
def EItU (B : Nat) (w : World) (cs : Array Value) (p : Nat) (q : It × Value) : Prop :=
  cs[p]? = some (.string q.1.path) ∧ q.1.path.size < lim ∧ cs[p + 1]? = some (.bool q.1.dir) ∧ cs[p + 2]? = some q.2 ∧ Ints B w q.2 q.1.ids
/-- no two of them share their ints -/
def Sep {α : Type} (l : List (α × Value)) : Prop := l.Pairwise fun a b => ∀ g, a.2.ownBlock = some g → b.2.ownBlock ≠ some g
theorem Sep.snoc {α : Type} {l : List (α × Value)} {q : α × Value} (h : Sep l) (hq : ∀ p, p ∈ l → ∀ g, p.2.ownBlock = some g → q.2.ownBlock ≠ some g) : Sep (l ++ [q]) := by
  unfold Sep at h ⊢
  rw [List.pairwise_append]
  exact ⟨h, List.pairwise_singleton _ _, fun a ha b hb => by rw [List.mem_singleton] at hb; subst hb; exact hq a ha⟩
theorem Sep.ne {α : Type} {l : List (α × Value)} (h : Sep l) {i j : Nat} {p q : α × Value} (hi : l[i]? = some p) (hj : l[j]? = some q) (hij : i ≠ j) {g : Nat} (hg : p.2.ownBlock = some g) : q.2.ownBlock ≠ some g := by
  unfold Sep at h
  rw [List.pairwise_iff_getElem] at h
  have h1 := lt_of_get hi; have h2 := lt_of_get hj
  rw [List.getElem?_eq_getElem h1] at hi
  rw [List.getElem?_eq_getElem h2] at hj
  rcases Nat.lt_or_ge i j with hlt | hge
  · have := h i j h1 h2 hlt g
    rw [Option.some.inj hi, Option.some.inj hj] at this
    exact this hg
  · intro hq
    have := h j i h2 h1 (by omega) g
    rw [Option.some.inj hi, Option.some.inj hj] at this
    exact this hq hg
theorem EItU.keepT {B : Nat} {t : TypeId} {w w' : World} {cs : Array Value} {p : Nat} {q : It × Value} (h : EItU B w cs p q) (hk : KeepsT t w w') (ht : 3 ≠ t) : EItU B w' cs p q :=
  let ⟨h1, h2, h3, h4, h5⟩ := h; ⟨h1, h2, h3, h4, h5.keepT hk ht⟩
theorem EItU.keep {B B' : Nat} {w w' : World} {cs : Array Value} {p : Nat} {q : It × Value} (h : EItU B w cs p q) (hB : B' ≤ B) (hk : Keeps B w w') : EItU B' w' cs p q :=
  let ⟨h1, h2, h3, h4, h5⟩ := h; ⟨h1, h2, h3, h4, h5.keep hB hk⟩
theorem EItU.loc {B : Nat} {w : World} {cs cs' : Array Value} {p p' : Nat} {q : It × Value} (h : EItU B w cs p q) (hj : ∀ j, j < 3 → cs'[p' + j]? = cs[p + j]?) : EItU B w cs' p' q := by
  obtain ⟨h1, h2, h3, h4, h5⟩ := h
  have j0 := hj 0 (by omega); have j1 := hj 1 (by omega); have j2 := hj 2 (by omega)
  simp only [Nat.add_zero] at j0
  exact ⟨j0.trans h1, h2, j1.trans h3, j2.trans h4, h5⟩
end Go.Sf

/-! The marks that the exact laws write: their texts. -/
namespace Go.Sf
open Go Go.RowKit Go.Proofs
end Go.Sf

/-! Rows of the call's own are marked: markIntS, markItemS; what they leave alone. -/
namespace Go.Sf
open Go Go.RowKit Go.Proofs
/-- nothing but the blocks in S has changed; new ones may have come -/
def Mod (S : Nat → Prop) (w w' : World) : Prop := (w'.os = w.os ∧ w'.tape = w.tape ∧ w'.output = w.output) ∧ w.heap.size ≤ w'.heap.size ∧ ∀ b, b < w.heap.size → ¬ S b → w'.heap[b]? = w.heap[b]?
section
variable {S S' : Nat → Prop} {w w' w'' w0 : World}
theorem Ext.mod (h : Ext w w') (S : Nat → Prop) : Mod S w w' := ⟨⟨Below.os h, Below.tape h, Below.output h⟩, h.size, fun _ hb _ => h.block hb⟩
theorem Mod.refl (S : Nat → Prop) (w : World) : Mod S w w := (Ext.refl w).mod S
theorem Mod.trans (h : Mod S w w') (k : Mod S w' w'') : Mod S w w'' :=
  ⟨⟨k.1.1.trans h.1.1, k.1.2.1.trans h.1.2.1, k.1.2.2.trans h.1.2.2⟩, Nat.le_trans h.2.1 k.2.1, fun b hb hs => (k.2.2 b (Nat.lt_of_lt_of_le hb h.2.1) hs).trans (h.2.2 b hb hs)⟩
theorem Mod.mono (h : Mod S w w') (hs : ∀ b, S b → S' b) : Mod S' w w' := ⟨h.1, h.2.1, fun b hb hn => h.2.2 b hb fun h => hn (hs b h)⟩
theorem Mod.size (h : Mod S w w') : w.heap.size ≤ w'.heap.size := h.2.1
theorem Mod.keeps {B : Nat} (h : Mod S w w') (hs : ∀ b, S b → b < B) : Keeps B w w' := fun b hB hb => h.2.2 b hb fun k => by have := hs b k; omega
theorem Mod.ext (h : Mod S w w') (h0 : Ext w0 w) (hs : ∀ b, S b → w0.heap.size ≤ b) : Ext w0 w' :=
  ⟨h.1.1.trans (Below.os h0 : w.os = w0.os), h.1.2.1.trans (Below.tape h0 : w.tape = w0.tape), h.1.2.2.trans (Below.output h0 : w.output = w0.output), Nat.le_trans h0.size h.2.1, fun b hb => (h.2.2 b (Nat.lt_of_lt_of_le hb h0.size) (fun k => by have := hs b k; omega)).trans (h0.block hb)⟩
theorem Mod.set {p : Addr} (hp : S p.block) (u : Value) : Mod S w (w.setCell p u) :=
  ⟨⟨rfl, rfl, rfl⟩, by simp [World.setCell], fun k _ hk => Below.heap_setCell w p u k fun e => hk (e ▸ hp)⟩
theorem Mod.blk (h : Mod S w w') {b : Nat} {t : TypeId} {cs : Array Value} (hb : Blk w b t cs) (hs : ¬ S b) : Blk w' b t cs := (h.2.2 b hb.lt hs).trans hb
end
theorem SlIn.mod {α : Type} {B : Nat} {t : TypeId} {sz : Nat} {E E' : World → Array Value → Nat → α → Prop} {S : Nat → Prop} {w w' : World} {A : Option Addr} {c : Nat} {l : List α} (h : SlIn B t sz E w A c l) (hm : Mod S w w')
    (hs : ∀ b o, A = some ⟨b, o, none⟩ → ¬ S b) (hE : ∀ (k : Nat) (x : α) (cs : Array Value) (p : Nat), l[k]? = some x → E w cs p x → E' w' cs p x) : SlIn B t sz E' w' A c l :=
  ⟨h.1, h.2.1, h.2.2.1, fun k x hx => let ⟨b, o, cs, e1, e2, e3, e4⟩ := h.2.2.2 k x hx; ⟨b, o, cs, e1, e2, hm.blk e3 (hs b o e1), hE k x _ _ hx e4⟩⟩
theorem Blk.inj {w : World} {b : Nat} {t t' : TypeId} {cs cs' : Array Value} (h : Blk w b t cs) (h' : Blk w b t' cs') : cs = cs' := by
  unfold Blk at h h'
  rw [h] at h'
  simp only [Option.some.injEq, Obj.cells.injEq] at h'
  exact h'.1
/-- block b holds the ints xs of the slice u -/
def Own (u : Value) (xs : List Int) (b : Nat) : Prop := u.ownBlock = some b ∧ xs ≠ []
theorem Ints.own {B : Nat} {w : World} {u : Value} {xs : List Int} (h : Ints B w u xs) {b : Nat} (ho : Own u xs b) : B ≤ b ∧ ∃ cs, Blk w b 3 cs := by
  obtain ⟨A, c, rfl, -, -, -, h⟩ := h
  obtain ⟨ho, hn⟩ := ho
  cases xs with
  | nil => exact absurd rfl hn
  | cons x xs =>
    obtain ⟨b', o', cs, rfl, h1, h2, -⟩ := h 0 x rfl
    simp only [Value.ownBlock, Option.some.injEq] at ho
    subst ho
    exact ⟨h1, cs, h2⟩
theorem Ints.mod {B : Nat} {S : Nat → Prop} {w w' : World} {u : Value} {xs : List Int} (h : Ints B w u xs) (hm : Mod S w w') (hs : ∀ b, Own u xs b → ¬ S b) : Ints B w' u xs := by
  obtain ⟨A, c, rfl, h⟩ := h
  exact ⟨A, c, rfl, h.1, h.2.1, h.2.2.1, fun k x hx => let ⟨b, o, cs, e1, e2, e3, e4⟩ := h.2.2.2 k x hx; ⟨b, o, cs, e1, e2, hm.blk e3 (hs b ⟨by rw [e1]; rfl, fun e => by rw [e] at hx; simp at hx⟩), e4⟩⟩
/-- one element of a row turns -/
theorem SlIn.upd {α : Type} {B : Nat} {t : TypeId} {sz : Nat} {E : World → Array Value → Nat → α → Prop} {w w' : World} {b o c j : Nat} {L : List α} {x y : α} (h : SlIn B t sz E w (some ⟨b, o, none⟩) c L) (hj : L[j]? = some x)
    (hw : ∀ cs, Blk w b t cs → E w cs (o + j * sz) x → ∃ cs', Blk w' b t cs' ∧ E w' cs' (o + j * sz) y ∧ ∀ i z, i ≠ j → L[i]? = some z → E w cs (o + i * sz) z → E w' cs' (o + i * sz) z) :
    SlIn B t sz E w' (some ⟨b, o, none⟩) c (L.set j y) := by
  obtain ⟨h1, h2, h3, h4⟩ := h
  obtain ⟨b', o', cs, e1, hB, hb, he⟩ := h4 j x hj
  simp only [Option.some.injEq, Addr.mk.injEq, and_true] at e1
  obtain ⟨rfl, rfl⟩ := e1
  obtain ⟨cs', hb', hy, hz⟩ := hw cs hb he
  refine ⟨by simpa using h1, h2, by simpa using h3, fun k z hk => ⟨b, o, cs', rfl, hB, hb', ?_⟩⟩
  rw [List.getElem?_set] at hk
  by_cases hjk : j = k
  · subst hjk
    rw [if_pos rfl, if_pos (lt_of_get hj)] at hk
    rw [← Option.some.inj hk]; exact hy
  · rw [if_neg hjk] at hk
    obtain ⟨b2, o2, cs2, e2, -, hb2, he2⟩ := h4 k z hk
    simp only [Option.some.injEq, Addr.mk.injEq, and_true] at e2
    obtain ⟨rfl, rfl⟩ := e2
    have : cs2 = cs := by
      unfold Blk at hb hb2
      rw [hb] at hb2
      simp only [Option.some.injEq, Obj.cells.injEq] at hb2
      exact hb2.1.symm
    subst this
    exact hz k z (fun e => hjk e.symm) hk he2
theorem set_mid {α : Type} {a r : List α} {x y : α} {j : Nat} (hj : a.length = j) : (a ++ x :: r).set j y = a ++ y :: r := by
  rw [List.set_append_right _ _ (by omega), hj, Nat.sub_self]; rfl
/-! ### ints -/
def mkInts (k : Int) (n : Nat) : List Int := (List.range n).map fun i => k + (i : Nat)
theorem mkInts_len (k : Int) (n : Nat) : (mkInts k n).length = n := by simp [mkInts]
theorem mkInts_succ (k : Int) (n : Nat) : mkInts k (n + 1) = mkInts k n ++ [k + (n : Nat)] := by simp [mkInts, List.range_succ]
/-- what a call leaves that turns blocks of S and hands v back -/
def RetM (S : Nat → Prop) (v : Value) (R : World → Prop) (w : World) (e : Ending) (w' : World) : Prop := e = .returned v ∧ R w' ∧ Mod S w w'
set_option maxRecDepth 4000 in
set_option maxHeartbeats 1000000 in
theorem markIntS_c {B : Nat} {u : Value} {xs : List Int} {k : Int} (w : World) (h : Ints B w u xs) (h0 : 0 ≤ k) (h1 : k ≤ 2305843009213693951) :
    Calls TryG.prog 48 #[u, .int .i64 k] w (RetM (Own u xs) (.int .i64 (k + (xs.length : Nat))) (fun w' => Ints B w' u (mkInts k xs.length)) w) := by
  obtain ⟨A, c, rfl, hA⟩ := h
  have hl := hA.2.2.1
  unfold lim at hl
  have hex : ∃ n, xs.length = n := ⟨_, rfl⟩
  obtain ⟨n, hn⟩ := hex
  rw [hn] at hl ⊢
  have Hn := Lib.hid hn
  have HA := Lib.hid hA
  clear hA hn
  go_enter TryG.func48, TryG.ntmps48
  go_wp2
  go_loopw [1, 5] (fun q i wr => ∃ j : Nat, j ≤ n ∧ i = .int .i64 j ∧ q = .int .i64 (k + (j : Nat)) ∧ Hid (SlIn B 3 1 EInt wr A c (mkInts k j ++ xs.drop j)) ∧ Hid (Mod (Own (Value.slice A n c) xs) w wr)) (fun _ i _ => n - (RowKit.intOf i).toNat)
  case atStart => exact ⟨0, by omega, rfl, by simp, Lib.hid (by simpa [mkInts] using HA.out), Lib.hid (Mod.refl _ _)⟩
  case round =>
    obtain ⟨j, hj, rfl, rfl, hS, hM⟩ := hrel
    by_cases hlt : j < n
    · obtain ⟨x, hx⟩ := get_of_lt (l := xs) (k := j) (by rw [Hn.out]; exact hlt)
      have hL : (mkInts k j ++ xs.drop j)[j]? = some x := by
        rw [List.getElem?_append_right (by rw [mkInts_len]; exact Nat.le_refl _), mkInts_len, Nat.sub_self, List.getElem?_drop]; simpa using hx
      obtain ⟨b, o, cs, rfl, hB, hb, hE⟩ := hS.out.2.2.2 j x hL
      rw [Nat.mul_one] at hE
      have d0 := (hb.cell (o + j)).trans hE.1
      have f0 := hb.frozen (o + j)
      have hup : Hid (SlIn B 3 1 EInt (wr.setCell ⟨b, o + j, none⟩ (.int .i64 (k + (j : Nat)))) (some ⟨b, o, none⟩) c (mkInts k (j + 1) ++ xs.drop (j + 1))) := Lib.hid (by
        have hd := drop_cons hx
        have e : mkInts k (j + 1) ++ xs.drop (j + 1) = (mkInts k j ++ xs.drop j).set j (k + (j : Nat)) := by
          rw [mkInts_succ, hd, List.append_assoc, set_mid (mkInts_len k j)]; rfl
        rw [e]
        refine SlIn.upd hS.out hL fun cs2 hb2 he2 => ⟨_, hb2.set_ (o + j) (.int .i64 (k + (j : Nat))), ⟨?_, by unfold inI; omega⟩, fun i z hi hz hez => ⟨?_, hez.2⟩⟩
        · have := (Array.getElem?_eq_some_iff.1 he2.1).1
          rw [Nat.mul_one] at this ⊢
          rw [Array.getElem?_setIfInBounds, if_pos rfl, if_pos this]
        · rw [Array.getElem?_setIfInBounds, if_neg (by omega)]; exact hez.1)
      have hM2 : Hid (Mod (Own (Value.slice (some ⟨b, o, none⟩) n c) xs) w (wr.setCell ⟨b, o + j, none⟩ (.int .i64 (k + (j : Nat))))) := Lib.hid (hM.out.trans (Mod.set (S := Own (Value.slice (some ⟨b, o, none⟩) n c) xs) (p := ⟨b, o + j, none⟩) ⟨rfl, fun e => by rw [e] at hx; simp at hx⟩ _))
      clear hx hL hb hE hS hM
      go_wp2
      go_roundw
      case rel => exact ⟨j + 1, by omega, by go_num, by go_num, hup, hM2⟩
      case measure => simp [RowKit.intOf]; omega
    · have hjs : j = n := by omega
      subst hjs
      have hS2 : Hid (SlIn B 3 1 EInt wr A c (mkInts k j)) := Lib.hid (by have := hS.out; rwa [List.drop_eq_nil_of_le (by rw [Hn.out]; exact Nat.le_refl _), List.append_nil] at this)
      clear hS
      go_wp2
      go_ret
      exact ⟨rfl, ⟨A, c, by rw [mkInts_len], hS2.out⟩, hM.out⟩
/-! ### items -/
end Go.Sf

/-! Readings with the inner slice told, plain marks, and the walks that mark rows (written by gen_marks.py). -/
namespace Go.Sf
open Go Go.RowKit Go.Proofs
set_option maxHeartbeats 1000000 in
theorem heldIntS_c {B : Nat} {u : Value} {n : Nat} {k : Int} (w : World) (h : Ints B w u (mkInts k n)) (h0 : 0 ≤ k) (h1 : k + (n : Nat) ≤ 2305843009213693951) : Calls TryG.prog 49 #[u, .int .i64 k] w (Ret (.int .i64 (k + (n : Nat))) w) := by
  obtain ⟨A, c, rfl, hA⟩ := h
  rw [mkInts_len]
  have hl := hA.2.2.1
  rw [mkInts_len] at hl
  unfold lim at hl
  have HA := Lib.hid hA; clear hA
  go_enter TryG.func49, TryG.ntmps49
  go_wp2
  go_loopw [1, 5] (fun q i wr => ∃ j : Nat, j ≤ n ∧ i = .int .i64 j ∧ q = .int .i64 (k + (j : Nat)) ∧ Ext w wr) (fun _ i _ => n - (RowKit.intOf i).toNat)
  case atStart => exact ⟨0, by omega, rfl, by simp, Ext.refl w⟩
  case round =>
    obtain ⟨j, hj, rfl, rfl, he⟩ := hrel
    by_cases hlt : j < n
    · have hx : (mkInts k n)[j]? = some (k + (j : Nat)) := by simp [mkInts, hlt]
      obtain ⟨b, o, rfl, -, -, -, hc0⟩ := Ints.at_ HA.out hx
      have a0 := hc0 wr he
      clear hc0 hx
      go_wp2
      go_roundw
      case rel => exact ⟨j + 1, by omega, by go_num, by go_num, he⟩
      case measure => simp [RowKit.intOf]; omega
    · have hjs : j = n := by omega
      subst hjs
      go_wp2
      go_ret
      exact ⟨rfl, he⟩
/-! ### impl.Held -/
def EHdU (B : Nat) (w : World) (cs : Array Value) (p : Nat) (q : Hd × Value) : Prop :=
  cs[p]? = some (.int .i64 q.1.id) ∧ inI q.1.id ∧ cs[p + 1]? = some q.2 ∧ cs[p + 2]? = some (.int .i64 q.1.uses) ∧ inI q.1.uses ∧ Ints B w q.2 q.1.bytes
def HdsU (B : Nat) (w : World) (v : Value) (l : List (Hd × Value)) : Prop := SlOf B 35 3 (EHdU B) w v l
theorem EHdU.keepT {B : Nat} {t : TypeId} {w w' : World} {cs : Array Value} {p : Nat} {q : Hd × Value} (h : EHdU B w cs p q) (hk : KeepsT t w w') (ht : 3 ≠ t) : EHdU B w' cs p q :=
  let ⟨y0, g0, y1, y2, g2, hI⟩ := h; ⟨y0, g0, y1, y2, g2, hI.keepT hk ht⟩
theorem EHdU.keep {B B' : Nat} {w w' : World} {cs : Array Value} {p : Nat} {q : Hd × Value} (h : EHdU B w cs p q) (hB : B' ≤ B) (hk : Keeps B w w') : EHdU B' w' cs p q :=
  let ⟨y0, g0, y1, y2, g2, hI⟩ := h; ⟨y0, g0, y1, y2, g2, hI.keep hB hk⟩
theorem EHdU.loc {B : Nat} {w : World} {cs cs' : Array Value} {p p' : Nat} {q : Hd × Value} (h : EHdU B w cs p q) (hj : ∀ j, j < 3 → cs'[p' + j]? = cs[p + j]?) : EHdU B w cs' p' q := by
  obtain ⟨y0, g0, y1, y2, g2, hI⟩ := h
  have j0 := hj 0 (by omega); have j1 := hj 1 (by omega); have j2 := hj 2 (by omega)
  simp only [Nat.add_zero] at j0
  exact ⟨j0.trans y0, g0, j1.trans y1, j2.trans y2, g2, hI⟩
theorem EHdU_ok (B : Nat) : ElOk 35 3 (EHdU B) := ⟨fun _ _ _ _ _ hk h => h.keepT hk (by decide), fun _ _ _ _ _ _ hj h => h.loc hj, fun _ _ _ _ ⟨y0, _, y1, y2, _, hI⟩ j hj => match j, hj with
  | 0, _ => ⟨_, y0, rfl⟩
  | 1, _ => ⟨_, y1, hI.one⟩
  | 2, _ => ⟨_, y2, rfl⟩⟩
theorem HdsU.plain {B : Nat} {w : World} {v : Value} {lu : List (Hd × Value)} (h : HdsU B w v lu) : Hds B w v (lu.map Prod.fst) := by
  obtain ⟨A, c, rfl, h1, h2, h3, h4⟩ := h
  refine ⟨A, c, by rw [List.length_map], by rw [List.length_map]; exact h1, h2, by rw [List.length_map]; exact h3, fun k x hx => ?_⟩
  rw [List.getElem?_map, Option.map_eq_some_iff] at hx
  obtain ⟨q, hq, rfl⟩ := hx
  obtain ⟨b, o, cs, e1, e2, e3, y0, g0, y1, y2, g2, hI⟩ := h4 k q hq
  exact ⟨b, o, cs, e1, e2, e3, y0, g0, ⟨_, y1, hI⟩, y2, g2⟩
theorem HdsU.keep {B B' : Nat} {w w' : World} {v : Value} {lu : List (Hd × Value)} (h : HdsU B w v lu) (hB : B' ≤ B) (hk : Keeps B w w') : HdsU B' w' v lu := SlOf.mono h hB hk fun _ _ _ e => e.keep hB hk
theorem HdsU.ext {B : Nat} {w w' : World} {v : Value} {lu : List (Hd × Value)} (h : HdsU B w v lu) (e : Ext w w') : HdsU B w' v lu := h.keep (Nat.le_refl _) (e.keeps _)
def wHd (x : Hd) : Nat := 2 + x.bytes.length
def cHds (l : List Hd) : Nat := (l.map wHd).sum
def mkHd (k : Int) (x : Hd) : Hd := ⟨k, mkInts (k + 1) x.bytes.length, k + 1 + (x.bytes.length : Nat)⟩
def mkHdsU : Int → List (Hd × Value) → List (Hd × Value)
  | _, [] => []
  | k, q :: r => (mkHd k q.1, q.2) :: mkHdsU (k + (wHd q.1 : Nat)) r
def mkHds : Int → List Hd → List Hd
  | _, [] => []
  | k, x :: r => mkHd k x :: mkHds (k + (wHd x : Nat)) r
theorem mkHdsU_fst : ∀ (k : Int) (l : List (Hd × Value)), (mkHdsU k l).map Prod.fst = mkHds k (l.map Prod.fst) := by
  intro k l
  induction l generalizing k with
  | nil => rfl
  | cons q r ih => rw [mkHdsU, List.map_cons, List.map_cons, mkHds, ih]
theorem mkHdsU_len (k : Int) (l : List (Hd × Value)) : (mkHdsU k l).length = l.length := by
  induction l generalizing k with
  | nil => rfl
  | cons q r ih => rw [mkHdsU, List.length_cons, List.length_cons, ih]
theorem mkHdsU_snd (k : Int) (l : List (Hd × Value)) : (mkHdsU k l).map Prod.snd = l.map Prod.snd := by
  induction l generalizing k with
  | nil => rfl
  | cons q r ih => rw [mkHdsU, List.map_cons, List.map_cons, ih]
theorem mkHdsU_snoc (k : Int) (l : List (Hd × Value)) (q : Hd × Value) : mkHdsU k (l ++ [q]) = mkHdsU k l ++ [(mkHd (k + (cHds (l.map Prod.fst) : Nat)) q.1, q.2)] := by
  induction l generalizing k with
  | nil => simp [mkHdsU, cHds]
  | cons p r ih =>
    rw [List.cons_append, mkHdsU, ih, mkHdsU, List.cons_append]
    have e : k + (wHd p.1 : Nat) + (cHds (r.map Prod.fst) : Nat) = k + (cHds ((p :: r).map Prod.fst) : Nat) := by
      simp only [cHds, List.map_cons, List.sum_cons, Int.natCast_add]; omega
    rw [e]
theorem mkHds_len (k : Int) (l : List Hd) : (mkHds k l).length = l.length := by
  induction l generalizing k with
  | nil => rfl
  | cons q r ih => rw [mkHds, List.length_cons, List.length_cons, ih]
theorem mkHds_get {k : Int} {l : List Hd} {j : Nat} {x : Hd} (h : l[j]? = some x) : (mkHds k l)[j]? = some (mkHd (k + (cHds (l.take j) : Nat)) x) := by
  induction l generalizing k j with
  | nil => simp at h
  | cons p r ih =>
    cases j with
    | zero => simp at h; subst h; simp [mkHds, cHds]
    | succ j =>
      rw [List.getElem?_cons_succ] at h
      rw [mkHds, List.getElem?_cons_succ, ih h]
      have e : k + (wHd p : Nat) + (cHds (r.take j) : Nat) = k + (cHds ((p :: r).take (j + 1)) : Nat) := by
        simp only [cHds, List.take_succ_cons, List.map_cons, List.sum_cons, Int.natCast_add]; omega
      rw [e]
theorem cHds_take {l : List Hd} {j : Nat} {x : Hd} (h : l[j]? = some x) : cHds (l.take (j + 1)) = cHds (l.take j) + wHd x := by
  unfold cHds; rw [List.take_add_one, h]; simp
theorem cHds_take_le (l : List Hd) (j : Nat) : cHds (l.take j) ≤ cHds l := by
  unfold cHds
  conv => rhs; rw [← List.take_append_drop j l]
  rw [List.map_append, List.sum_append]; omega
/-- the blocks that a row of them and their ints lie in -/
def FootHd (v : Value) (l : List (Hd × Value)) (b : Nat) : Prop := (v.ownBlock = some b ∧ l ≠ []) ∨ ∃ q, q ∈ l ∧ Own q.2 q.1.bytes b
theorem HdsU.foot {B : Nat} {w : World} {v : Value} {l : List (Hd × Value)} (h : HdsU B w v l) {b : Nat} (hf : FootHd v l b) : B ≤ b ∧ b < w.heap.size := by
  obtain ⟨A, c, rfl, -, -, -, h⟩ := h
  rcases hf with ⟨ho, hn⟩ | ⟨q, hq, ho⟩
  · cases l with
    | nil => exact absurd rfl hn
    | cons x xs =>
      obtain ⟨b', o', cs, rfl, h1, h2, -⟩ := h 0 x rfl
      simp only [Value.ownBlock, Option.some.injEq] at ho
      subst ho
      exact ⟨h1, h2.lt⟩
  · obtain ⟨k, hk⟩ := List.mem_iff_getElem?.1 hq
    obtain ⟨b', o', cs, -, -, -, -, -, -, -, -, hI⟩ := h k q hk
    obtain ⟨h1, cs', h2⟩ := hI.own ho
    exact ⟨h1, h2.lt⟩
set_option maxRecDepth 4000 in
set_option maxHeartbeats 1000000 in
theorem markHdS_c {B : Nat} {v : Value} {l : List (Hd × Value)} {k : Int} (w : World) (h : HdsU B w v l) (hsep : Sep l) (h0 : 1 ≤ k) (h1 : k + (cHds (l.map Prod.fst) : Nat) ≤ 1152921504606846976) :
    Calls TryG.prog 22 #[v, .int .i64 k] w (RetM (FootHd v l) (.int .i64 (k + (cHds (l.map Prod.fst) : Nat))) (fun w' => HdsU B w' v (mkHdsU k l)) w) := by
  obtain ⟨A, c, rfl, hA⟩ := h
  have hl := hA.2.2.1
  unfold lim at hl
  have hex : ∃ n, l.length = n := ⟨_, rfl⟩
  obtain ⟨n, hn⟩ := hex
  rw [hn] at hl ⊢
  have Hn := Lib.hid hn
  have HA := Lib.hid hA
  have HS := Lib.hid hsep
  have H1 := Lib.hid h1
  clear hA hn hsep h1
  go_enter TryG.func22, TryG.ntmps22
  go_wp2
  go_loopw [1, 5] (fun q i wr => ∃ (j : Nat) (d : Int), j ≤ n ∧ i = .int .i64 j ∧ q = .int .i64 d ∧ Hid (d = k + (cHds ((l.map Prod.fst).take j) : Nat)) ∧ Hid (SlIn B 35 3 (EHdU B) wr A c (mkHdsU k (l.take j) ++ l.drop j)) ∧ Hid (Mod (FootHd (Value.slice A n c) l) w wr)) (fun _ i _ => n - (RowKit.intOf i).toNat)
  case atStart => exact ⟨0, k, by omega, rfl, rfl, Lib.hid (by simp [cHds]), Lib.hid (by simpa [mkHdsU] using HA.out), Lib.hid (Mod.refl _ _)⟩
  case round =>
    obtain ⟨j, d, hj, rfl, rfl, hd, hS, hM⟩ := hrel
    by_cases hlt : j < n
    · obtain ⟨x, hx⟩ := get_of_lt (l := l) (k := j) (by rw [Hn.out]; exact hlt)
      obtain ⟨x, u⟩ := x
      have hxf : (l.map Prod.fst)[j]? = some x := by rw [List.getElem?_map, hx]; rfl
      have htl : (l.take j).length = j := by rw [List.length_take, Hn.out]; omega
      have hL : (mkHdsU k (l.take j) ++ l.drop j)[j]? = some (x, u) := by
        rw [List.getElem?_append_right (by rw [mkHdsU_len, htl]; exact Nat.le_refl _), mkHdsU_len, htl, Nat.sub_self, List.getElem?_drop]; simpa using hx
      obtain ⟨b, o, cs, rfl, hB, hb, y0, g0, y1, y2, g2, hI⟩ := hS.out.2.2.2 j _ hL
      simp only at y0 g0 y1 y2 g2 hI
      have hc := cHds_take hxf
      have hc2 := cHds_take_le (l.map Prod.fst) (j + 1)
      have hdb : 1 ≤ d ∧ d + 2 + (x.bytes.length : Nat) ≤ 1152921504606846976 := by
        have := hd.out; have := H1.out; have hw : wHd x = 2 + x.bytes.length := rfl
        omega
      have hlen := hI.len
      obtain ⟨Au, cu, rfl, hU⟩ := hI
      have hsz : o + j * 3 + 2 < cs.size := (Array.getElem?_eq_some_iff.1 y2).1
      have hne : l ≠ [] := fun e => by rw [e] at hx; simp at hx
      have hu : Ints B wr (.slice Au x.bytes.length cu) x.bytes := ⟨_, _, rfl, hU⟩
      have K : KeepsT 35 wr wr := KeepsT.refl _ _
      have M := Mod.refl (FootHd (Value.slice (some ⟨b, o, none⟩) n c) l) wr
      obtain ⟨hd1, hd2⟩ := hdb
      have HL := Lib.hid hL; have Hx := Lib.hid hx; have Hc := Lib.hid hc; have Hxf := Lib.hid hxf; have Htl := Lib.hid htl; have Hne := Lib.hid hne; have Hb := Lib.hid hb; have Hb0 := Hb; have HK := Lib.hid K; have HM2 := Lib.hid M; have HU := Lib.hid hu
      have HC : Hid (cs[o + j * 3]? = some (.int .i64 x.id) ∧ cs[o + j * 3 + 1]? = some (.slice Au x.bytes.length cu) ∧ cs[o + j * 3 + 2]? = some (.int .i64 x.uses)) := Lib.hid ⟨y0, y1, y2⟩
      clear hL hx hc hc2 hxf htl hne hb K M hu hU y0 y1 y2
      have d0 : World.cell? _ ⟨b, o + j * 3, none⟩ = some (.int .i64 x.id) := (Hb.out.cell _).trans (by exact HC.out.1)
      have f0 := Hb.out.frozen (o + j * 3)
      have d1 : World.cell? _ ⟨b, o + j * 3 + 1, none⟩ = some (.slice Au x.bytes.length cu) := (Hb.out.cell _).trans (by exact HC.out.2.1)
      have d2 : World.cell? _ ⟨b, o + j * 3 + 2, none⟩ = some (.int .i64 x.uses) := (Hb.out.cell _).trans (by exact HC.out.2.2)
      have f2 := Hb.out.frozen (o + j * 3 + 2)
      go_wp2_with fail
      clear d0 d1 d2 f0 f2
      have HM3 := Lib.hid (HM2.out.trans (Mod.set (S := FootHd (Value.slice (some ⟨b, o, none⟩) n c) l) (p := ⟨b, o + j * 3, none⟩) (.inl ⟨rfl, Hne.out⟩) (.int .i64 (d))))
      have HK3 := Lib.hid (HK.out.trans (KeepsT.set (i := o + j * 3) Hb.out (.int .i64 (d)) rfl))
      have Hb3 := Lib.hid (Hb.out.set_ (o + j * 3) (.int .i64 (d)))
      clear HM2 HK Hb; have HM2 := HM3; have HK := HK3; have Hb := Hb3; clear HM3 HK3 Hb3
      have hu := HU.out.keepT HK.out (by decide)
      have hbu : ¬ Own (.slice Au x.bytes.length cu) x.bytes b := fun ho => by obtain ⟨-, cs', h'⟩ := hu.own ho; exact Blk.ne_ h' Hb.out (by decide) rfl
      refine (markIntS_c (k := d + 1) _ hu (by omega) (by omega)).mono ?_
      rintro e w1 ⟨rfl, hu4, hM4⟩
      have HU4 := Lib.hid hu4; have HM4 := Lib.hid hM4; have HK4 := HK
      have HM3 := Lib.hid (HM2.out.trans (hM4.mono fun b' ho => .inr ⟨_, List.mem_of_getElem? Hx.out, ho⟩)); have Hb3 := Lib.hid (hM4.blk Hb.out hbu)
      have HK3 : Hid (KeepsT 35 w1 w1) := Lib.hid (KeepsT.refl _ _)
      clear HM2 HK Hb hu hbu hu4 hM4; have HM2 := HM3; have HK := HK3; have Hb := Hb3; clear HM3 HK3 Hb3
      have d0 : World.cell? _ ⟨b, o + j * 3, none⟩ = some (.int .i64 (d)) := (Hb.out.cell _).trans (by rw [Array.getElem?_setIfInBounds, if_pos rfl, if_pos (by (try simp only [Array.size_setIfInBounds]); omega)])
      have f0 := Hb.out.frozen (o + j * 3)
      have d1 : World.cell? _ ⟨b, o + j * 3 + 1, none⟩ = some (.slice Au x.bytes.length cu) := (Hb.out.cell _).trans (by rw [Array.getElem?_setIfInBounds, if_neg (by omega)]; exact HC.out.2.1)
      have d2 : World.cell? _ ⟨b, o + j * 3 + 2, none⟩ = some (.int .i64 x.uses) := (Hb.out.cell _).trans (by rw [Array.getElem?_setIfInBounds, if_neg (by omega)]; exact HC.out.2.2)
      have f2 := Hb.out.frozen (o + j * 3 + 2)
      have hd3 : Hid (d + 1 + (x.bytes.length : Nat) + 1 = k + (cHds ((l.map Prod.fst).take (j + 1)) : Nat)) := Lib.hid (by rw [Hc.out, hd.out]; have hw : wHd x = 2 + x.bytes.length := rfl; omega)
      go_wp2
      clear d0 d1 d2 f0 f2
      have HM3 := Lib.hid (HM2.out.trans (Mod.set (S := FootHd (Value.slice (some ⟨b, o, none⟩) n c) l) (p := ⟨b, o + j * 3 + 2, none⟩) (.inl ⟨rfl, Hne.out⟩) (.int .i64 (d + 1 + (x.bytes.length : Nat)))))
      have HK3 := Lib.hid (HK.out.trans (KeepsT.set (i := o + j * 3 + 2) Hb.out (.int .i64 (d + 1 + (x.bytes.length : Nat))) rfl))
      have Hb3 := Lib.hid (Hb.out.set_ (o + j * 3 + 2) (.int .i64 (d + 1 + (x.bytes.length : Nat))))
      clear HM2 HK Hb; have HM2 := HM3; have HK := HK3; have Hb := Hb3; clear HM3 HK3 Hb3
      have hup : Hid (SlIn B 35 3 (EHdU B) _ (some ⟨b, o, none⟩) c (mkHdsU k (l.take (j + 1)) ++ l.drop (j + 1))) := Lib.hid (by
        have hdr := drop_cons Hx.out
        have e : mkHdsU k (l.take (j + 1)) ++ l.drop (j + 1) = (mkHdsU k (l.take j) ++ l.drop j).set j (mkHd d x, .slice Au x.bytes.length cu) := by
          rw [hdr, set_mid (by rw [mkHdsU_len, Htl.out]), List.take_add_one, Hx.out, Option.toList_some, mkHdsU_snoc, List.append_assoc, List.map_take, ← hd.out]; rfl
        rw [e]
        refine SlIn.upd hS.out HL.out fun cs2 hb2 he2 => ⟨_, Hb.out, ?_, fun i z hi hz hez => ?_⟩
        · exact ⟨(by rw [Array.getElem?_setIfInBounds, if_neg (by omega)]; rw [Array.getElem?_setIfInBounds, if_pos rfl, if_pos (by (try simp only [Array.size_setIfInBounds]); omega)]; rfl), (show inI (d) by unfold inI; omega), (by rw [Array.getElem?_setIfInBounds, if_neg (by omega)]; rw [Array.getElem?_setIfInBounds, if_neg (by omega)]; exact HC.out.2.1), (by rw [Array.getElem?_setIfInBounds, if_pos rfl, if_pos (by (try simp only [Array.size_setIfInBounds]); omega)]; rfl), (show inI (d + 1 + (x.bytes.length : Nat)) by unfold inI; omega), HU4.out.keepT HK.out (by decide)⟩
        · obtain rfl := hb2.inj Hb0.out
          obtain ⟨zi, zu⟩ := z
          obtain ⟨q0, g0, q1, q2, g2, qI⟩ := hez
          simp only at q0 g0 q1 q2 g2 qI
          have q3' := ((qI.keepT HK4.out (by decide)).mod HM4.out (fun b' ho ho' => by
            have hii : ∃ zi', l[i]? = some (zi', zu) := by
              have e2 : ((mkHdsU k (l.take j) ++ l.drop j).map Prod.snd)[i]? = some zu := by rw [List.getElem?_map, hz]; rfl
              rw [List.map_append, mkHdsU_snd, ← List.map_append, List.take_append_drop, List.getElem?_map, Option.map_eq_some_iff] at e2
              obtain ⟨q', h1, rfl⟩ := e2
              exact ⟨q'.1, h1⟩
            obtain ⟨zi', hz'⟩ := hii
            exact HS.out.ne Hx.out hz' (fun e => hi e.symm) ho'.1 ho.1)).keepT HK.out (by decide)
          exact ⟨(by rw [Array.getElem?_setIfInBounds, if_neg (by omega)]; rw [Array.getElem?_setIfInBounds, if_neg (by omega)]; exact q0), g0, (by rw [Array.getElem?_setIfInBounds, if_neg (by omega)]; rw [Array.getElem?_setIfInBounds, if_neg (by omega)]; exact q1), (by rw [Array.getElem?_setIfInBounds, if_neg (by omega)]; rw [Array.getElem?_setIfInBounds, if_neg (by omega)]; exact q2), g2, q3'⟩)
      go_roundw
      case rel => exact ⟨j + 1, _, by omega, by go_num, rfl, hd3, hup, Lib.hid (hM.out.trans HM2.out)⟩
      case measure => simp [RowKit.intOf]; omega
    · have hjs : j = n := by omega
      subst hjs
      have ht : l.take j = l := List.take_of_length_le (by rw [Hn.out]; exact Nat.le_refl _)
      have ht2 : (l.map Prod.fst).take j = l.map Prod.fst := by rw [← List.map_take, ht]
      have hS2 : Hid (SlIn B 35 3 (EHdU B) wr A c (mkHdsU k l)) := Lib.hid (by have := hS.out; rwa [ht, List.drop_eq_nil_of_le (by rw [Hn.out]; exact Nat.le_refl _), List.append_nil] at this)
      have hd2 := hd.out
      rw [ht2] at hd2
      clear hS hd ht ht2
      go_wp2
      go_ret
      exact ⟨ret_v (by rw [hd2]; rfl), ⟨A, c, by rw [mkHdsU_len, Hn.out], hS2.out⟩, hM.out⟩
set_option maxRecDepth 4000 in
set_option maxHeartbeats 1000000 in
theorem heldHdS_c {B : Nat} {v : Value} {l : List Hd} {k : Int} (w : World) (h : Hds B w v (mkHds k l)) (h0 : 1 ≤ k) (h1 : k + (cHds l : Nat) ≤ 1152921504606846976) :
    Calls TryG.prog 24 #[v, .int .i64 k] w (Ret (.int .i64 (k + (cHds l : Nat))) w) := by
  obtain ⟨A, c, rfl, hA⟩ := h
  have hl := hA.2.2.1
  unfold lim at hl
  have hex : ∃ n, (mkHds k l).length = n := ⟨_, rfl⟩
  obtain ⟨n, hn⟩ := hex
  rw [hn] at hl ⊢
  have Hn : Hid (l.length = n) := Lib.hid (by rw [← hn, mkHds_len])
  have HA := Lib.hid hA
  have H1 := Lib.hid h1
  clear hA hn h1
  go_enter TryG.func24, TryG.ntmps24
  go_wp2
  go_loopw [1, 5] (fun q i wr => ∃ (j : Nat) (d : Int), j ≤ n ∧ i = .int .i64 j ∧ q = .int .i64 d ∧ Ext w wr ∧ Hid (d = k + (cHds (l.take j) : Nat))) (fun _ i _ => n - (RowKit.intOf i).toNat)
  case atStart => exact ⟨0, k, by omega, rfl, rfl, Ext.refl w, Lib.hid (by simp [cHds])⟩
  case round =>
    obtain ⟨j, d, hj, rfl, rfl, he, hd⟩ := hrel
    by_cases hlt : j < n
    · obtain ⟨x, hx⟩ := get_of_lt (l := l) (k := j) (by rw [Hn.out]; exact hlt)
      have hm := mkHds_get (k := k) hx
      rw [← hd.out] at hm
      obtain ⟨b, o, u, rfl, -, -, -, hI, -, y0, y1, y2⟩ := Hds.at_ HA.out hm
      have hc := cHds_take hx
      have hc2 := cHds_take_le l (j + 1)
      have hdb : 1 ≤ d ∧ d + 2 + (x.bytes.length : Nat) ≤ 1152921504606846976 := by
        have := hd.out; have := H1.out; have hw : wHd x = 2 + x.bytes.length := rfl
        omega
      obtain ⟨hd1, hd2⟩ := hdb
      have hlen := hI.len
      obtain ⟨Au, cu, rfl, hU⟩ := hI
      have d0 : ∀ W, Ext wr W → W.cell? ⟨b, o + j * 3, none⟩ = some (.int .i64 (d)) := fun W e => y0 W (he.trans e)
      have d1 : ∀ W, Ext wr W → W.cell? ⟨b, o + j * 3 + 1, none⟩ = some (.slice Au (mkInts (d + 1) x.bytes.length).length cu) := fun W e => y1 W (he.trans e)
      have d2 : ∀ W, Ext wr W → W.cell? ⟨b, o + j * 3 + 2, none⟩ = some (.int .i64 (d + 1 + (x.bytes.length : Nat))) := fun W e => y2 W (he.trans e)
      have Ch : ∀ W, Ext wr W → Calls TryG.prog 49 #[.slice Au (mkInts (d + 1) x.bytes.length).length cu, .int .i64 (d + 1)] W (Ret (.int .i64 (d + 1 + (x.bytes.length : Nat))) W) := fun W e => heldIntS_c W (Ints.ext (w := w) ⟨Au, cu, rfl, hU⟩ (he.trans e)) (by omega) (by omega)
      have hd3 : Hid (d + 1 + (x.bytes.length : Nat) + 1 = k + (cHds (l.take (j + 1)) : Nat)) := Lib.hid (by rw [hc, hd.out]; have hw : wHd x = 2 + x.bytes.length := rfl; omega)
      simp only [mkInts_len] at d1 Ch
      clear y0 y1 y2 hx hm hc hc2 hU hlen
      go_wp2_with (go_at_call 49; refine (Ch _ (Ext.refl _)).mono ?_; rintro e w9 ⟨rfl, he9⟩; have d2 := d2 _ he9)
      go_roundw
      case rel => exact ⟨j + 1, _, by omega, by go_num, rfl, he.trans ((Ext.refl wr).trans he9), hd3⟩
      case measure => simp [RowKit.intOf]; omega
    · have hjs : j = n := by omega
      subst hjs
      have ht : l.take j = l := List.take_of_length_le (by rw [Hn.out]; exact Nat.le_refl _)
      have hd2 := hd.out
      rw [ht] at hd2
      clear hd ht
      go_wp2
      go_ret
      exact ⟨ret_v (by rw [hd2]; rfl), he⟩
end Go.Sf

/-! What was marked is held: items (written by gen_marks.py). -/
namespace Go.Sf
open Go Go.RowKit Go.Proofs
end Go.Sf

/-! Arguments that are changes: how large they are; copies of them. -/
namespace Go.Sf
open Go Go.RowKit Go.Proofs
end Go.Sf
