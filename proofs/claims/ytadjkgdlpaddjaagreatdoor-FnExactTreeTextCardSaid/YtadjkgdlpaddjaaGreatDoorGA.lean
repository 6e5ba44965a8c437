/- The words that all walks use: worlds that grow, what slices read as, appends, drawn regions. -/
import Derived.WalkKit
import Derived.LoopTactic
import Derived.WalkLawsBesides
import Derived.WalkSpells
import Derived.Lib.Hide
import Derived.Deep.Quiet
import Derived.Deep.Draws
import Derived.KernelRfl
import Derived.Deep.DeepMust
import Derived.Test.YtadjkgdlpaddjaaGreatDoorChecked
import Derived.Laws.AppendOwn
import Derived.Laws.AppendOwnNone
import Derived.OrdersHeld
import Derived.StillTail
import Derived.Deep.RegionHeld3
set_option linter.all false
/-! The words that all walks of this claim use: worlds that only grow, cells that stay, what a slice reads as; and one rule for regions whose order is drawn. -/
namespace Go.Sf
open Go Go.RowKit

/-- Every block that was there is as it was; new ones may have come. -/
def Ext (w w' : World) : Prop := Below w.heap.size w w'

theorem Ext.refl (w : World) : Ext w w := Below.refl _ _
theorem Ext.trans {a b c : World} (h : Ext a b) (k : Ext b c) : Ext a c :=
  Below.trans h (Below.mono k (Below.size h))
theorem Ext.alloc {a w : World} (h : Ext a w) (o : Obj) : Ext a (w.alloc o) := Below.alloc h (Below.size h) o
theorem Ext.drew {a w : World} (h : Ext a w) : Ext a w.drew := Below.drew h
theorem Ext.same {a w w' : World} (h : Ext a w) (ho : w'.os = w.os) (ht : w'.tape = w.tape) (hu : w'.output = w.output) (hh : w'.heap = w.heap) : Ext a w' :=
  ⟨ho.trans (Below.os h), ht.trans (Below.tape h), hu.trans (Below.output h), by rw [hh]; exact Below.size h, fun k hk => by rw [hh]; exact Below.block h k hk⟩
theorem Ext.drewN {a w : World} (h : Ext a w) (n : Nat) : Ext a (w.drewN n) := h.same rfl rfl rfl rfl
theorem Ext.setCell {a w : World} (h : Ext a w) {p : Addr} (hp : a.heap.size ≤ p.block) (u : Value) : Ext a (w.setCell p u) := Below.setCell h hp u
theorem Ext.size {a w : World} (h : Ext a w) : a.heap.size ≤ w.heap.size := Below.size h
theorem Ext.block {a w : World} (h : Ext a w) {k : Nat} (hk : k < a.heap.size) : w.heap[k]? = a.heap[k]? := Below.block h k hk
theorem Ext.cell {a w : World} (h : Ext a w) {p : Addr} {v : Value} (hc : a.cell? p = some v) : w.cell? p = some v :=
  (Below.cell h (World.block_lt_of_cell? _ _ hc)).trans hc
theorem ext_refl_true (w : World) : Ext w w = True := eq_true (Ext.refl w)
theorem ext_drew_eq (a w : World) : Ext a w.drew = Ext a w :=
  propext ⟨fun h => Ext.same h rfl rfl rfl rfl, Ext.drew⟩
theorem ext_drewN_eq (a w : World) (n : Nat) : Ext a (w.drewN n) = Ext a w :=
  propext ⟨fun h => Ext.same h rfl rfl rfl rfl, fun h => h.drewN n⟩
attribute [go_sem] ext_refl_true ext_drew_eq ext_drewN_eq Ext.alloc

/-- What a call leaves that returns v and only makes memory. -/
def Ret (v : Value) (w : World) (e : Ending) (w' : World) : Prop := e = .returned v ∧ Ext w w'
/-- The same where of the value a property is told. -/
def RetP (R : Value → World → Prop) (w : World) (e : Ending) (w' : World) : Prop := ∃ v, e = .returned v ∧ R v w' ∧ Ext w w'

theorem Ret.at_ {v : Value} {a w : World} (h : Ext a w) : ∀ e w', Ret v w e w' → Ret v a e w' := fun _ _ ⟨h1, h2⟩ => ⟨h1, h.trans h2⟩

/-! ### regions that draw their order -/
section
variable {P : Program} {ops : Array Oper} {Q : Exit → Act → World → Prop} {a : Act} {w : World} {rest : List Oper} {o : Oper} {QQ : Act → Prop} {u : Value}

/-- the walk of a region in the order of the text, as a word that no tactic looks into -/
@[irreducible] def WQ (P : Program) (ops : Array Oper) (C : World → Prop) (QQ : Act → Prop) (l : List Oper) (a : Act) : Prop := wpQuiet P ops C QQ l a
theorem WQ_of {C : World → Prop} {l : List Oper} (h : wpQuiet P ops C QQ l a) : WQ P ops C QQ l a := by unfold WQ; exact h
theorem of_WQ {C : World → Prop} {l : List Oper} (h : WQ P ops C QQ l a) : wpQuiet P ops C QQ l a := by unfold WQ at h; exact h
theorem wp_region_ext {id : Nat} {l : List Oper} (hm : P.follows .mixedOrders = true) (hB : Region.lexB .any l.toArray = true)
    (h : WQ P l.toArray (Ext w) (fun a' => ∀ w', Ext w w' → Q .normal a' w') l a) : (Code.region id l.toArray true).wp P Q a w :=
  wp_region_quiet (C := Ext w) hm hB (Ext.refl w).drew (by simpa using of_WQ h)
theorem q_nil (h : QQ a) : WQ P ops (Ext w) QQ [] a := WQ_of (wpQuiet_nil h)
theorem qg_plain (hg : Region.wanted o (yielded ops a.tmps) = true) (h : ∀ W, Ext w W → (execOp a.eval o).run P W = .ok (.value u) W)
    (k : WQ P ops (Ext w) QQ rest (a.put o.dst u)) : WQ P ops (Ext w) QQ (o :: rest) a := by
  refine WQ_of (wpQuiet_step fun K hK => ?_)
  rw [if_pos hg]
  exact ⟨u, fun W hW => by simp only [Oper.quietAt, h W hW, Oper.quietUpon, and_self], hK _ (of_WQ k)⟩
theorem qg_call {f : FuncId} {args : Array Value} (hg : Region.wanted o (yielded ops a.tmps) = true) (h : ∀ W, Ext w W → (execOp a.eval o).run P W = .ok (.enter f args) W)
    (hc : ∀ W, Ext w W → Calls P f args W (Ret u W)) (k : WQ P ops (Ext w) QQ rest (a.put o.dst u)) : WQ P ops (Ext w) QQ (o :: rest) a := by
  refine WQ_of (wpQuiet_step fun K hK => ?_)
  rw [if_pos hg]
  exact ⟨u, fun W hW => by simp only [Oper.quietAt, h W hW, Oper.quietUpon, true_and]; exact (hc W hW).mono fun e w' ⟨h1, h2⟩ => ⟨h1, hW.trans h2⟩, hK _ (of_WQ k)⟩
theorem qg_skip (hg : Region.wanted o (yielded ops a.tmps) = false)
    (k : WQ P ops (Ext w) QQ rest (a.put o.dst undef)) : WQ P ops (Ext w) QQ (o :: rest) a := by
  refine WQ_of (wpQuiet_step fun K hK => ?_)
  rw [hg, if_neg (by simp)]
  exact hK _ (of_WQ k)
theorem q_plain (hg : o.guard = none) (h : ∀ W, Ext w W → (execOp a.eval o).run P W = .ok (.value u) W)
    (k : WQ P ops (Ext w) QQ rest (a.put o.dst u)) : WQ P ops (Ext w) QQ (o :: rest) a :=
  qg_plain (by simp [Region.wanted, hg]) h k
theorem q_call {f : FuncId} {args : Array Value} (hg : o.guard = none) (h : ∀ W, Ext w W → (execOp a.eval o).run P W = .ok (.enter f args) W)
    (hc : ∀ W, Ext w W → Calls P f args W (Ret u W)) (k : WQ P ops (Ext w) QQ rest (a.put o.dst u)) : WQ P ops (Ext w) QQ (o :: rest) a :=
  qg_call (by simp [Region.wanted, hg]) h hc k
end
end Go.Sf

/-! What the values of this program read as in memory: slices of ints, of strings, of items; and that they go on reading so while memory only grows. -/
namespace Go.Sf
open Go Go.RowKit

/-- no list that is read here is longer, nor a string -/
def lim : Nat := 4194304
/-- Block b is just the cells cs, of elements of type t, none of them frozen. -/
def Blk (w : World) (b : Nat) (t : TypeId) (cs : Array Value) : Prop := w.heap[b]? = some (.cells cs t (0, 0))
/-- Blocks from B on that were there are as they were. -/
def Keeps (B : Nat) (w w' : World) : Prop := ∀ b, B ≤ b → b < w.heap.size → w'.heap[b]? = w.heap[b]?
theorem Ext.keeps {w w' : World} (h : Ext w w') (B : Nat) : Keeps B w w' := fun _ _ hb => h.block hb

section
variable {w w' : World} {b : Nat} {t : TypeId} {cs : Array Value}
theorem Blk.lt (h : Blk w b t cs) : b < w.heap.size := by
  rcases Nat.lt_or_ge b w.heap.size with hlt | hge
  · exact hlt
  · unfold Blk at h; rw [Array.getElem?_eq_none hge] at h; cases h
theorem Blk.keep {B : Nat} (h : Blk w b t cs) (hB : B ≤ b) (hk : Keeps B w w') : Blk w' b t cs := (hk b hB h.lt).trans h
theorem Blk.ext (h : Blk w b t cs) (e : Ext w w') : Blk w' b t cs := (e.block h.lt).trans h
theorem Blk.cell (h : Blk w b t cs) (i : Nat) : w.cell? ⟨b, i, none⟩ = cs[i]? := by
  unfold Blk at h; simp [World.cell?, h]
theorem Blk.frozen (h : Blk w b t cs) (i : Nat) : w.frozen? ⟨b, i, none⟩ = false := by
  unfold Blk at h
  simp [World.frozen?, h]
theorem Blk.new (w : World) (t : TypeId) (cs : Array Value) : Blk (w.alloc (.cells cs t)) w.heap.size t cs := by
  show (w.heap.push _)[w.heap.size]? = _; simp
theorem Blk.set_ (h : Blk w b t cs) (i : Nat) (u : Value) : Blk (w.setCell ⟨b, i, none⟩ u) b t (cs.setIfInBounds i u) := by
  unfold Blk at h ⊢
  simp [World.setCell, Array.getElem?_modify, h]
theorem Blk.far (h : Blk w b t cs) {p : Addr} (hp : b ≠ p.block) (u : Value) : Blk (w.setCell p u) b t cs := (Below.heap_setCell w p u b hp).trans h
theorem Blk.alloc (h : Blk w b t cs) (o : Obj) : Blk (w.alloc o) b t cs := (Below.heap_alloc w o b h.lt).trans h
theorem Blk.ne_ {g' : Nat} {t' : TypeId} {cs' : Array Value} (h : Blk w b t cs) (h' : Blk w g' t' cs') (hne : t ≠ t') : b ≠ g' := by
  rintro rfl
  unfold Blk at h h'
  rw [h] at h'
  injection h' with h'
  injection h' with _ ht
  exact hne ht
/-- a cell of such a block, in whatever world that came of this one -/
theorem Blk.at_ (h : Blk w b t cs) {i : Nat} {u : Value} (hu : cs[i]? = some u) : ∀ W, Ext w W → W.cell? ⟨b, i, none⟩ = some u :=
  fun W e => by rw [(h.ext e).cell, hu]
end

/-- The slice at A, of capacity c, has just the elements l: they lie in one block from B on, sz cells each. -/
def SlIn {α : Type} (B : Nat) (t : TypeId) (sz : Nat) (E : World → Array Value → Nat → α → Prop) (w : World) (A : Option Addr) (c : Nat) (l : List α) : Prop :=
  l.length ≤ c ∧ (c ≤ maxLen ∧ (A = none → c = 0)) ∧ l.length ≤ lim ∧ ∀ k x, l[k]? = some x → ∃ b o cs, A = some ⟨b, o, none⟩ ∧ B ≤ b ∧ Blk w b t cs ∧ E w cs (o + k * sz) x
def SlOf {α : Type} (B : Nat) (t : TypeId) (sz : Nat) (E : World → Array Value → Nat → α → Prop) (w : World) (v : Value) (l : List α) : Prop :=
  ∃ A c, v = .slice A l.length c ∧ SlIn B t sz E w A c l

section
variable {α : Type} {B B' : Nat} {t : TypeId} {sz : Nat} {E E' : World → Array Value → Nat → α → Prop} {w w' : World} {v : Value} {l : List α} {A : Option Addr} {c : Nat}
theorem SlIn.mono (h : SlIn B t sz E w A c l) (hB : B' ≤ B) (hk : Keeps B w w') (hE : ∀ cs p x, E w cs p x → E' w' cs p x) : SlIn B' t sz E' w' A c l :=
  ⟨h.1, h.2.1, h.2.2.1, fun k x hx => let ⟨b, o, cs, h1, h2, h3, h4⟩ := h.2.2.2 k x hx; ⟨b, o, cs, h1, Nat.le_trans hB h2, h3.keep h2 hk, hE _ _ _ h4⟩⟩
theorem SlOf.mono (h : SlOf B t sz E w v l) (hB : B' ≤ B) (hk : Keeps B w w') (hE : ∀ cs p x, E w cs p x → E' w' cs p x) : SlOf B' t sz E' w' v l :=
  let ⟨A, c, hv, hi⟩ := h; ⟨A, c, hv, hi.mono hB hk hE⟩
theorem SlOf.len (h : SlOf B t sz E w v l) : l.length ≤ lim := let ⟨_, _, _, hi⟩ := h; hi.2.2.1
theorem SlOf.one (h : SlOf B t sz E w v l) : v.oneCell' = true := by
  obtain ⟨A, c, rfl, -⟩ := h; rfl
theorem SlOf.nil (B : Nat) (t : TypeId) (sz : Nat) (E : World → Array Value → Nat → α → Prop) (w : World) : SlOf B t sz E w (.slice none 0 0) [] :=
  ⟨none, 0, rfl, Nat.le_refl _, ⟨Nat.zero_le _, fun _ => rfl⟩, Nat.zero_le _, fun k x h => by simp at h⟩
theorem SlOf.empty (B : Nat) (t : TypeId) (sz : Nat) (E : World → Array Value → Nat → α → Prop) (w : World) (A : Option Addr) (c : Nat) (hc : c ≤ maxLen) (h0 : A = none → c = 0) : SlOf B t sz E w (.slice A 0 c) [] :=
  ⟨A, c, rfl, Nat.zero_le _, ⟨hc, h0⟩, Nat.zero_le _, fun k x h => by simp at h⟩
/-- A row of the call's own reads as a list, where its cells do. -/
theorem SlOf.of_own {base : Nat} {xs : List Value} (h : w.ownsRow base t sz v l.length xs) (hB : B ≤ base) (hl : l.length ≤ lim)
    (hE : ∀ k x cs, l[k]? = some x → (∀ j, j < sz → cs[k * sz + j]? = xs[k * sz + j]?) → E w cs (k * sz) x) : SlOf B t sz E w v l := by
  obtain ⟨h1, h2⟩ := h
  rcases h2 with ⟨rfl, hn⟩ | ⟨g, cap, cur, rfl, hg, hh, hnc, hcm, hcs, htk⟩
  · have : l = [] := List.length_eq_zero_iff.1 hn
    subst this
    exact SlOf.nil ..
  · refine ⟨_, _, rfl, hnc, ⟨hcm, fun h => by cases h⟩, hl, fun k x hx => ⟨g, 0, cur, rfl, Nat.le_trans hB hg, hh, ?_⟩⟩
    rw [Nat.zero_add]
    refine hE k x cur hx fun j hj => ?_
    have hk : k < l.length := by
      rcases Nat.lt_or_ge k l.length with hlt | hge
      · exact hlt
      · rw [List.getElem?_eq_none hge] at hx; cases hx
    have hlt : k * sz + j < l.length * sz := by
      have : (k + 1) * sz ≤ l.length * sz := Nat.mul_le_mul_right _ hk
      rw [Nat.add_mul, Nat.one_mul] at this
      omega
    rw [← htk, List.getElem?_take_of_lt hlt, Array.getElem?_toList]
end

/-- int64's range -/
def inI (x : Int) : Prop := -9223372036854775808 ≤ x ∧ x ≤ 9223372036854775807
def EInt (_ : World) (cs : Array Value) (p : Nat) (x : Int) : Prop := cs[p]? = some (.int .i64 x) ∧ inI x
def EStr (_ : World) (cs : Array Value) (p : Nat) (s : ByteArray) : Prop := cs[p]? = some (.string s) ∧ s.size < lim
def Ints (B : Nat) (w : World) (v : Value) (xs : List Int) : Prop := SlOf B 3 1 EInt w v xs
def Strs (B : Nat) (w : World) (v : Value) (xs : List ByteArray) : Prop := SlOf B 9 1 EStr w v xs
section
variable {B B' : Nat} {w w' : World} {v : Value}
theorem Ints.keep {xs : List Int} (h : Ints B w v xs) (hB : B' ≤ B) (hk : Keeps B w w') : Ints B' w' v xs := h.mono hB hk fun _ _ _ e => e
theorem Ints.ext {xs : List Int} (h : Ints B w v xs) (e : Ext w w') : Ints B w' v xs := h.keep (Nat.le_refl _) (e.keeps _)
theorem Strs.keep {xs : List ByteArray} (h : Strs B w v xs) (hB : B' ≤ B) (hk : Keeps B w w') : Strs B' w' v xs := h.mono hB hk fun _ _ _ e => e
theorem Strs.ext {xs : List ByteArray} (h : Strs B w v xs) (e : Ext w w') : Strs B w' v xs := h.keep (Nat.le_refl _) (e.keeps _)

theorem Ints.one {xs : List Int} (h : Ints B w v xs) : v.oneCell' = true := SlOf.one h
theorem Strs.one {xs : List ByteArray} (h : Strs B w v xs) : v.oneCell' = true := SlOf.one h
/-- one element, in whatever world that came of this one -/
theorem Ints.at_ {A : Option Addr} {c : Nat} {l : List Int} (h : SlIn B 3 1 EInt w A c l) {k : Nat} {x : Int} (hx : l[k]? = some x) :
    ∃ b o, A = some ⟨b, o, none⟩ ∧ B ≤ b ∧ b < w.heap.size ∧ inI x ∧ ∀ W, Ext w W → W.cell? ⟨b, o + k, none⟩ = some (.int .i64 x) := by
  obtain ⟨b, o, cs, rfl, hb, hB, he⟩ := h.2.2.2 k x hx
  rw [Nat.mul_one] at he
  exact ⟨b, o, rfl, hb, hB.lt, he.2, hB.at_ he.1⟩
theorem Strs.at_ {A : Option Addr} {c : Nat} {l : List ByteArray} (h : SlIn B 9 1 EStr w A c l) {k : Nat} {x : ByteArray} (hx : l[k]? = some x) :
    ∃ b o, A = some ⟨b, o, none⟩ ∧ B ≤ b ∧ b < w.heap.size ∧ x.size < lim ∧ ∀ W, Ext w W → W.cell? ⟨b, o + k, none⟩ = some (.string x) := by
  obtain ⟨b, o, cs, rfl, hb, hB, he⟩ := h.2.2.2 k x hx
  rw [Nat.mul_one] at he
  exact ⟨b, o, rfl, hb, hB.lt, he.2, hB.at_ he.1⟩
end
theorem get_of_lt {α : Type} {l : List α} {k : Nat} (h : k < l.length) : ∃ x, l[k]? = some x := ⟨l[k], by simp [h]⟩
end Go.Sf

/-! The structs of this program as data, and what they read as in memory. -/
namespace Go.Sf
open Go Go.RowKit
/-- impl.Item -/
structure It where
  path : ByteArray
  dir : Bool
  ids : List Int
  deriving DecidableEq
def EIt (B : Nat) (w : World) (cs : Array Value) (p : Nat) (x : It) : Prop :=
  cs[p]? = some (.string x.path) ∧ x.path.size < lim ∧ cs[p + 1]? = some (.bool x.dir) ∧ (∃ u, cs[p + 2]? = some u ∧ Ints B w u x.ids)
def Its (B : Nat) (w : World) (v : Value) (l : List It) : Prop := SlOf B 136 3 (EIt B) w v l
def ItV (B : Nat) (w : World) (v : Value) (x : It) : Prop := ∃ u2, v = .agg #[.string x.path, .bool x.dir, u2] ∧ x.path.size < lim ∧ Ints B w u2 x.ids
section
variable {B B' : Nat} {w w' : World} {v : Value}
theorem EIt.keep {cs : Array Value} {p : Nat} {x : It} (h : EIt B w cs p x) (hB : B' ≤ B) (hk : Keeps B w w') : EIt B' w' cs p x :=
  let ⟨h0, g0, h1, ⟨u2, h2, g2⟩⟩ := h; ⟨h0, g0, h1, ⟨u2, h2, g2.keep hB hk⟩⟩
theorem ItV.keep {x : It} (h : ItV B w v x) (hB : B' ≤ B) (hk : Keeps B w w') : ItV B' w' v x :=
  let ⟨u2, h, g0, g2⟩ := h; ⟨u2, h, g0, g2.keep hB hk⟩
theorem ItV.ext {x : It} (h : ItV B w v x) (e : Ext w w') : ItV B w' v x := h.keep (Nat.le_refl _) (e.keeps _)
theorem Its.keep {l : List It} (h : Its B w v l) (hB : B' ≤ B) (hk : Keeps B w w') : Its B' w' v l := h.mono hB hk fun _ _ _ e => e.keep hB hk
theorem Its.one {l : List It} (h : Its B w v l) : v.oneCell' = true := SlOf.one h
theorem Its.ext {l : List It} (h : Its B w v l) (e : Ext w w') : Its B w' v l := h.keep (Nat.le_refl _) (e.keeps _)
theorem Its.at_ {A : Option Addr} {c : Nat} {l : List It} (h : SlIn B 136 3 (EIt B) w A c l) {k : Nat} {x : It} (hx : l[k]? = some x) :
    ∃ b o u2, A = some ⟨b, o, none⟩ ∧ B ≤ b ∧ b < w.heap.size ∧ x.path.size < lim ∧ Ints B w u2 x.ids ∧ (∀ W, Ext w W → W.cell? ⟨b, o + k * 3, none⟩ = some (.string x.path)) ∧ (∀ W, Ext w W → W.cell? ⟨b, o + k * 3 + 1, none⟩ = some (.bool x.dir)) ∧ (∀ W, Ext w W → W.cell? ⟨b, o + k * 3 + 2, none⟩ = some (u2)) := by
  obtain ⟨b, o, cs, rfl, hb, hB, h0, g0, h1, ⟨u2, h2, g2⟩⟩ := h.2.2.2 k x hx
  exact ⟨b, o, u2, rfl, hb, hB.lt, g0, g2, hB.at_ h0, hB.at_ h1, hB.at_ h2⟩
end
/-- impl.Held -/
structure Hd where
  id : Int
  bytes : List Int
  uses : Int
  deriving DecidableEq
def EHd (B : Nat) (w : World) (cs : Array Value) (p : Nat) (x : Hd) : Prop :=
  cs[p]? = some (.int .i64 x.id) ∧ inI x.id ∧ (∃ u, cs[p + 1]? = some u ∧ Ints B w u x.bytes) ∧ cs[p + 2]? = some (.int .i64 x.uses) ∧ inI x.uses
def Hds (B : Nat) (w : World) (v : Value) (l : List Hd) : Prop := SlOf B 134 3 (EHd B) w v l
def HdV (B : Nat) (w : World) (v : Value) (x : Hd) : Prop := ∃ u1, v = .agg #[.int .i64 x.id, u1, .int .i64 x.uses] ∧ inI x.id ∧ Ints B w u1 x.bytes ∧ inI x.uses
section
variable {B B' : Nat} {w w' : World} {v : Value}
theorem EHd.keep {cs : Array Value} {p : Nat} {x : Hd} (h : EHd B w cs p x) (hB : B' ≤ B) (hk : Keeps B w w') : EHd B' w' cs p x :=
  let ⟨h0, g0, ⟨u1, h1, g1⟩, h2, g2⟩ := h; ⟨h0, g0, ⟨u1, h1, g1.keep hB hk⟩, h2, g2⟩
theorem HdV.keep {x : Hd} (h : HdV B w v x) (hB : B' ≤ B) (hk : Keeps B w w') : HdV B' w' v x :=
  let ⟨u1, h, g0, g1, g2⟩ := h; ⟨u1, h, g0, g1.keep hB hk, g2⟩
theorem HdV.ext {x : Hd} (h : HdV B w v x) (e : Ext w w') : HdV B w' v x := h.keep (Nat.le_refl _) (e.keeps _)
theorem Hds.keep {l : List Hd} (h : Hds B w v l) (hB : B' ≤ B) (hk : Keeps B w w') : Hds B' w' v l := h.mono hB hk fun _ _ _ e => e.keep hB hk
theorem Hds.one {l : List Hd} (h : Hds B w v l) : v.oneCell' = true := SlOf.one h
theorem Hds.ext {l : List Hd} (h : Hds B w v l) (e : Ext w w') : Hds B w' v l := h.keep (Nat.le_refl _) (e.keeps _)
theorem Hds.at_ {A : Option Addr} {c : Nat} {l : List Hd} (h : SlIn B 134 3 (EHd B) w A c l) {k : Nat} {x : Hd} (hx : l[k]? = some x) :
    ∃ b o u1, A = some ⟨b, o, none⟩ ∧ B ≤ b ∧ b < w.heap.size ∧ inI x.id ∧ Ints B w u1 x.bytes ∧ inI x.uses ∧ (∀ W, Ext w W → W.cell? ⟨b, o + k * 3, none⟩ = some (.int .i64 x.id)) ∧ (∀ W, Ext w W → W.cell? ⟨b, o + k * 3 + 1, none⟩ = some (u1)) ∧ (∀ W, Ext w W → W.cell? ⟨b, o + k * 3 + 2, none⟩ = some (.int .i64 x.uses)) := by
  obtain ⟨b, o, cs, rfl, hb, hB, h0, g0, ⟨u1, h1, g1⟩, h2, g2⟩ := h.2.2.2 k x hx
  exact ⟨b, o, u1, rfl, hb, hB.lt, g0, g1, g2, hB.at_ h0, hB.at_ h1, hB.at_ h2⟩
end
/-- impl.Change -/
structure Ch where
  kind : Int
  item : It
  deriving DecidableEq
def ECh (B : Nat) (w : World) (cs : Array Value) (p : Nat) (x : Ch) : Prop :=
  cs[p]? = some (.int .i64 x.kind) ∧ inI x.kind ∧ cs[p + 1]? = some (.string x.item.path) ∧ x.item.path.size < lim ∧ cs[p + 2]? = some (.bool x.item.dir) ∧ (∃ u, cs[p + 3]? = some u ∧ Ints B w u x.item.ids)
def Chs (B : Nat) (w : World) (v : Value) (l : List Ch) : Prop := SlOf B 198 4 (ECh B) w v l
def ChV (B : Nat) (w : World) (v : Value) (x : Ch) : Prop := ∃ u3, v = .agg #[.int .i64 x.kind, .string x.item.path, .bool x.item.dir, u3] ∧ inI x.kind ∧ x.item.path.size < lim ∧ Ints B w u3 x.item.ids
section
variable {B B' : Nat} {w w' : World} {v : Value}
theorem ECh.keep {cs : Array Value} {p : Nat} {x : Ch} (h : ECh B w cs p x) (hB : B' ≤ B) (hk : Keeps B w w') : ECh B' w' cs p x :=
  let ⟨h0, g0, h1, g1, h2, ⟨u3, h3, g3⟩⟩ := h; ⟨h0, g0, h1, g1, h2, ⟨u3, h3, g3.keep hB hk⟩⟩
theorem ChV.keep {x : Ch} (h : ChV B w v x) (hB : B' ≤ B) (hk : Keeps B w w') : ChV B' w' v x :=
  let ⟨u3, h, g0, g1, g3⟩ := h; ⟨u3, h, g0, g1, g3.keep hB hk⟩
theorem ChV.ext {x : Ch} (h : ChV B w v x) (e : Ext w w') : ChV B w' v x := h.keep (Nat.le_refl _) (e.keeps _)
theorem Chs.keep {l : List Ch} (h : Chs B w v l) (hB : B' ≤ B) (hk : Keeps B w w') : Chs B' w' v l := h.mono hB hk fun _ _ _ e => e.keep hB hk
theorem Chs.one {l : List Ch} (h : Chs B w v l) : v.oneCell' = true := SlOf.one h
theorem Chs.ext {l : List Ch} (h : Chs B w v l) (e : Ext w w') : Chs B w' v l := h.keep (Nat.le_refl _) (e.keeps _)
theorem Chs.at_ {A : Option Addr} {c : Nat} {l : List Ch} (h : SlIn B 198 4 (ECh B) w A c l) {k : Nat} {x : Ch} (hx : l[k]? = some x) :
    ∃ b o u3, A = some ⟨b, o, none⟩ ∧ B ≤ b ∧ b < w.heap.size ∧ inI x.kind ∧ x.item.path.size < lim ∧ Ints B w u3 x.item.ids ∧ (∀ W, Ext w W → W.cell? ⟨b, o + k * 4, none⟩ = some (.int .i64 x.kind)) ∧ (∀ W, Ext w W → W.cell? ⟨b, o + k * 4 + 1, none⟩ = some (.string x.item.path)) ∧ (∀ W, Ext w W → W.cell? ⟨b, o + k * 4 + 2, none⟩ = some (.bool x.item.dir)) ∧ (∀ W, Ext w W → W.cell? ⟨b, o + k * 4 + 3, none⟩ = some (u3)) := by
  obtain ⟨b, o, cs, rfl, hb, hB, h0, g0, h1, g1, h2, ⟨u3, h3, g3⟩⟩ := h.2.2.2 k x hx
  exact ⟨b, o, u3, rfl, hb, hB.lt, g0, g1, g3, hB.at_ h0, hB.at_ h1, hB.at_ h2, hB.at_ h3⟩
end
/-- impl.Part -/
structure Pt where
  kind : Int
  path : ByteArray
  dir : Bool
  bytes : List Int
  deriving DecidableEq
def EPt (B : Nat) (w : World) (cs : Array Value) (p : Nat) (x : Pt) : Prop :=
  cs[p]? = some (.int .i64 x.kind) ∧ inI x.kind ∧ cs[p + 1]? = some (.string x.path) ∧ x.path.size < lim ∧ cs[p + 2]? = some (.bool x.dir) ∧ (∃ u, cs[p + 3]? = some u ∧ Ints B w u x.bytes)
def Pts (B : Nat) (w : World) (v : Value) (l : List Pt) : Prop := SlOf B 200 4 (EPt B) w v l
def PtV (B : Nat) (w : World) (v : Value) (x : Pt) : Prop := ∃ u3, v = .agg #[.int .i64 x.kind, .string x.path, .bool x.dir, u3] ∧ inI x.kind ∧ x.path.size < lim ∧ Ints B w u3 x.bytes
section
variable {B B' : Nat} {w w' : World} {v : Value}
theorem EPt.keep {cs : Array Value} {p : Nat} {x : Pt} (h : EPt B w cs p x) (hB : B' ≤ B) (hk : Keeps B w w') : EPt B' w' cs p x :=
  let ⟨h0, g0, h1, g1, h2, ⟨u3, h3, g3⟩⟩ := h; ⟨h0, g0, h1, g1, h2, ⟨u3, h3, g3.keep hB hk⟩⟩
theorem PtV.keep {x : Pt} (h : PtV B w v x) (hB : B' ≤ B) (hk : Keeps B w w') : PtV B' w' v x :=
  let ⟨u3, h, g0, g1, g3⟩ := h; ⟨u3, h, g0, g1, g3.keep hB hk⟩
theorem PtV.ext {x : Pt} (h : PtV B w v x) (e : Ext w w') : PtV B w' v x := h.keep (Nat.le_refl _) (e.keeps _)
theorem Pts.keep {l : List Pt} (h : Pts B w v l) (hB : B' ≤ B) (hk : Keeps B w w') : Pts B' w' v l := h.mono hB hk fun _ _ _ e => e.keep hB hk
theorem Pts.one {l : List Pt} (h : Pts B w v l) : v.oneCell' = true := SlOf.one h
theorem Pts.ext {l : List Pt} (h : Pts B w v l) (e : Ext w w') : Pts B w' v l := h.keep (Nat.le_refl _) (e.keeps _)
theorem Pts.at_ {A : Option Addr} {c : Nat} {l : List Pt} (h : SlIn B 200 4 (EPt B) w A c l) {k : Nat} {x : Pt} (hx : l[k]? = some x) :
    ∃ b o u3, A = some ⟨b, o, none⟩ ∧ B ≤ b ∧ b < w.heap.size ∧ inI x.kind ∧ x.path.size < lim ∧ Ints B w u3 x.bytes ∧ (∀ W, Ext w W → W.cell? ⟨b, o + k * 4, none⟩ = some (.int .i64 x.kind)) ∧ (∀ W, Ext w W → W.cell? ⟨b, o + k * 4 + 1, none⟩ = some (.string x.path)) ∧ (∀ W, Ext w W → W.cell? ⟨b, o + k * 4 + 2, none⟩ = some (.bool x.dir)) ∧ (∀ W, Ext w W → W.cell? ⟨b, o + k * 4 + 3, none⟩ = some (u3)) := by
  obtain ⟨b, o, cs, rfl, hb, hB, h0, g0, h1, g1, h2, ⟨u3, h3, g3⟩⟩ := h.2.2.2 k x hx
  exact ⟨b, o, u3, rfl, hb, hB.lt, g0, g1, g3, hB.at_ h0, hB.at_ h1, hB.at_ h2, hB.at_ h3⟩
end
/-- impl.Snap -/
structure Sn where
  name : ByteArray
  tree : List It
  deriving DecidableEq
def ESn (B : Nat) (w : World) (cs : Array Value) (p : Nat) (x : Sn) : Prop :=
  cs[p]? = some (.string x.name) ∧ x.name.size < lim ∧ (∃ u, cs[p + 1]? = some u ∧ Its B w u x.tree)
def Sns (B : Nat) (w : World) (v : Value) (l : List Sn) : Prop := SlOf B 95 2 (ESn B) w v l
def SnV (B : Nat) (w : World) (v : Value) (x : Sn) : Prop := ∃ u1, v = .agg #[.string x.name, u1] ∧ x.name.size < lim ∧ Its B w u1 x.tree
section
variable {B B' : Nat} {w w' : World} {v : Value}
theorem ESn.keep {cs : Array Value} {p : Nat} {x : Sn} (h : ESn B w cs p x) (hB : B' ≤ B) (hk : Keeps B w w') : ESn B' w' cs p x :=
  let ⟨h0, g0, ⟨u1, h1, g1⟩⟩ := h; ⟨h0, g0, ⟨u1, h1, g1.keep hB hk⟩⟩
theorem SnV.keep {x : Sn} (h : SnV B w v x) (hB : B' ≤ B) (hk : Keeps B w w') : SnV B' w' v x :=
  let ⟨u1, h, g0, g1⟩ := h; ⟨u1, h, g0, g1.keep hB hk⟩
theorem SnV.ext {x : Sn} (h : SnV B w v x) (e : Ext w w') : SnV B w' v x := h.keep (Nat.le_refl _) (e.keeps _)
theorem Sns.keep {l : List Sn} (h : Sns B w v l) (hB : B' ≤ B) (hk : Keeps B w w') : Sns B' w' v l := h.mono hB hk fun _ _ _ e => e.keep hB hk
theorem Sns.one {l : List Sn} (h : Sns B w v l) : v.oneCell' = true := SlOf.one h
theorem Sns.ext {l : List Sn} (h : Sns B w v l) (e : Ext w w') : Sns B w' v l := h.keep (Nat.le_refl _) (e.keeps _)
theorem Sns.at_ {A : Option Addr} {c : Nat} {l : List Sn} (h : SlIn B 95 2 (ESn B) w A c l) {k : Nat} {x : Sn} (hx : l[k]? = some x) :
    ∃ b o u1, A = some ⟨b, o, none⟩ ∧ B ≤ b ∧ b < w.heap.size ∧ x.name.size < lim ∧ Its B w u1 x.tree ∧ (∀ W, Ext w W → W.cell? ⟨b, o + k * 2, none⟩ = some (.string x.name)) ∧ (∀ W, Ext w W → W.cell? ⟨b, o + k * 2 + 1, none⟩ = some (u1)) := by
  obtain ⟨b, o, cs, rfl, hb, hB, h0, g0, ⟨u1, h1, g1⟩⟩ := h.2.2.2 k x hx
  exact ⟨b, o, u1, rfl, hb, hB.lt, g0, g1, hB.at_ h0, hB.at_ h1⟩
end
/-- impl.Quota -/
structure Qt where
  dir : ByteArray
  most : Int
  deriving DecidableEq
def EQt (B : Nat) (w : World) (cs : Array Value) (p : Nat) (x : Qt) : Prop :=
  cs[p]? = some (.string x.dir) ∧ x.dir.size < lim ∧ cs[p + 1]? = some (.int .i64 x.most) ∧ inI x.most
def Qts (B : Nat) (w : World) (v : Value) (l : List Qt) : Prop := SlOf B 164 2 (EQt B) w v l
def QtV (B : Nat) (w : World) (v : Value) (x : Qt) : Prop := v = .agg #[.string x.dir, .int .i64 x.most] ∧ x.dir.size < lim ∧ inI x.most
section
variable {B B' : Nat} {w w' : World} {v : Value}
theorem EQt.keep {cs : Array Value} {p : Nat} {x : Qt} (h : EQt B w cs p x) (_hB : B' ≤ B) (_hk : Keeps B w w') : EQt B' w' cs p x :=
  let ⟨h0, g0, h1, g1⟩ := h; ⟨h0, g0, h1, g1⟩
theorem QtV.keep {x : Qt} (h : QtV B w v x) (_hB : B' ≤ B) (_hk : Keeps B w w') : QtV B' w' v x :=
  let ⟨h, g0, g1⟩ := h; ⟨h, g0, g1⟩
theorem QtV.ext {x : Qt} (h : QtV B w v x) (e : Ext w w') : QtV B w' v x := h.keep (Nat.le_refl _) (e.keeps _)
theorem Qts.keep {l : List Qt} (h : Qts B w v l) (hB : B' ≤ B) (hk : Keeps B w w') : Qts B' w' v l := h.mono hB hk fun _ _ _ e => e.keep hB hk
theorem Qts.one {l : List Qt} (h : Qts B w v l) : v.oneCell' = true := SlOf.one h
theorem Qts.ext {l : List Qt} (h : Qts B w v l) (e : Ext w w') : Qts B w' v l := h.keep (Nat.le_refl _) (e.keeps _)
theorem Qts.at_ {A : Option Addr} {c : Nat} {l : List Qt} (h : SlIn B 164 2 (EQt B) w A c l) {k : Nat} {x : Qt} (hx : l[k]? = some x) :
    ∃ b o, A = some ⟨b, o, none⟩ ∧ B ≤ b ∧ b < w.heap.size ∧ x.dir.size < lim ∧ inI x.most ∧ (∀ W, Ext w W → W.cell? ⟨b, o + k * 2, none⟩ = some (.string x.dir)) ∧ (∀ W, Ext w W → W.cell? ⟨b, o + k * 2 + 1, none⟩ = some (.int .i64 x.most)) := by
  obtain ⟨b, o, cs, rfl, hb, hB, h0, g0, h1, g1⟩ := h.2.2.2 k x hx
  exact ⟨b, o, rfl, hb, hB.lt, g0, g1, hB.at_ h0, hB.at_ h1⟩
end
/-- impl.Turn -/
structure Tn where
  snap : ByteArray
  kind : Int
  deriving DecidableEq
def ETn (B : Nat) (w : World) (cs : Array Value) (p : Nat) (x : Tn) : Prop :=
  cs[p]? = some (.string x.snap) ∧ x.snap.size < lim ∧ cs[p + 1]? = some (.int .i64 x.kind) ∧ inI x.kind
def Tns (B : Nat) (w : World) (v : Value) (l : List Tn) : Prop := SlOf B 152 2 (ETn B) w v l
def TnV (B : Nat) (w : World) (v : Value) (x : Tn) : Prop := v = .agg #[.string x.snap, .int .i64 x.kind] ∧ x.snap.size < lim ∧ inI x.kind
section
variable {B B' : Nat} {w w' : World} {v : Value}
theorem ETn.keep {cs : Array Value} {p : Nat} {x : Tn} (h : ETn B w cs p x) (_hB : B' ≤ B) (_hk : Keeps B w w') : ETn B' w' cs p x :=
  let ⟨h0, g0, h1, g1⟩ := h; ⟨h0, g0, h1, g1⟩
theorem TnV.keep {x : Tn} (h : TnV B w v x) (_hB : B' ≤ B) (_hk : Keeps B w w') : TnV B' w' v x :=
  let ⟨h, g0, g1⟩ := h; ⟨h, g0, g1⟩
theorem TnV.ext {x : Tn} (h : TnV B w v x) (e : Ext w w') : TnV B w' v x := h.keep (Nat.le_refl _) (e.keeps _)
theorem Tns.keep {l : List Tn} (h : Tns B w v l) (hB : B' ≤ B) (hk : Keeps B w w') : Tns B' w' v l := h.mono hB hk fun _ _ _ e => e.keep hB hk
theorem Tns.one {l : List Tn} (h : Tns B w v l) : v.oneCell' = true := SlOf.one h
theorem Tns.ext {l : List Tn} (h : Tns B w v l) (e : Ext w w') : Tns B w' v l := h.keep (Nat.le_refl _) (e.keeps _)
theorem Tns.at_ {A : Option Addr} {c : Nat} {l : List Tn} (h : SlIn B 152 2 (ETn B) w A c l) {k : Nat} {x : Tn} (hx : l[k]? = some x) :
    ∃ b o, A = some ⟨b, o, none⟩ ∧ B ≤ b ∧ b < w.heap.size ∧ x.snap.size < lim ∧ inI x.kind ∧ (∀ W, Ext w W → W.cell? ⟨b, o + k * 2, none⟩ = some (.string x.snap)) ∧ (∀ W, Ext w W → W.cell? ⟨b, o + k * 2 + 1, none⟩ = some (.int .i64 x.kind)) := by
  obtain ⟨b, o, cs, rfl, hb, hB, h0, g0, h1, g1⟩ := h.2.2.2 k x hx
  exact ⟨b, o, rfl, hb, hB.lt, g0, g1, hB.at_ h0, hB.at_ h1⟩
end
/-- impl.Volume -/
structure Vl where
  store : List Hd
  tree : List It
  deriving DecidableEq
def EVl (B : Nat) (w : World) (cs : Array Value) (p : Nat) (x : Vl) : Prop :=
  (∃ u, cs[p]? = some u ∧ Hds B w u x.store) ∧ (∃ u, cs[p + 1]? = some u ∧ Its B w u x.tree)
def VlV (B : Nat) (w : World) (v : Value) (x : Vl) : Prop := ∃ u0 u1, v = .agg #[u0, u1] ∧ Hds B w u0 x.store ∧ Its B w u1 x.tree
section
variable {B B' : Nat} {w w' : World} {v : Value}
theorem EVl.keep {cs : Array Value} {p : Nat} {x : Vl} (h : EVl B w cs p x) (hB : B' ≤ B) (hk : Keeps B w w') : EVl B' w' cs p x :=
  let ⟨⟨u0, h0, g0⟩, ⟨u1, h1, g1⟩⟩ := h; ⟨⟨u0, h0, g0.keep hB hk⟩, ⟨u1, h1, g1.keep hB hk⟩⟩
theorem VlV.keep {x : Vl} (h : VlV B w v x) (hB : B' ≤ B) (hk : Keeps B w w') : VlV B' w' v x :=
  let ⟨u0, u1, h, g0, g1⟩ := h; ⟨u0, u1, h, g0.keep hB hk, g1.keep hB hk⟩
theorem VlV.ext {x : Vl} (h : VlV B w v x) (e : Ext w w') : VlV B w' v x := h.keep (Nat.le_refl _) (e.keeps _)
end
/-- impl.Disk -/
structure Dk where
  store : List Hd
  tree : List It
  snaps : List Sn
  deriving DecidableEq
def EDk (B : Nat) (w : World) (cs : Array Value) (p : Nat) (x : Dk) : Prop :=
  (∃ u, cs[p]? = some u ∧ Hds B w u x.store) ∧ (∃ u, cs[p + 1]? = some u ∧ Its B w u x.tree) ∧ (∃ u, cs[p + 2]? = some u ∧ Sns B w u x.snaps)
def DkV (B : Nat) (w : World) (v : Value) (x : Dk) : Prop := ∃ u0 u1 u2, v = .agg #[u0, u1, u2] ∧ Hds B w u0 x.store ∧ Its B w u1 x.tree ∧ Sns B w u2 x.snaps
section
variable {B B' : Nat} {w w' : World} {v : Value}
theorem EDk.keep {cs : Array Value} {p : Nat} {x : Dk} (h : EDk B w cs p x) (hB : B' ≤ B) (hk : Keeps B w w') : EDk B' w' cs p x :=
  let ⟨⟨u0, h0, g0⟩, ⟨u1, h1, g1⟩, ⟨u2, h2, g2⟩⟩ := h; ⟨⟨u0, h0, g0.keep hB hk⟩, ⟨u1, h1, g1.keep hB hk⟩, ⟨u2, h2, g2.keep hB hk⟩⟩
theorem DkV.keep {x : Dk} (h : DkV B w v x) (hB : B' ≤ B) (hk : Keeps B w w') : DkV B' w' v x :=
  let ⟨u0, u1, u2, h, g0, g1, g2⟩ := h; ⟨u0, u1, u2, h, g0.keep hB hk, g1.keep hB hk, g2.keep hB hk⟩
theorem DkV.ext {x : Dk} (h : DkV B w v x) (e : Ext w w') : DkV B w' v x := h.keep (Nat.le_refl _) (e.keeps _)
end
end Go.Sf

/-! Lemmas on lists that are compared element by element. -/
namespace Go.Sf
open Go Go.RowKit Go.Proofs
theorem ne_of_get {α : Type} {xs ys : List α} {k : Nat} {x y : α} (h1 : xs[k]? = some x) (h2 : ys[k]? = some y) (h : x ≠ y) : xs ≠ ys := by
  rintro rfl; rw [h1] at h2; exact h (Option.some.inj h2)
theorem eq_of_get {α : Type} {xs ys : List α} {n : Nat} (h1 : xs.length = n) (h2 : ys.length = n) (h : ∀ j, j < n → xs[j]? = ys[j]?) : xs = ys := by
  refine List.ext_getElem? fun j => ?_
  rcases Nat.lt_or_ge j n with hj | hj
  · exact h j hj
  · rw [List.getElem?_eq_none (by omega), List.getElem?_eq_none (by omega)]
/-- equality as a bool that no tactic looks into -/
def eqb {α : Type} [DecidableEq α] (x y : α) : Bool := decide (x = y)
theorem eqb_iff {α : Type} [DecidableEq α] {x y : α} : eqb x y = true ↔ x = y := by unfold eqb; simp
theorem eqb_true {α : Type} [DecidableEq α] {x y : α} : eqb x y = true ↔ x = y := eqb_iff
theorem eqb_false {α : Type} [DecidableEq α] {x y : α} : eqb x y = false ↔ x ≠ y := by unfold eqb; simp
theorem ret_eqb {α : Type} [DecidableEq α] {x y : α} {b : Bool} (h : x = y ↔ b = true) : Ending.returned (.bool b) = .returned (.bool (eqb x y)) := by
  have : eqb x y = b := by rw [Bool.eq_iff_iff, eqb_iff]; exact h
  rw [this]
theorem bytes_inj {a b : ByteArray} : a.toList = b.toList ↔ a = b := by
  constructor
  · intro h; rw [ByteArray.toList_eq, ByteArray.toList_eq] at h; cases a; cases b; simp at h; rw [h]
  · rintro rfl; rfl
theorem bytes_ne_iff {a b : ByteArray} : (a.toList == b.toList) = decide (a = b) := by
  rw [Bool.eq_iff_iff]
  simp only [beq_iff_eq, decide_eq_true_iff, bytes_inj]
/-- of two lists the first k elements are alike -/
def Alike {α : Type} (xs ys : List α) (k : Nat) : Prop := ∀ j, j < k → xs[j]? = ys[j]?
theorem Alike.zero {α : Type} (xs ys : List α) : Alike xs ys 0 := fun j h => absurd h (by omega)
theorem Alike.succ {α : Type} {xs ys : List α} {k : Nat} {x : α} (h : Alike xs ys k) (h1 : xs[k]? = some x) (h2 : ys[k]? = some x) : Alike xs ys (k + 1) := fun j hj => by
  rcases Nat.lt_or_ge j k with hlt | hge
  · exact h j hlt
  · have : j = k := by omega
    rw [this, h1, h2]

end Go.Sf

/-! Slices of the call's own that are appended to: what they hold, and the step of an append. -/
namespace Go.Sf
open Go Go.RowKit

/-- Blocks of other element types than t are as they were. -/
def KeepsT (t : TypeId) (w w' : World) : Prop := ∀ b t' cs, t' ≠ t → Blk w b t' cs → Blk w' b t' cs
theorem Ext.keepsT {w w' : World} (h : Ext w w') (t : TypeId) : KeepsT t w w' := fun _ _ _ _ hb => hb.ext h
theorem KeepsT.trans {t : TypeId} {a b c : World} (h : KeepsT t a b) (k : KeepsT t b c) : KeepsT t a c := fun _ _ _ ht hb => k _ _ _ ht (h _ _ _ ht hb)
theorem SlOf.keepT {α : Type} {B : Nat} {t t' : TypeId} {sz : Nat} {E : World → Array Value → Nat → α → Prop} {w w' : World} {v : Value} {l : List α}
    (h : SlOf B t sz E w v l) (hk : KeepsT t' w w') (ht : t ≠ t') (hE : ∀ cs p x, E w cs p x → E w' cs p x) : SlOf B t sz E w' v l :=
  let ⟨A, c, hv, h1, h2, h3, h4⟩ := h
  ⟨A, c, hv, h1, h2, h3, fun k x hx => let ⟨b, o, cs, e1, e2, e3, e4⟩ := h4 k x hx; ⟨b, o, cs, e1, e2, hk _ _ _ ht e3, hE _ _ _ e4⟩⟩
theorem Ints.keepT {B : Nat} {t : TypeId} {w w' : World} {v : Value} {xs : List Int} (h : Ints B w v xs) (hk : KeepsT t w w') (ht : 3 ≠ t) : Ints B w' v xs :=
  SlOf.keepT h hk ht fun _ _ _ e => e
theorem Strs.keepT {B : Nat} {t : TypeId} {w w' : World} {v : Value} {xs : List ByteArray} (h : Strs B w v xs) (hk : KeepsT t w w') (ht : 9 ≠ t) : Strs B w' v xs :=
  SlOf.keepT h hk ht fun _ _ _ e => e

/-- what an element's reading must bear -/
structure ElOk {α : Type} (t : TypeId) (sz : Nat) (E : World → Array Value → Nat → α → Prop) : Prop where
  keepT : ∀ w w' cs p x, KeepsT t w w' → E w cs p x → E w' cs p x
  loc : ∀ w cs cs' p p' x, (∀ j, j < sz → cs'[p' + j]? = cs[p + j]?) → E w cs p x → E w cs' p' x
  full : ∀ w cs p x, E w cs p x → ∀ j, j < sz → ∃ u, cs[p + j]? = some u ∧ u.oneCell' = true
theorem eint_ok : ElOk 3 1 EInt := ⟨fun _ _ _ _ _ _ h => h, fun _ _ _ p p' _ hj h => ⟨by have := hj 0 (by omega); simp at this; rw [this]; exact h.1, h.2⟩, fun _ _ _ _ h j hj => ⟨_, by
  have : j = 0 := by omega
  subst this; exact h.1, rfl⟩⟩
theorem estr_ok : ElOk 9 1 EStr := ⟨fun _ _ _ _ _ _ h => h, fun _ _ _ p p' _ hj h => ⟨by have := hj 0 (by omega); simp at this; rw [this]; exact h.1, h.2⟩, fun _ _ _ _ h j hj => ⟨_, by
  have : j = 0 := by omega
  subst this; exact h.1, rfl⟩⟩

/-- v owns a row, from block base on, whose elements are l -/
def OwnS {α : Type} (base : Nat) (t : TypeId) (sz : Nat) (E : World → Array Value → Nat → α → Prop) (w : World) (v : Value) (l : List α) : Prop :=
  ∃ xs, w.ownsRow base t sz v l.length xs ∧ ∀ k x, l[k]? = some x → E w xs.toArray (k * sz) x

section
variable {α : Type} {base B : Nat} {t : TypeId} {sz : Nat} {E : World → Array Value → Nat → α → Prop} {w w' : World} {v : Value} {l : List α}
theorem OwnS.nil (base : Nat) (t : TypeId) (sz : Nat) (E : World → Array Value → Nat → α → Prop) (w : World) : OwnS base t sz E w (.slice none 0 0) [] :=
  ⟨[], World.ownsRow_nil _ _ _ _, fun k x h => by simp at h⟩
theorem OwnS.sl (h : OwnS base t sz E w v l) (hok : ElOk t sz E) (hB : B ≤ base) (hl : l.length ≤ lim) : SlOf B t sz E w v l := by
  obtain ⟨xs, h1, h2⟩ := h
  refine SlOf.of_own h1 hB hl fun k x cs hx hj => ?_
  exact hok.loc _ _ _ _ _ _ (fun j hjs => by rw [hj j hjs, List.getElem?_toArray]) (h2 k x hx)
theorem OwnS.mono {base' : Nat} (h : OwnS base t sz E w v l) (hb : base' ≤ base) : OwnS base' t sz E w v l := by
  obtain ⟨xs, ⟨h1, h1'⟩, h2⟩ := h
  refine ⟨xs, ⟨h1, ?_⟩, h2⟩
  rcases h1' with h | ⟨g, cap, cur, hv, hg, r⟩
  · exact .inl h
  · exact .inr ⟨g, cap, cur, hv, Nat.le_trans hb hg, r⟩
theorem OwnS.form (h : OwnS base t sz E w v l) : ∃ A c, v = .slice A l.length c := by
  obtain ⟨xs, ⟨h1, h2⟩, -⟩ := h
  rcases h2 with ⟨rfl, hn⟩ | ⟨g, cap, cur, rfl, -⟩
  · exact ⟨_, _, by rw [hn]⟩
  · exact ⟨_, _, rfl⟩
/-- it stays so while memory only grows -/
theorem OwnS.ext (h : OwnS base t sz E w v l) (hok : ElOk t sz E) (e : Ext w w') : OwnS base t sz E w' v l := by
  obtain ⟨xs, ⟨h1, h1'⟩, h2⟩ := h
  refine ⟨xs, ⟨h1, ?_⟩, fun k x hx => hok.keepT _ _ _ _ _ (e.keepsT _) (h2 k x hx)⟩
  rcases h1' with h | ⟨g, cap, cur, hv, hg, hh, r⟩
  · exact .inl h
  · exact .inr ⟨g, cap, cur, hv, hg, (Blk.ext (cs := cur) (t := t) hh e), r⟩
/-- .. and while rows of another type are written -/
theorem OwnS.keepT {t' : TypeId} (h : OwnS base t sz E w v l) (hk : KeepsT t' w w') (ht : t ≠ t') (hE : ∀ cs p x, E w cs p x → E w' cs p x) : OwnS base t sz E w' v l := by
  obtain ⟨xs, ⟨h1, h1'⟩, h2⟩ := h
  refine ⟨xs, ⟨h1, ?_⟩, fun k x hx => hE _ _ _ (h2 k x hx)⟩
  rcases h1' with h | ⟨g, cap, cur, hv, hg, hh, r⟩
  · exact .inl h
  · exact .inr ⟨g, cap, cur, hv, hg, hk _ _ _ ht hh, r⟩
end

theorem OwnS.lit0 {α : Type} {B : Nat} (t : TypeId) (sz : Nat) (E : World → Array Value → Nat → α → Prop) (w : World) (hB : B ≤ w.heap.size) :
    OwnS B t sz E (w.alloc (.cells #[] t)) (.slice (some ⟨w.heap.size, 0, none⟩) 0 0) [] :=
  ⟨[], ⟨by simp, .inr ⟨_, 0, #[], rfl, hB, Blk.new w t #[], Nat.le_refl _, Nat.zero_le _, by simp, by simp⟩⟩, fun k x h => by simp at h⟩
theorem OwnS.lit {α : Type} {B g : Nat} (t : TypeId) (sz : Nat) (E : World → Array Value → Nat → α → Prop) (w : World) (hB : B ≤ w.heap.size) (hg : g = w.heap.size) :
    OwnS B t sz E (w.alloc (.cells #[] t)) (.slice (some ⟨g, 0, none⟩) 0 0) [] := by subst hg; exact OwnS.lit0 t sz E w hB
theorem one_E {α : Type} {sz : Nat} {E : World → Array Value → Nat → α → Prop} {W : World} {cs : Array Value} {y0 : α} (h : E W cs 0 y0) : ∀ k y, [y0][k]? = some y → E W cs (k * sz) y := by
  intro k y hk
  cases k with
  | zero => simp at hk; subst hk; simpa using h
  | succ k => simp at hk
theorem one_cells {cs : List Value} (h : cs.all Value.oneCell' = true) : ∀ u ∈ cs, u.oneCell' = true := List.all_eq_true.1 h
theorem KeepsT.set {t t' : TypeId} {w : World} {b i : Nat} {cs : Array Value} (hb : Blk w b t cs) (u : Value) (ht : t = t') : KeepsT t' w (w.setCell ⟨b, i, none⟩ u) := by
  subst ht
  intro b' t' cs' hne h'
  exact h'.far (p := ⟨b, i, none⟩) (Blk.ne_ h' hb hne) u
theorem KeepsT.refl (t : TypeId) (w : World) : KeepsT t w w := fun _ _ _ _ h => h
/-- the facts on a slice type T of elements of type t that an append asks of the program's tables -/
structure Elem (P : Program) (T t : TypeId) (sz : Nat) : Prop where
  under : P.underlying T = some (.slice t)
  info : ∃ i z by_, P.info? t = some i ∧ i.zero = some z ∧ i.size = sz ∧ i.bytes = by_ ∧ by_ ≤ 128 ∧ z.cells.size = sz
  pos : 0 < sz
theorem elem_of {P : Program} {T t : TypeId} {sz : Nat} {z : Value} {b : Nat} (h1 : P.underlying T = some (.slice t)) (h2 : (P.info? t).map (fun i => (i.zero, i.size, i.bytes)) = some (some z, sz, b))
    (h3 : b ≤ 128) (h4 : z.cells.size = sz) (h5 : 0 < sz) : Elem P T t sz := by
  refine ⟨h1, ?_, h5⟩
  cases hi : P.info? t with
  | none => rw [hi] at h2; cases h2
  | some i =>
    rw [hi] at h2
    simp only [Option.map_some, Option.some.injEq, Prod.mk.injEq] at h2
    exact ⟨i, z, b, rfl, h2.1, h2.2.1, h2.2.2, h3, h4⟩

section
variable {P : Program} {α : Type} {ops : Array Oper} {rest : List Oper} {o : Oper} {a : Act} {Q : Exit → Act → World → Prop}
theorem grown_keepsT {W w' : World} {base t sz n : Nat} {v : Value} {xs : List Value} (hown : W.ownsRow base t sz v n xs) (hg : W.grownBy w' v.ownBlock) : KeepsT t W w' := by
  intro b t' cs ht hb
  refine (hg.block b hb.lt ?_).trans hb
  intro e
  rcases hown.2 with ⟨rfl, -⟩ | ⟨g, cap, cur, rfl, -, hh, -⟩
  · simp [Value.ownBlock] at e
  · simp only [Value.ownBlock, Option.some.injEq] at e
    subst e
    exact Blk.ne_ (t := t') (t' := t) hb hh ht rfl
theorem grown_ext {w0 W w' : World} {t sz n : Nat} {v : Value} {xs : List Value} (h0 : Ext w0 W) (hown : W.ownsRow w0.heap.size t sz v n xs) (hg : W.grownBy w' v.ownBlock) : Ext w0 w' := by
  refine Below.grown h0 hg (Below.size h0) fun k hk => ?_
  exact (hown.lt k hk).1
/-- AN APPEND OF ELEMENTS ys THAT LIE IN A ROW OF THEIR OWN at ad. -/
theorem wp_ap {W w0 : World} {T t sz : Nat} {E : World → Array Value → Nat → α → Prop} (hgd : o.guard = none) (s x : Operand)
    (ho : o.op = .call { callee := .builtin .append, args := #[s, x], argTypes := #[T, T] })
    (el : Elem P T t sz) (ok : ElOk t sz E) (h0 : Ext w0 W) (v : Value) (l ys : List α) (hs : a.eval s = v) (hown : OwnS w0.heap.size t sz E W v l)
    (ad : Addr) (m c : Nat) (hm : ys.length = m) (cs : Array Value) (hx : a.eval x = .slice (some ad) m c) (hcs : cs.size = m * sz) (hone : ∀ u ∈ cs.toList, u.oneCell' = true)
    (hc : ∀ j u, cs[j]? = some u → W.cell? (ad.add j) = some u) (hE : ∀ k y, ys[k]? = some y → E W cs (k * sz) y) (hl : l.length + ys.length ≤ lim)
    (h : ∀ v' w', OwnS w0.heap.size t sz E w' v' (l ++ ys) → Ext w0 w' → KeepsT t W w' → wpList P ops Q rest (a.put o.dst v') w') : wpList P ops Q (o :: rest) a W := by
  obtain ⟨i, z, by_, hi, hz, hsz, hby, hb128, hzs⟩ := el.info
  obtain ⟨xs, hrow, hxs⟩ := hown
  subst hm
  have hlim : (l.length + ys.length) * by_ ≤ 140737488355328 := by
    unfold lim at hl
    have : (l.length + ys.length) * by_ ≤ 4194304 * 128 := Nat.mul_le_mul hl hb128
    omega
  refine wpList_append_own W hgd s x T ho w0.heap.size t i z sz by_ el.under hi hz hsz hby hzs el.pos v l.length xs hs hrow ad ys.length c cs.toList hx (by simpa using hcs)
    (fun j u hj => hc j u (by simpa using hj)) hone (by unfold lim at hl; unfold maxLen; omega) hlim (Below.size h0) ?_
  intro v' w' ho' hg _
  refine h v' w' ⟨xs ++ cs.toList, by simpa using ho', ?_⟩ (grown_ext h0 hrow hg) (grown_keepsT hrow hg)
  intro k y hk
  have hxl : xs.length = l.length * sz := hrow.1
  have hkt := grown_keepsT hrow hg
  by_cases hlt : k < l.length
  · rw [List.getElem?_append_left hlt] at hk
    refine ok.loc _ _ _ _ _ _ (fun j hj => ?_) (ok.keepT _ _ _ _ _ hkt (hxs k y hk))
    have : k * sz + j < xs.length := by
      rw [hxl]
      have : (k + 1) * sz ≤ l.length * sz := Nat.mul_le_mul_right _ hlt
      rw [Nat.add_mul, Nat.one_mul] at this
      omega
    rw [List.getElem?_toArray, List.getElem?_toArray, List.getElem?_append_left this]
  · rw [List.getElem?_append_right (by omega)] at hk
    refine ok.loc _ _ _ _ _ _ (fun j hj => ?_) (ok.keepT _ _ _ _ _ hkt (hE _ y hk))
    have e : (k - l.length) * sz + l.length * sz = k * sz := by rw [← Nat.add_mul]; congr 1; omega
    rw [List.getElem?_toArray, List.getElem?_append_right (by omega), Array.getElem?_toList]
    congr 1
    omega
/-- AN APPEND OF ALL ELEMENTS OF A SLICE, nil let in. -/
theorem wp_apS {W w0 : World} {T t sz B : Nat} {E : World → Array Value → Nat → α → Prop} (hgd : o.guard = none) (s x : Operand)
    (ho : o.op = .call { callee := .builtin .append, args := #[s, x], argTypes := #[T, T] })
    (el : Elem P T t sz) (ok : ElOk t sz E) (h0 : Ext w0 W) (v v2 : Value) (l ys : List α) (hs : a.eval s = v) (hown : OwnS w0.heap.size t sz E W v l)
    (hx : a.eval x = v2) (h2 : SlOf B t sz E W v2 ys) (hl : l.length + ys.length ≤ lim)
    (h : ∀ v' w', OwnS w0.heap.size t sz E w' v' (l ++ ys) → Ext w0 w' → KeepsT t W w' → wpList P ops Q rest (a.put o.dst v') w') : wpList P ops Q (o :: rest) a W := by
  obtain ⟨A, c, rfl, hn, ⟨hc, hc0⟩, -, hel⟩ := h2
  cases A with
  | none =>
    have hy : ys = [] := by
      cases ys with
      | nil => rfl
      | cons y ys => obtain ⟨b, o, cs, e, -⟩ := hel 0 y rfl; cases e
    subst hy
    obtain ⟨i, z, by_, hi, hz, hsz, hby, hb128, hzs⟩ := el.info
    obtain ⟨xs, hrow, hxs⟩ := hown
    refine wpList_append_own_none (w := W) hgd s x T ho w0.heap.size t i sz el.under hi v l.length xs hs hrow (by simpa [hc0 rfl] using hx) ?_
    simpa using h v W ⟨xs, by simpa using hrow, by simpa using hxs⟩ h0 (fun _ _ _ _ hb => hb)
  | some ad =>
    by_cases hy : ys = []
    · subst hy
      exact wp_ap hgd s x ho el ok h0 v l [] hs hown ad 0 c rfl #[] hx (by simp) (by simp) (fun j u hj => by simp at hj) (fun k y hk => by simp at hk) hl h
    · have hlen : 0 < ys.length := List.length_pos_iff.2 hy
      obtain ⟨b, o', cs, e, -, hb, -⟩ := hel 0 ys[0] (by simp [hlen])
      simp only [Option.some.injEq] at e
      subst e
      have hall : ∀ k y, ys[k]? = some y → E W cs (o' + k * sz) y := fun k y hk => by
        obtain ⟨b2, o2, cs2, e2, -, hb2, he2⟩ := hel k y hk
        simp only [Option.some.injEq, Addr.mk.injEq, and_true] at e2
        obtain ⟨rfl, rfl⟩ := e2
        have : cs2 = cs := by
          unfold Blk at hb hb2
          rw [hb] at hb2
          simp only [Option.some.injEq, Obj.cells.injEq] at hb2
          exact hb2.1.symm
        rw [← this]; exact he2
      have hget : ∀ j, j < ys.length * sz → ∃ u, cs[o' + j]? = some u ∧ u.oneCell' = true := fun j hj => by
        have hp := el.pos
        have hk : j / sz < ys.length := Nat.div_lt_of_lt_mul (by rw [Nat.mul_comm]; exact hj)
        have := ok.full _ _ _ _ (hall (j / sz) ys[j / sz] (by simp [hk])) (j % sz) (Nat.mod_lt _ hp)
        rwa [Nat.add_assoc, Nat.mul_comm, Nat.div_add_mod] at this
      have hcsz : o' + ys.length * sz ≤ cs.size := by
        have hp := el.pos
        have hm : 0 < ys.length * sz := Nat.mul_pos hlen hp
        obtain ⟨u, hu, -⟩ := hget (ys.length * sz - 1) (by omega)
        have := (Array.getElem?_eq_some_iff.1 hu).1
        omega
      have hcut : ∀ j, j < ys.length * sz → (cs.extract o' (o' + ys.length * sz))[j]? = cs[o' + j]? := fun j hj => by
        rw [Array.getElem?_extract, if_pos (by omega)]
      have hsize : (cs.extract o' (o' + ys.length * sz)).size = ys.length * sz := by rw [Array.size_extract]; omega
      refine wp_ap hgd s x ho el ok h0 v l ys hs hown ⟨b, o', none⟩ ys.length c rfl (cs.extract o' (o' + ys.length * sz)) hx hsize ?_ ?_ ?_ hl h
      · intro u hu
        obtain ⟨j, hj⟩ := List.mem_iff_getElem?.1 hu
        rw [Array.getElem?_toList] at hj
        have hlt := (Array.getElem?_eq_some_iff.1 hj).1
        rw [hsize] at hlt
        rw [hcut j hlt] at hj
        obtain ⟨u', hu', h1⟩ := hget j hlt
        rw [hu'] at hj
        rw [← Option.some.inj hj]; exact h1
      · intro j u hj
        have hlt := (Array.getElem?_eq_some_iff.1 hj).1
        rw [hsize] at hlt
        rw [hcut j hlt] at hj
        have e : (⟨b, o', none⟩ : Addr).add j = ⟨b, o' + j, none⟩ := by
          unfold Addr.add; split
          · next h => subst h; rfl
          · rfl
        rw [e, hb.cell, hj]
      · intro k y hk
        refine ok.loc _ _ _ _ _ _ (fun j hj => ?_) (hall k y hk)
        have hk' : k < ys.length := by
          rcases Nat.lt_or_ge k ys.length with h | h
          · exact h
          · rw [List.getElem?_eq_none h] at hk; cases hk
        have : (k + 1) * sz ≤ ys.length * sz := Nat.mul_le_mul_right _ hk'
        rw [Nat.add_mul, Nat.one_mul] at this
        rw [hcut _ (by omega), Nat.add_assoc]
/-- AN APPEND OF ELEMENTS THAT HAVE JUST BEEN LAID IN A ROW OF THEIR OWN. -/
theorem wp_ap1 {W w0 : World} {T t sz : Nat} {E : World → Array Value → Nat → α → Prop} (hgd : o.guard = none) (s x : Operand)
    (ho : o.op = .call { callee := .builtin .append, args := #[s, x], argTypes := #[T, T] })
    (el : Elem P T t sz) (ok : ElOk t sz E) (h0 : Ext w0 W) (v : Value) (l ys : List α) (hs : a.eval s = v) (hown : OwnS w0.heap.size t sz E W v l)
    (m c : Nat) (hm : ys.length = m) (cs : Array Value) (g : Nat) (hx : a.eval x = .slice (some ⟨g, 0, none⟩) m c) (hg : g = W.heap.size) (hcs : cs.size = m * sz) (hone : ∀ u ∈ cs.toList, u.oneCell' = true)
    (hE : ∀ k y, ys[k]? = some y → E W cs (k * sz) y) (hl : l.length + ys.length ≤ lim)
    (h : ∀ v' w', OwnS w0.heap.size t sz E w' v' (l ++ ys) → Ext w0 w' → KeepsT t W w' → wpList P ops Q rest (a.put o.dst v') w') :
    wpList P ops Q (o :: rest) a (W.alloc (.cells cs t)) := by
  subst hg
  refine wp_ap hgd s x ho el ok (h0.alloc _) v l ys hs (hown.ext ok ((Ext.refl W).alloc _)) _ m c hm cs hx hcs hone (fun j u hj => ?_)
    (fun k y hk => ok.keepT _ _ _ _ _ (((Ext.refl W).alloc _).keepsT _) (hE k y hk)) hl (fun v' w' h1 h2 h3 => h v' w' h1 h2 ((((Ext.refl W).alloc _).keepsT t).trans h3))
  have : (⟨W.heap.size, 0, none⟩ : Addr).add j = ⟨W.heap.size, j, none⟩ := by
    unfold Addr.add; split
    · next h => subst h; rfl
    · simp
  rw [this, (Blk.new W t cs).cell, hj]
end
end Go.Sf

/-! The readings of the structs, as elements of slices that are appended to. -/
namespace Go.Sf
open Go Go.RowKit
theorem EIt.keepT {B : Nat} {t : TypeId} {w w' : World} {cs : Array Value} {p : Nat} {x : It} (h : EIt B w cs p x) (hk : KeepsT t w w') (hInts : 3 ≠ t) : EIt B w' cs p x :=
  let ⟨h0, g0, h1, ⟨u2, h2, g2⟩⟩ := h; ⟨h0, g0, h1, ⟨u2, h2, g2.keepT hk hInts⟩⟩
theorem Its.keepT {B : Nat} {t : TypeId} {w w' : World} {v : Value} {l : List It} (h : Its B w v l) (hk : KeepsT t w w') (h0 : 136 ≠ t) (hInts : 3 ≠ t) : Its B w' v l :=
  SlOf.keepT h hk h0 fun _ _ _ e => e.keepT hk hInts
theorem ItV.keepT {B : Nat} {t : TypeId} {w w' : World} {v : Value} {x : It} (h : ItV B w v x) (hk : KeepsT t w w') (hInts : 3 ≠ t) : ItV B w' v x :=
  let ⟨u2, h, g0, g2⟩ := h; ⟨u2, h, g0, g2.keepT hk hInts⟩
theorem EIt_ok (B : Nat) : ElOk 136 3 (EIt B) := ⟨fun _ _ _ _ _ hk h => h.keepT hk (by decide), fun _ _ _ p p' _ hj h => by
  obtain ⟨h0, g0, h1, ⟨u2, h2, g2⟩⟩ := h
  exact ⟨by have := hj 0 (by omega); simp only [Nat.add_zero] at this; rw [this]; exact h0, g0, by have := hj 1 (by omega); rw [this]; exact h1, ⟨u2, by have := hj 2 (by omega); rw [this]; exact h2, g2⟩⟩, fun _ cs p _ h j hj => by
  obtain ⟨h0, g0, h1, ⟨u2, h2, g2⟩⟩ := h
  match j, hj with
  | 0, _ => exact ⟨_, h0, rfl⟩
  | 1, _ => exact ⟨_, h1, rfl⟩
  | 2, _ => exact ⟨_, h2, g2.one⟩⟩
theorem EHd.keepT {B : Nat} {t : TypeId} {w w' : World} {cs : Array Value} {p : Nat} {x : Hd} (h : EHd B w cs p x) (hk : KeepsT t w w') (hInts : 3 ≠ t) : EHd B w' cs p x :=
  let ⟨h0, g0, ⟨u1, h1, g1⟩, h2, g2⟩ := h; ⟨h0, g0, ⟨u1, h1, g1.keepT hk hInts⟩, h2, g2⟩
theorem Hds.keepT {B : Nat} {t : TypeId} {w w' : World} {v : Value} {l : List Hd} (h : Hds B w v l) (hk : KeepsT t w w') (h0 : 134 ≠ t) (hInts : 3 ≠ t) : Hds B w' v l :=
  SlOf.keepT h hk h0 fun _ _ _ e => e.keepT hk hInts
theorem HdV.keepT {B : Nat} {t : TypeId} {w w' : World} {v : Value} {x : Hd} (h : HdV B w v x) (hk : KeepsT t w w') (hInts : 3 ≠ t) : HdV B w' v x :=
  let ⟨u1, h, g0, g1, g2⟩ := h; ⟨u1, h, g0, g1.keepT hk hInts, g2⟩
theorem EHd_ok (B : Nat) : ElOk 134 3 (EHd B) := ⟨fun _ _ _ _ _ hk h => h.keepT hk (by decide), fun _ _ _ p p' _ hj h => by
  obtain ⟨h0, g0, ⟨u1, h1, g1⟩, h2, g2⟩ := h
  exact ⟨by have := hj 0 (by omega); simp only [Nat.add_zero] at this; rw [this]; exact h0, g0, ⟨u1, by have := hj 1 (by omega); rw [this]; exact h1, g1⟩, by have := hj 2 (by omega); rw [this]; exact h2, g2⟩, fun _ cs p _ h j hj => by
  obtain ⟨h0, g0, ⟨u1, h1, g1⟩, h2, g2⟩ := h
  match j, hj with
  | 0, _ => exact ⟨_, h0, rfl⟩
  | 1, _ => exact ⟨_, h1, g1.one⟩
  | 2, _ => exact ⟨_, h2, rfl⟩⟩
theorem ECh.keepT {B : Nat} {t : TypeId} {w w' : World} {cs : Array Value} {p : Nat} {x : Ch} (h : ECh B w cs p x) (hk : KeepsT t w w') (hInts : 3 ≠ t) : ECh B w' cs p x :=
  let ⟨h0, g0, h1, g1, h2, ⟨u3, h3, g3⟩⟩ := h; ⟨h0, g0, h1, g1, h2, ⟨u3, h3, g3.keepT hk hInts⟩⟩
theorem Chs.keepT {B : Nat} {t : TypeId} {w w' : World} {v : Value} {l : List Ch} (h : Chs B w v l) (hk : KeepsT t w w') (h0 : 198 ≠ t) (hInts : 3 ≠ t) : Chs B w' v l :=
  SlOf.keepT h hk h0 fun _ _ _ e => e.keepT hk hInts
theorem ChV.keepT {B : Nat} {t : TypeId} {w w' : World} {v : Value} {x : Ch} (h : ChV B w v x) (hk : KeepsT t w w') (hInts : 3 ≠ t) : ChV B w' v x :=
  let ⟨u3, h, g0, g1, g3⟩ := h; ⟨u3, h, g0, g1, g3.keepT hk hInts⟩
theorem ECh_ok (B : Nat) : ElOk 198 4 (ECh B) := ⟨fun _ _ _ _ _ hk h => h.keepT hk (by decide), fun _ _ _ p p' _ hj h => by
  obtain ⟨h0, g0, h1, g1, h2, ⟨u3, h3, g3⟩⟩ := h
  exact ⟨by have := hj 0 (by omega); simp only [Nat.add_zero] at this; rw [this]; exact h0, g0, by have := hj 1 (by omega); rw [this]; exact h1, g1, by have := hj 2 (by omega); rw [this]; exact h2, ⟨u3, by have := hj 3 (by omega); rw [this]; exact h3, g3⟩⟩, fun _ cs p _ h j hj => by
  obtain ⟨h0, g0, h1, g1, h2, ⟨u3, h3, g3⟩⟩ := h
  match j, hj with
  | 0, _ => exact ⟨_, h0, rfl⟩
  | 1, _ => exact ⟨_, h1, rfl⟩
  | 2, _ => exact ⟨_, h2, rfl⟩
  | 3, _ => exact ⟨_, h3, g3.one⟩⟩
theorem EPt.keepT {B : Nat} {t : TypeId} {w w' : World} {cs : Array Value} {p : Nat} {x : Pt} (h : EPt B w cs p x) (hk : KeepsT t w w') (hInts : 3 ≠ t) : EPt B w' cs p x :=
  let ⟨h0, g0, h1, g1, h2, ⟨u3, h3, g3⟩⟩ := h; ⟨h0, g0, h1, g1, h2, ⟨u3, h3, g3.keepT hk hInts⟩⟩
theorem Pts.keepT {B : Nat} {t : TypeId} {w w' : World} {v : Value} {l : List Pt} (h : Pts B w v l) (hk : KeepsT t w w') (h0 : 200 ≠ t) (hInts : 3 ≠ t) : Pts B w' v l :=
  SlOf.keepT h hk h0 fun _ _ _ e => e.keepT hk hInts
theorem PtV.keepT {B : Nat} {t : TypeId} {w w' : World} {v : Value} {x : Pt} (h : PtV B w v x) (hk : KeepsT t w w') (hInts : 3 ≠ t) : PtV B w' v x :=
  let ⟨u3, h, g0, g1, g3⟩ := h; ⟨u3, h, g0, g1, g3.keepT hk hInts⟩
theorem EPt_ok (B : Nat) : ElOk 200 4 (EPt B) := ⟨fun _ _ _ _ _ hk h => h.keepT hk (by decide), fun _ _ _ p p' _ hj h => by
  obtain ⟨h0, g0, h1, g1, h2, ⟨u3, h3, g3⟩⟩ := h
  exact ⟨by have := hj 0 (by omega); simp only [Nat.add_zero] at this; rw [this]; exact h0, g0, by have := hj 1 (by omega); rw [this]; exact h1, g1, by have := hj 2 (by omega); rw [this]; exact h2, ⟨u3, by have := hj 3 (by omega); rw [this]; exact h3, g3⟩⟩, fun _ cs p _ h j hj => by
  obtain ⟨h0, g0, h1, g1, h2, ⟨u3, h3, g3⟩⟩ := h
  match j, hj with
  | 0, _ => exact ⟨_, h0, rfl⟩
  | 1, _ => exact ⟨_, h1, rfl⟩
  | 2, _ => exact ⟨_, h2, rfl⟩
  | 3, _ => exact ⟨_, h3, g3.one⟩⟩
theorem ESn.keepT {B : Nat} {t : TypeId} {w w' : World} {cs : Array Value} {p : Nat} {x : Sn} (h : ESn B w cs p x) (hk : KeepsT t w w') (hIts : 136 ≠ t) (hInts : 3 ≠ t) : ESn B w' cs p x :=
  let ⟨h0, g0, ⟨u1, h1, g1⟩⟩ := h; ⟨h0, g0, ⟨u1, h1, g1.keepT hk hIts hInts⟩⟩
theorem Sns.keepT {B : Nat} {t : TypeId} {w w' : World} {v : Value} {l : List Sn} (h : Sns B w v l) (hk : KeepsT t w w') (h0 : 95 ≠ t) (hIts : 136 ≠ t) (hInts : 3 ≠ t) : Sns B w' v l :=
  SlOf.keepT h hk h0 fun _ _ _ e => e.keepT hk hIts hInts
theorem SnV.keepT {B : Nat} {t : TypeId} {w w' : World} {v : Value} {x : Sn} (h : SnV B w v x) (hk : KeepsT t w w') (hIts : 136 ≠ t) (hInts : 3 ≠ t) : SnV B w' v x :=
  let ⟨u1, h, g0, g1⟩ := h; ⟨u1, h, g0, g1.keepT hk hIts hInts⟩
theorem ESn_ok (B : Nat) : ElOk 95 2 (ESn B) := ⟨fun _ _ _ _ _ hk h => h.keepT hk (by decide) (by decide), fun _ _ _ p p' _ hj h => by
  obtain ⟨h0, g0, ⟨u1, h1, g1⟩⟩ := h
  exact ⟨by have := hj 0 (by omega); simp only [Nat.add_zero] at this; rw [this]; exact h0, g0, ⟨u1, by have := hj 1 (by omega); rw [this]; exact h1, g1⟩⟩, fun _ cs p _ h j hj => by
  obtain ⟨h0, g0, ⟨u1, h1, g1⟩⟩ := h
  match j, hj with
  | 0, _ => exact ⟨_, h0, rfl⟩
  | 1, _ => exact ⟨_, h1, g1.one⟩⟩
theorem EQt.keepT {B : Nat} {t : TypeId} {w w' : World} {cs : Array Value} {p : Nat} {x : Qt} (h : EQt B w cs p x) (_hk : KeepsT t w w') : EQt B w' cs p x :=
  let ⟨h0, g0, h1, g1⟩ := h; ⟨h0, g0, h1, g1⟩
theorem Qts.keepT {B : Nat} {t : TypeId} {w w' : World} {v : Value} {l : List Qt} (h : Qts B w v l) (hk : KeepsT t w w') (h0 : 164 ≠ t) : Qts B w' v l :=
  SlOf.keepT h hk h0 fun _ _ _ e => e.keepT hk
theorem QtV.keepT {B : Nat} {t : TypeId} {w w' : World} {v : Value} {x : Qt} (h : QtV B w v x) (_hk : KeepsT t w w') : QtV B w' v x :=
  let ⟨h, g0, g1⟩ := h; ⟨h, g0, g1⟩
theorem EQt_ok (B : Nat) : ElOk 164 2 (EQt B) := ⟨fun _ _ _ _ _ hk h => h.keepT hk, fun _ _ _ p p' _ hj h => by
  obtain ⟨h0, g0, h1, g1⟩ := h
  exact ⟨by have := hj 0 (by omega); simp only [Nat.add_zero] at this; rw [this]; exact h0, g0, by have := hj 1 (by omega); rw [this]; exact h1, g1⟩, fun _ cs p _ h j hj => by
  obtain ⟨h0, g0, h1, g1⟩ := h
  match j, hj with
  | 0, _ => exact ⟨_, h0, rfl⟩
  | 1, _ => exact ⟨_, h1, rfl⟩⟩
theorem ETn.keepT {B : Nat} {t : TypeId} {w w' : World} {cs : Array Value} {p : Nat} {x : Tn} (h : ETn B w cs p x) (_hk : KeepsT t w w') : ETn B w' cs p x :=
  let ⟨h0, g0, h1, g1⟩ := h; ⟨h0, g0, h1, g1⟩
theorem Tns.keepT {B : Nat} {t : TypeId} {w w' : World} {v : Value} {l : List Tn} (h : Tns B w v l) (hk : KeepsT t w w') (h0 : 152 ≠ t) : Tns B w' v l :=
  SlOf.keepT h hk h0 fun _ _ _ e => e.keepT hk
theorem TnV.keepT {B : Nat} {t : TypeId} {w w' : World} {v : Value} {x : Tn} (h : TnV B w v x) (_hk : KeepsT t w w') : TnV B w' v x :=
  let ⟨h, g0, g1⟩ := h; ⟨h, g0, g1⟩
theorem ETn_ok (B : Nat) : ElOk 152 2 (ETn B) := ⟨fun _ _ _ _ _ hk h => h.keepT hk, fun _ _ _ p p' _ hj h => by
  obtain ⟨h0, g0, h1, g1⟩ := h
  exact ⟨by have := hj 0 (by omega); simp only [Nat.add_zero] at this; rw [this]; exact h0, g0, by have := hj 1 (by omega); rw [this]; exact h1, g1⟩, fun _ cs p _ h j hj => by
  obtain ⟨h0, g0, h1, g1⟩ := h
  match j, hj with
  | 0, _ => exact ⟨_, h0, rfl⟩
  | 1, _ => exact ⟨_, h1, rfl⟩⟩
end Go.Sf

/-! Taking an element out of a slice of the call's own: append(s[:k], s[k+1:]...). -/
namespace Go.Sf
open Go Go.RowKit
theorem blk_setRow {w : World} {g : Nat} {t : TypeId} {cs : Array Value} (h : Blk w g t cs) (cs' : Array Value) : Blk (w.setRow g cs') g t cs' := by
  unfold Blk at h ⊢
  simp [World.setRow, Array.getElem?_modify, h]
theorem heap_setRow (w : World) (g : Nat) (cs' : Array Value) (k : Nat) (h : k ≠ g) : (w.setRow g cs').heap[k]? = w.heap[k]? := by
  simp only [World.setRow, Array.getElem?_modify]
  rw [if_neg (by omega)]
theorem blk_setRow_far {w : World} {g b : Nat} {t : TypeId} {cs : Array Value} (h : Blk w b t cs) (cs' : Array Value) (hne : b ≠ g) : Blk (w.setRow g cs') b t cs :=
  (heap_setRow w g cs' b hne).trans h
theorem Ext.setRow {a w : World} (h : Ext a w) {g : Nat} (hg : a.heap.size ≤ g) (cs' : Array Value) : Ext a (w.setRow g cs') :=
  ⟨(Below.os h : w.os = a.os), (Below.tape h : w.tape = a.tape), (Below.output h : w.output = a.output), by have := Below.size h; simpa [World.setRow] using this, fun k hk => (heap_setRow w g cs' k (by omega)).trans (Below.block h k hk)⟩
theorem KeepsT.setRow {t : TypeId} {w : World} {g : Nat} {cs : Array Value} (hb : Blk w g t cs) (cs' : Array Value) : KeepsT t w (w.setRow g cs') :=
  fun _ _ _ hne h => blk_setRow_far h cs' (Blk.ne_ h hb hne)

theorem OwnS.formP {α : Type} {base : Nat} {t : TypeId} {sz : Nat} {E : World → Array Value → Nat → α → Prop} {w : World} {v : Value} {l : List α} (h : OwnS base t sz E w v l) (hl : 0 < l.length) :
    ∃ g c, v = .slice (some ⟨g, 0, none⟩) l.length c ∧ base ≤ g ∧ l.length ≤ c ∧ c ≤ maxLen := by
  obtain ⟨xs, ⟨h1, h2⟩, -⟩ := h
  rcases h2 with ⟨rfl, hn⟩ | ⟨g, cap, cur, rfl, hg, -, hc, hm, -⟩
  · omega
  · exact ⟨g, cap, rfl, hg, hc, hm⟩
section
variable {P : Program} {α : Type} {ops : Array Oper} {rest : List Oper} {o : Oper} {a : Act} {Q : Exit → Act → World → Prop}
theorem eraseIdx_get {l : List α} {k j : Nat} : (l.eraseIdx k)[j]? = if j < k then l[j]? else l[j + 1]? := by
  rw [List.getElem?_eraseIdx]
/-- AN ELEMENT IS TAKEN OUT. -/
theorem wp_del {W w0 : World} {T t sz : Nat} {E : World → Array Value → Nat → α → Prop} (hgd : o.guard = none) (s x : Operand)
    (ho : o.op = .call { callee := .builtin .append, args := #[s, x], argTypes := #[T, T] })
    (el : Elem P T t sz) (ok : ElOk t sz E) (h0 : Ext w0 W) (g c k : Nat) (l : List α) (hk : k < l.length) (hown : OwnS w0.heap.size t sz E W (.slice (some ⟨g, 0, none⟩) l.length c) l)
    (hs : a.eval s = .slice (some ⟨g, 0, none⟩) k c) (ad : Addr) (c' : Nat) (hx : a.eval x = .slice (some ad) (l.length - (k + 1)) c') (had : k + 1 < l.length → ad = ⟨g, (k + 1) * sz, none⟩)
    (h : ∀ w', OwnS w0.heap.size t sz E w' (.slice (some ⟨g, 0, none⟩) (l.length - 1) c) (l.eraseIdx k) → Ext w0 w' → KeepsT t W w' → wpList P ops Q rest (a.put o.dst (.slice (some ⟨g, 0, none⟩) (l.length - 1) c)) w') :
    wpList P ops Q (o :: rest) a W := by
  obtain ⟨i, z, by_, hi, hz, hsz, hby, hb128, hzs⟩ := el.info
  obtain ⟨xs, ⟨hxl, hrow⟩, hxs⟩ := hown
  have hp := el.pos
  rcases hrow with ⟨hv, -⟩ | ⟨g', cap, cur, hv, hg, hh, hnc, hcm, hcs, htk⟩
  · cases hv
  injection hv with hv1 hv2 hv3
  simp only [Option.some.injEq, Addr.mk.injEq, and_true] at hv1
  subst hv1; subst hv3
  have hkk : (k + 1) * sz ≤ l.length * sz := Nat.mul_le_mul_right _ hk
  have hks : (k + 1) * sz = k * sz + sz := by rw [Nat.add_mul, Nat.one_mul]
  have hmul : (l.length - (k + 1)) * sz = l.length * sz - (k * sz + sz) := by rw [Nat.sub_mul, hks]
  rw [hks] at hkk
  have hc : l.length * sz ≤ c * sz := Nat.mul_le_mul_right _ hnc
  have hxc : ∀ j, j < l.length * sz → xs[j]? = cur[j]? := fun j hj => by
    rw [← htk, List.getElem?_take_of_lt hj, Array.getElem?_toList]
  have hfull : ∀ j, j < l.length * sz → ∃ u, xs[j]? = some u ∧ u.oneCell' = true := fun j hj => by
    have hk' : j / sz < l.length := Nat.div_lt_of_lt_mul (by rw [Nat.mul_comm]; exact hj)
    have := ok.full _ _ _ _ (hxs (j / sz) l[j / sz] (by simp [hk'])) (j % sz) (Nat.mod_lt _ hp)
    rwa [Nat.mul_comm, Nat.div_add_mod, List.getElem?_toArray] at this
  -- the cells that move
  have hnl : (xs.drop (k * sz + sz)).length = (l.length - (k + 1)) * i.size := by rw [List.length_drop, hxl, hsz, hmul]
  have hrun := run_append_room (P := P) W T o.type t i el.under hi g k c cur hh ad (l.length - (k + 1)) c' (xs.drop (k * sz + sz)) hnl
    (fun j u hj => by
      have hjl : j < (xs.drop (k * sz + sz)).length := by
        rcases Nat.lt_or_ge j (xs.drop (k * sz + sz)).length with h | h
        · exact h
        · rw [List.getElem?_eq_none h] at hj; cases hj
      rw [List.length_drop, hxl] at hjl
      have hlt : k + 1 < l.length := by
        rcases Nat.lt_or_ge (k + 1) l.length with h | h
        · exact h
        · have : l.length * sz ≤ (k + 1) * sz := Nat.mul_le_mul_right _ h
          rw [hks] at this
          omega
      rw [had hlt, hks]
      have e : (⟨g, k * sz + sz, none⟩ : Addr).add j = ⟨g, k * sz + sz + j, none⟩ := by
        unfold Addr.add; split
        · next h => subst h; rfl
        · rfl
      rw [e, Blk.cell (t := t) (cs := cur) hh, ← hxc _ (by omega)]
      rw [List.getElem?_drop] at hj
      exact hj)
    (fun u hu => by
      obtain ⟨j, hj⟩ := List.mem_iff_getElem?.1 (List.mem_of_mem_drop hu)
      have hjl : j < xs.length := by
        rcases Nat.lt_or_ge j xs.length with h | h
        · exact h
        · rw [List.getElem?_eq_none h] at hj; cases hj
      obtain ⟨u', hu', h1⟩ := hfull j (by omega)
      rw [hu'] at hj
      rw [← Option.some.inj hj]; exact h1)
    (by omega) (by rw [hnl, hsz, hcs, hmul]; omega)
  have hlen : k + (l.length - (k + 1)) = l.length - 1 := by omega
  rw [hlen] at hrun
  rw [hsz] at hrun
  generalize hnew : (cur.toList.take (k * sz) ++ xs.drop (k * sz + sz) ++ cur.toList.drop (k * sz + (xs.drop (k * sz + sz)).length)).toArray = new at hrun
  refine wpList_plain hgd fun K hK => ?_
  unfold Oper.wp
  simp [execOp, ho, resolve, invoke, builtin, hs, hx, hrun, Result.andThen]
  have hB : Blk W g t cur := hh
  have hnewsz : new.size = c * sz := by
    rw [← hnew]
    simp only [List.size_toArray, List.length_append, List.length_take, List.length_drop, Array.length_toList, hcs, hxl]
    omega
  have hnewlt : ∀ j, j < k * sz → new[j]? = xs[j]? := fun j hj => by
    rw [← hnew, List.getElem?_toArray, List.append_assoc, List.getElem?_append_left (by rw [List.length_take, Array.length_toList (xs := cur), hcs]; omega), List.getElem?_take_of_lt hj, Array.getElem?_toList, hxc _ (by omega)]
  have hnewge : ∀ j, k * sz ≤ j → j < (l.length - 1) * sz → new[j]? = xs[j + sz]? := fun j h1 h2 => by
    have h3 : (l.length - 1) * sz = l.length * sz - sz := by rw [Nat.sub_mul, Nat.one_mul]
    have h4 : (cur.toList.take (k * sz)).length = k * sz := by rw [List.length_take, Array.length_toList (xs := cur), hcs]; omega
    rw [← hnew, List.getElem?_toArray, List.append_assoc, List.getElem?_append_right (by rw [h4]; exact h1), h4, List.getElem?_append_left (by rw [List.length_drop, hxl]; omega), List.getElem?_drop]
    congr 1
    omega
  refine hK _ _ (h _ ⟨new.toList.take ((l.length - 1) * sz), ⟨?_, .inr ⟨g, c, new, by rw [List.length_eraseIdx, if_pos hk], hg, blk_setRow hB new, by rw [List.length_eraseIdx, if_pos hk]; omega, hcm, hnewsz, ?_⟩⟩, ?_⟩ (h0.setRow hg new) (KeepsT.setRow hB new))
  · rw [List.length_take, Array.length_toList (xs := new), hnewsz, List.length_eraseIdx, if_pos hk]
    have : (l.length - 1) * sz ≤ c * sz := Nat.mul_le_mul_right _ (by omega)
    omega
  · rw [List.length_eraseIdx, if_pos hk]
  · intro j y hj
    rw [eraseIdx_get] at hj
    have hjl : j < l.length - 1 := by
      split at hj
      · next h => omega
      · next h =>
        have : j + 1 < l.length := by
          rcases Nat.lt_or_ge (j + 1) l.length with h | h
          · exact h
          · rw [List.getElem?_eq_none h] at hj; cases hj
        omega
    have hb2 : ∀ q, q < sz → j * sz + q < (l.length - 1) * sz := fun q hq => by
      have : (j + 1) * sz ≤ (l.length - 1) * sz := Nat.mul_le_mul_right _ hjl
      rw [Nat.add_mul, Nat.one_mul] at this
      omega
    have hkeep := KeepsT.setRow hB new
    split at hj
    · next h =>
      refine ok.loc _ _ _ _ _ _ (fun q hq => ?_) (ok.keepT _ _ _ _ _ hkeep (hxs j y hj))
      have h5 : (j + 1) * sz ≤ k * sz := Nat.mul_le_mul_right _ h
      rw [Nat.add_mul, Nat.one_mul] at h5
      rw [List.getElem?_toArray, List.getElem?_take_of_lt (hb2 q hq), Array.getElem?_toList, hnewlt _ (by omega), List.getElem?_toArray]
    · next h =>
      refine ok.loc _ _ _ _ _ _ (fun q hq => ?_) (ok.keepT _ _ _ _ _ hkeep (hxs (j + 1) y hj))
      have h5 : k * sz ≤ j * sz := Nat.mul_le_mul_right _ (by omega)
      rw [List.getElem?_toArray, List.getElem?_take_of_lt (hb2 q hq), Array.getElem?_toList, hnewge _ (by omega) (hb2 q hq), List.getElem?_toArray]
      congr 1
      rw [Nat.add_mul, Nat.one_mul]; omega
end
end Go.Sf

/-! The append laws for the walk that branches over orders (goals of single operations). -/
namespace Go.Sf
open Go Go.RowKit
section
variable {P : Program} {ops : Array Oper} {o : Oper} {a : Act} {w : World} {K : Act → World → Prop} {Q : Exit → Act → World → Prop}
def Tight (K : Act → World → Prop) (Q : Exit → Act → World → Prop) : Exit → Act → World → Prop := Exit.then K (fun e a w => e ≠ .outgrown ∧ Q e a w)
theorem tight_not (K : Act → World → Prop) (Q : Exit → Act → World → Prop) : ¬ LetsOut (Tight K Q) := fun ⟨_, _, h⟩ => h.1 rfl
theorem op_of_list (h : wpList P ops (Tight K Q) [o] a w) : if Region.wanted o (yielded ops a.tmps) = true then Oper.wp P o a w K Q else K (a.put o.dst undef) w := by
  unfold wpList at h
  split at h
  · rename_i hw
    rw [if_pos hw]
    rcases h with h | h
    · unfold Oper.wp at *
      generalize (execOp a.eval o).run P w = r at *
      cases r with
      | ok n w' =>
        cases n <;> simp only [Oper.upon] at h ⊢ <;>
          first
            | exact h
            | exact Calls.mono h (fun e w'' he => by cases e <;> first | exact he | exact he.2 | exact absurd he (tight_not K Q))
            | exact Rows.mono h (fun _ _ he => he)
      | halt x w' => cases x <;> simp only [Oper.upon] at h ⊢ <;> first | exact h | exact h.2
    · exact absurd h.2 (tight_not K Q)
  · rename_i hw
    rw [if_neg hw]
    exact h
end
theorem two_E {α : Type} {sz : Nat} {E : World → Array Value → Nat → α → Prop} {W : World} {cs : Array Value} {y0 y1 : α} (h0 : E W cs 0 y0) (h1 : E W cs sz y1) : ∀ k y, [y0, y1][k]? = some y → E W cs (k * sz) y := by
  intro k y hk
  match k with
  | 0 => simp at hk; subst hk; simpa using h0
  | 1 => simp at hk; subst hk; simpa using h1
  | k + 2 => simp at hk
end Go.Sf

/-! A region that draws its order: what only reads is taken first, what writes or calls follows in its one order, and behind the last that reads the rest is one plain list. -/
namespace Go.Sf
open Go
section
variable {P : Program} {ops : Array Oper} {Q : Exit → Act → World → Prop} {md : Region.Mode} {S : World → Prop} {m : Nat}
/-- whichever order is picked; S holds behind every operation below m -/
def wpAnyM (P : Program) (md : Region.Mode) (ops : Array Oper) (Q : Exit → Act → World → Prop) (S : World → Prop) (m : Nat) : Nat → Array Bool → Act → World → Prop
  | 0, listed, a, w => Region.ready md ops listed = [] ∧ Q .normal a w
  | fuel + 1, listed, a, w =>
    (Region.ready md ops listed = [] → Q .normal a w) ∧
    ∀ i ∈ Region.ready md ops listed, wpOp P ops Q i (fun a' w' => (i < m → S w') ∧ wpAnyM P md ops Q S m fuel (listed.setIfInBounds i true) a' w') a w
theorem wpAny_of_M : ∀ (fuel : Nat) (listed : Array Bool) (a : Act) (w : World), wpAnyM P md ops Q S m fuel listed a w → wpAny P md ops Q fuel listed a w
  | 0, _, _, _, h => h
  | fuel + 1, _, _, _, h => ⟨h.1, fun i hi => wpOp_mono (fun a' w' h' => wpAny_of_M fuel _ a' w' h'.2) (h.2 i hi)⟩
/-- from m on the rest is one chain, which waits for all that is ahead of it -/
def tailB (md : Region.Mode) (ops : Array Oper) (m : Nat) : Bool := m == ops.size || (decide (m < ops.size) && Region.sinkB md ops m && Region.chainB md ops m)
theorem ahead {listed : Array Bool} (ht : tailB md ops m = true) (inv : HeadInv md ops m listed) {i j : Nat} (hi : i < m) (hun : listed.getD i true = false) (hj : j ∈ Region.ready md ops listed) : j < m := by
  unfold tailB at ht
  simp only [Bool.or_eq_true, beq_iff_eq, Bool.and_eq_true, decide_eq_true_eq] at ht
  rcases ht with rfl | ⟨⟨h1, h2⟩, h3⟩
  · obtain ⟨_, o, ho, -⟩ := mem_ready.1 hj
    exact (Array.getElem?_eq_some_iff.1 ho).1
  · rcases Nat.lt_or_ge j m with h | h
    · exact h
    · exact absurd hj (tail_waits h2 h3 h1 inv _ i rfl hi hun j h)
theorem wpAnyM_first {i : Nat} {oi : Oper} {v : Value} (hi : ops[i]? = some oi) (hsel : ∀ (j : Nat) (o : Oper) cs b, ops[j]? = some o → o.op ≠ .select cs b)
    (hQ : ∀ c a w, Q (.panic c) (a.put oi.dst v) w → Q (.panic c) a w) (ht : tailB md ops m = true) (him : i < m) :
    ∀ (fuel : Nat) (listed : Array Bool) (a : Act) (w : World), HeadInv md ops m listed →
      (∀ j oj, ops[j]? = some oj → j ≠ i → listed.getD j true = false → (∀ e ∈ oj.after, Region.binds md e = true → e.on ≠ i) → oi.apart ops oj = true) →
      i ∈ Region.ready md ops listed → YieldsIf P ops S oi v a → S w →
      wpAnyM P md ops Q S m fuel (listed.setIfInBounds i true) (a.put oi.dst v) w → wpAnyM P md ops Q S m (fuel + 1) listed a w := by
  intro fuel
  induction fuel with
  | zero =>
    intro listed a w _ _ hr hy hS H
    refine ⟨fun h => (by rw [h] at hr; cases hr), fun j hj => ?_⟩
    by_cases hji : j = i
    · subst hji; exact hy.wpOp hi hS ⟨fun _ => hS, H⟩
    · have := ready_mono hj hji
      rw [H.1] at this
      cases this
  | succ fuel ih =>
    intro listed a w inv hfree hr hy hS H
    refine ⟨fun h => (by rw [h] at hr; cases hr), fun j hj => ?_⟩
    by_cases hji : j = i
    · subst hji; exact hy.wpOp hi hS ⟨fun _ => hS, H⟩
    · have hjm := ahead ht inv him (mem_ready.1 hr).1 hj
      have h1 := H.2 j (ready_mono hj hji)
      obtain ⟨hjun, oj, hoj, hall⟩ := mem_ready.1 hj
      have hnot : ∀ e ∈ oj.after, Region.binds md e = true → e.on ≠ i := fun e he hb heq => by
        have h1 := hall e he hb
        have h0 := (mem_ready.1 hr).1
        rw [heq] at h1
        rcases Nat.lt_or_ge i listed.size with h' | h'
        · simp [h'] at h0 h1; rw [h0] at h1; cases h1
        · simp [Array.getElem?_eq_none h'] at h1
      have h2 := wpOp_putIf hoj (hfree j oj hoj hji hjun hnot) (fun cs b => hsel i oi cs b hi) (fun cs b => hsel j oj cs b hoj) hQ hy h1
      have hfree' : ∀ k ok, ops[k]? = some ok → k ≠ i → (listed.setIfInBounds j true).getD k true = false →
          (∀ e ∈ ok.after, Region.binds md e = true → e.on ≠ i) → oi.apart ops ok = true := fun k ok hk hki hun hno => by
        refine hfree k ok hk hki ?_ hno
        by_cases hjk : j = k
        · subst hjk; exact hjun
        · rw [getD_set_ne true hjk] at hun; exact hun
      refine wpOp_mono (fun a' w' h3 => ⟨h3.2.1, ih (listed.setIfInBounds j true) a' w' (inv.set hj hjm) hfree' (ready_mono hr (Ne.symm hji)) h3.1 (h3.2.1 hjm) ?_⟩) h2
      rw [Array.setIfInBounds_comm _ _ hji]
      exact h3.2.2
/-- the walk: (k, true) is taken first, (k, false) is the one that may come up; then T -/
def wpHold (P : Program) (ops : Array Oper) (Q : Exit → Act → World → Prop) (S : World → Prop) (T : Act → World → Prop) : List (Nat × Bool) → Act → World → Prop
  | [], a, w => T a w
  | (k, true) :: r, a, w => ∃ o, ops[k]? = some o ∧ ∃ v, YieldsIf P ops S o v a ∧ wpHold P ops Q S T r (a.put o.dst v) w
  | (k, false) :: r, a, w => ∃ o, ops[k]? = some o ∧ wpList P ops (Exit.then (fun a' w' => S w' ∧ wpHold P ops Q S T r a' w') Q) [o] a w
def holdGo (md : Region.Mode) (ops : Array Oper) (m : Nat) : List (Nat × Bool) → Array Bool → Bool
  | [], listed => Region.seqB md ops (ops.size - m) m listed
  | (k, true) :: r, listed => decide (k < m) && (Region.ready md ops listed).contains k && Region.free md ops listed k && holdGo md ops m r (listed.setIfInBounds k true)
  | (k, false) :: r, listed => decide (k < m) && decide (Region.ready md ops listed = [k]) && holdGo md ops m r (listed.setIfInBounds k true)
def holdB (ops : Array Oper) (m : Nat) (ord : List (Nat × Bool)) : Bool :=
  Region.noSelect ops && tailB .any ops m && (ord.length == m && decide (m ≤ ops.size)) && holdGo .any ops m ord (Array.replicate ops.size false)
theorem wpAnyM_seq : ∀ (l : List Oper) (k : Nat) (listed : Array Bool) (a : Act) (w : World), m ≤ k → (∀ j, l[j]? = ops[k + j]?) →
    Region.seqB md ops l.length k listed = true → wpList P ops Q l a w → wpAnyM P md ops Q S m l.length listed a w
  | [], _, _, _, _, _, _, hB, h => ⟨by simpa [Region.seqB] using hB, h⟩
  | o :: l, k, listed, a, w, hmk, hl, hB, h => by
    have h0 : ops[k]? = some o := by simpa using (hl 0).symm
    simp only [List.length_cons, Region.seqB, Bool.and_eq_true, decide_eq_true_eq] at hB
    refine ⟨fun h1 => (by rw [hB.1] at h1; cases h1), fun i hi => ?_⟩
    rw [hB.1] at hi
    have hik : i = k := by simpa using hi
    subst hik
    have hw : wpOp P ops Q i (wpList P ops Q l) a w := by unfold wpOp; simp only [h0]; exact h
    exact wpOp_mono (fun a' w' h' => ⟨fun h => absurd h (by omega), wpAnyM_seq l (i + 1) _ a' w' (by omega) (fun j => by have := hl (j + 1); simpa [Nat.add_assoc, Nat.add_comm 1 j] using this) hB.2 h'⟩) hw
theorem wpOp_of_one {K : Act → World → Prop} {k : Nat} {o : Oper} {a : Act} {w : World} (hk : ops[k]? = some o) (h : wpList P ops (Exit.then K Q) [o] a w) : wpOp P ops Q k K a w := by
  unfold wpOp
  simp only [hk]
  unfold wpList at h
  split at h
  · rename_i hw
    rw [if_pos hw]
    rcases h with h | ⟨h1, a2, w2, h2⟩
    · left
      unfold Oper.wp at *
      generalize (execOp a.eval o).run P w = r at *
      cases r with
      | ok n w' =>
        cases n <;> simp only [Oper.upon] at h ⊢ <;>
          first
            | exact h
            | exact Calls.mono h (fun e w'' he => by
                cases e with
                | outgrown => obtain ⟨a3, w3, h3⟩ := he; exact ⟨a3, w3, h3⟩
                | _ => exact he)
            | exact Rows.mono h (fun _ _ he => he)
      | halt x w' => cases x <;> simp only [Oper.upon] at h ⊢ <;> exact h
    · exact .inr ⟨h1, a2, w2, h2⟩
  · rename_i hw
    rw [if_neg hw]
    exact h
theorem hold_M {l : List Oper} (hl : l.toArray = ops) (hsel : Region.noSelect ops = true) (ht : tailB md ops m = true) (hms : m ≤ ops.size) (hQ : ∀ c a d v w, Q (.panic c) (Act.put a d v) w → Q (.panic c) a w) :
    ∀ (ord : List (Nat × Bool)) (listed : Array Bool) (a : Act) (w : World), HeadInv md ops m listed → holdGo md ops m ord listed = true → S w →
      wpHold P ops Q S (wpList P ops Q (l.drop m)) ord a w → wpAnyM P md ops Q S m (ord.length + (ops.size - m)) listed a w
  | [], listed, a, w, _, hB, _, h => by
    have hd : (l.drop m).length = ops.size - m := by rw [← hl]; simp
    have := wpAnyM_seq (S := S) (m := m) (md := md) (ops := ops) (l.drop m) m listed a w (Nat.le_refl _) (fun j => by rw [← hl]; simp [List.getElem?_drop]) (by rw [hd]; exact hB) h
    rw [hd] at this
    simpa using this
  | (k, true) :: r, listed, a, w, inv, hB, hS, h => by
    obtain ⟨o, ho, v, hy, h⟩ := h
    simp only [holdGo, Bool.and_eq_true, decide_eq_true_eq] at hB
    obtain ⟨⟨⟨h1, h2⟩, h3⟩, h4⟩ := hB
    have hr : k ∈ Region.ready md ops listed := by simpa using h2
    rw [List.length_cons, show r.length + 1 + (ops.size - m) = (r.length + (ops.size - m)) + 1 by omega]
    exact wpAnyM_first ho (Region.noSelect_spec hsel) (fun c a w => hQ c a _ _ w) ht h1 _ listed a w inv (Region.free_spec ho h3) hr hy hS
      (hold_M hl hsel ht hms hQ r _ _ w (inv.set hr h1) h4 hS h)
  | (k, false) :: r, listed, a, w, inv, hB, hS, h => by
    obtain ⟨o, ho, h⟩ := h
    simp only [holdGo, Bool.and_eq_true, decide_eq_true_eq] at hB
    obtain ⟨⟨h1, h2⟩, h4⟩ := hB
    rw [List.length_cons, show r.length + 1 + (ops.size - m) = (r.length + (ops.size - m)) + 1 by omega]
    refine ⟨fun h0 => (by rw [h2] at h0; cases h0), fun i hi => ?_⟩
    have hi' := hi
    rw [h2] at hi
    have hik : i = k := by simpa using hi
    subst hik
    exact wpOp_mono (fun a' w' h' => ⟨fun _ => h'.1, hold_M hl hsel ht hms hQ r _ a' w' (inv.set hi' h1) h4 h'.1 h'.2⟩) (wpOp_of_one ho h)
/-- the walk as a word that no tactic looks into -/
@[irreducible] def HW (P : Program) (ops : Array Oper) (Q : Exit → Act → World → Prop) (S : World → Prop) (l : List Oper) (ord : List (Nat × Bool)) (a : Act) (w : World) : Prop := wpHold P ops Q S (wpList P ops Q l) ord a w
theorem HW_of {l : List Oper} {ord : List (Nat × Bool)} {a : Act} {w : World} (h : wpHold P ops Q S (wpList P ops Q l) ord a w) : HW P ops Q S l ord a w := by unfold HW; exact h
theorem of_HW {l : List Oper} {ord : List (Nat × Bool)} {a : Act} {w : World} (h : HW P ops Q S l ord a w) : wpHold P ops Q S (wpList P ops Q l) ord a w := by unfold HW at h; exact h
end
section
variable {P : Program} {Q : Exit → Act → World → Prop} {S : World → Prop} {a : Act} {w : World}
/-- THE BEGINNING -/
theorem wp_region_hold {id : Nat} {l : List Oper} (S : World → Prop) (m : Nat) (ord : List (Nat × Bool)) (hm : P.follows .mixedOrders = true) (hB : holdB l.toArray m ord = true) (hS : S w.drew)
    (h : HW P l.toArray (NoPanic Q) S (l.drop m) ord a w.drew) : (Code.region id l.toArray true).wp P Q a w := by
  simp only [holdB, Bool.and_eq_true, decide_eq_true_eq, beq_iff_eq] at hB
  obtain ⟨⟨⟨hsel, ht⟩, hlen, hms⟩, hgo⟩ := hB
  refine wp_region_noPanic (wp_region_any hm (wpAny_of_M (S := S) (m := m) _ _ _ _ ?_))
  have inv0 : HeadInv .any l.toArray m (Array.replicate l.toArray.size false) :=
    ⟨by simp, fun j oj _ hl => (by rw [getD_replicate_false] at hl; cases hl), fun t _ ht => getD_in (by simpa using ht) (getD_replicate_false _ _)⟩
  have := hold_M (md := .any) (P := P) (Q := NoPanic Q) (S := S) rfl hsel ht hms (fun _ _ _ _ _ h => h) ord _ a _ inv0 hgo hS (of_HW h)
  rwa [hlen, show m + (l.toArray.size - m) = l.toArray.size by omega] at this
variable {ops : Array Oper} {ol l : List Oper} {r : List (Nat × Bool)} {k : Nat} {o : Oper} {u : Value}
theorem hw_nil (h : wpList P ops Q l a w) : HW P ops Q S l [] a w := HW_of h
theorem get_of_list {k : Nat} {o : Oper} (h : ol[k]? = some o) : ol.toArray[k]? = some o := by simpa using h
/-- it reads: the same in every world that meets S -/
theorem hw_read (ho : ol[k]? = some o) (hg : Region.wanted o (yielded ol.toArray a.tmps) = true) (hv : ∀ W, S W → (execOp a.eval o).run P W = .ok (.value u) W)
    (h : HW P ol.toArray Q S l r (a.put o.dst u) w) : HW P ol.toArray Q S l ((k, true) :: r) a w := HW_of ⟨o, get_of_list ho, u, .inl ⟨hg, hv⟩, of_HW h⟩
theorem hw_skip (ho : ol[k]? = some o) (hg : Region.wanted o (yielded ol.toArray a.tmps) = false) (h : HW P ol.toArray Q S l r (a.put o.dst undef) w) : HW P ol.toArray Q S l ((k, true) :: r) a w :=
  HW_of ⟨o, get_of_list ho, undef, .inr ⟨hg, rfl⟩, of_HW h⟩
/-- it calls or writes: one operation by itself -/
theorem hw_step (ho : ol[k]? = some o) (h : wpList P ol.toArray (Exit.then (fun a' w' => S w' ∧ HW P ol.toArray Q S l r a' w') Q) [o] a w) : HW P ol.toArray Q S l ((k, false) :: r) a w :=
  HW_of ⟨o, get_of_list ho, by unfold HW at h; exact h⟩
end
end Go.Sf

/-! Regions with operations that may come in any order among themselves: each, with what only reads of it, brings about a fact of its own that the others leave standing. -/
namespace Go.Sf
open Go
/-- slots d filled with us -/
def putAll (D : List Nat) (us : Nat → Value) (a : Act) : Act := D.foldl (fun a d => a.put (some d) (us d)) a
def upd (us : Nat → Value) (d : Nat) (u : Value) : Nat → Value := fun e => if e = d then u else us e
theorem putAll_cons (d : Nat) (D : List Nat) (us : Nat → Value) (a : Act) : putAll (d :: D) us a = putAll D us (a.put (some d) (us d)) := rfl
theorem putAll_self : ∀ (D : List Nat) (a : Act), putAll D (fun d => a.tmps.getD d undef) a = a
  | [], _ => rfl
  | e :: D, a => by
    rw [putAll_cons]
    have h : a.put (some e) (a.tmps.getD e undef) = a := by
      cases a with
      | mk tmps defers =>
        simp only [Act.put]
        congr 1
        apply Array.ext
        · simp
        · intro i h1 h2
          rw [Array.getElem_setIfInBounds]
          split
          · next he => subst he; simp [Array.getD, h2]
          · rfl
    rw [h]
    exact putAll_self D a
section
variable {P : Program} {ops : Array Oper} {Q : Exit → Act → World → Prop} {md : Region.Mode} {S : World → Prop} {m : Nat}
theorem wpAnyM_succ : ∀ (f : Nat) (listed : Array Bool) (a : Act) (w : World), wpAnyM P md ops Q S m f listed a w → wpAnyM P md ops Q S m (f + 1) listed a w
  | 0, _, _, _, h => ⟨fun _ => h.2, fun i hi => by rw [h.1] at hi; cases hi⟩
  | f + 1, _, _, _, h => ⟨h.1, fun i hi => wpOp_mono (fun a' w' h' => ⟨h'.1, wpAnyM_succ f _ a' w' h'.2⟩) (h.2 i hi)⟩
theorem wpAnyM_le {f g : Nat} (hfg : f ≤ g) {listed : Array Bool} {a : Act} {w : World} (h : wpAnyM P md ops Q S m f listed a w) : wpAnyM P md ops Q S m g listed a w := by
  obtain ⟨d, rfl⟩ := Nat.exists_eq_add_of_le hfg
  induction d with
  | zero => exact h
  | succ d ih => exact wpAnyM_succ _ _ _ _ (ih (by omega))
/-- one of the block: its number and what only reads of it -/
abbrev Bl := Nat × List Nat
def chainOf (d : Bl) : List (Nat × Bool) := (d.1, false) :: d.2.map fun f => (f, true)
def ParT (_P : Program) (J : List Nat → World → Prop) (F : Nat → (Nat → Value) → World → Prop) (hs ds : List Nat) (a : Act) (us : Nat → Value) (W : World) (R : List Nat) (j : Nat) (a' : Act) (W' : World) : Prop :=
  J (R.filter fun i => i != j) W' ∧ ∃ us', a' = putAll ds us' a ∧ F j us' W' ∧ ∀ e, e ∈ hs → e ≠ j → F e us W → F e us' W'
/-- all numbers that have a fact -/
def allOf (D G : List Bl) : List Nat := D.map (·.1) ++ G.map (·.1)
def ParOK (P : Program) (ops : Array Oper) (Q : Exit → Act → World → Prop) (S : World → Prop) (J : List Nat → World → Prop) (F : Nat → (Nat → Value) → World → Prop) (D G : List Bl) (ds : List Nat) (R0 : Act → World → Prop) (a : Act) : Prop :=
  (∀ us W d R, d ∈ D → d.1 ∈ R → J R W → wpHold P ops Q S (ParT P J F (allOf D G) ds a us W R d.1) (chainOf d) (putAll ds us a) W) ∧
  (∀ us W g R, g ∈ G → J R W → (∀ h, h ∈ g.2 → F h us W) → ∃ o, ops[g.1]? = some o ∧ ∃ v us', YieldsIf P ops S o v (putAll ds us a) ∧ (putAll ds us a).put o.dst v = putAll ds us' a ∧ F g.1 us' W ∧ ∀ e, e ∈ allOf D G → e ≠ g.1 → F e us W → F e us' W) ∧
  (∀ us W, J [] W → (∀ e, e ∈ allOf D G → F e us W) → R0 (putAll ds us a) W)
/-- what only reads is taken first; then k -/
def flGo (md : Region.Mode) (ops : Array Oper) (m : Nat) (k : Array Bool → Nat → Bool) : List Nat → Array Bool → Nat → Bool
  | [], listed, fuel => k listed fuel
  | _ :: _, _, 0 => false
  | f :: r, listed, fuel + 1 => decide (f < m) && (Region.ready md ops listed).contains f && Region.free md ops listed f && flGo md ops m k r (listed.setIfInBounds f true) fuel
/-- what reads of several of the block is taken as soon as these are done -/
def gGo (md : Region.Mode) (ops : Array Oper) (m : Nat) (R : List Nat) (k : List Bl → Array Bool → Nat → Bool) : List Bl → List Bl → Array Bool → Nat → Bool
  | [], kept, listed, fuel => k kept listed fuel
  | g :: G, kept, listed, fuel =>
    if g.2.all (fun h => !R.contains h) then
      match fuel with
      | 0 => false
      | f + 1 => decide (g.1 < m) && (Region.ready md ops listed).contains g.1 && Region.free md ops listed g.1 && gGo md ops m R k G kept (listed.setIfInBounds g.1 true) f
    else gGo md ops m R k G (g :: kept) listed fuel
def parGo (md : Region.Mode) (ops : Array Oper) (m : Nat) (post : List (Nat × Bool)) : Nat → List Bl → List Bl → Array Bool → Nat → Bool
  | 0, R, G, listed, fuel => R.isEmpty && G.isEmpty && holdGo md ops m post listed && decide (post.length + (ops.size - m) ≤ fuel)
  | _ + 1, _, _, _, 0 => false
  | n + 1, R, G, listed, fuel + 1 => decide (Region.ready md ops listed = R.map (·.1)) && R.all fun d => decide (d.1 < m) && ((R.filter (fun e => e.1 != d.1)).length == n) &&
      flGo md ops m (fun listed' fuel' => gGo md ops m ((R.filter (fun e => e.1 != d.1)).map (·.1)) (fun G' listed'' fuel'' => parGo md ops m post n (R.filter (fun e => e.1 != d.1)) G' listed'' fuel'') G [] listed' fuel') d.2 (listed.setIfInBounds d.1 true) fuel
theorem fl_M (hsel : Region.noSelect ops = true) (ht : tailB md ops m = true) (hQ : ∀ c a d v w, Q (.panic c) (Act.put a d v) w → Q (.panic c) a w) {T : Act → World → Prop} {k : Array Bool → Nat → Bool}
    (hk : ∀ listed fuel a w, HeadInv md ops m listed → k listed fuel = true → T a w → wpAnyM P md ops Q S m fuel listed a w) :
    ∀ (fl : List Nat) (listed : Array Bool) (fuel : Nat) (a : Act) (w : World), HeadInv md ops m listed → flGo md ops m k fl listed fuel = true → S w → wpHold P ops Q S T (fl.map fun f => (f, true)) a w → wpAnyM P md ops Q S m fuel listed a w
  | [], listed, fuel, a, w, inv, hB, _, h => hk _ _ _ _ inv hB h
  | f :: r, listed, 0, a, w, _, hB, _, _ => by simp [flGo] at hB
  | f :: r, listed, fuel + 1, a, w, inv, hB, hS, h => by
    obtain ⟨o, ho, v, hy, h⟩ := h
    simp only [flGo, Bool.and_eq_true, decide_eq_true_eq] at hB
    obtain ⟨⟨⟨h1, h2⟩, h3⟩, h4⟩ := hB
    have hr : f ∈ Region.ready md ops listed := by simpa using h2
    exact wpAnyM_first ho (Region.noSelect_spec hsel) (fun c a w => hQ c a _ _ w) ht h1 _ listed a w inv (Region.free_spec ho h3) hr hy hS
      (fl_M hsel ht hQ hk r _ _ _ w (inv.set hr h1) h4 hS h)
/-- what stands while R and G are still to come -/
def Facts (F : Nat → (Nat → Value) → World → Prop) (D G0 : List Bl) (R : List Nat) (G : List Bl) (us : Nat → Value) (w : World) : Prop :=
  (∀ d, d ∈ D → d.1 ∉ R → F d.1 us w) ∧ ∀ g, g ∈ G0 → (∀ x, x ∈ G → x.1 ≠ g.1) → F g.1 us w
theorem g_M (hsel : Region.noSelect ops = true) (ht : tailB md ops m = true) (hQ : ∀ c a d v w, Q (.panic c) (Act.put a d v) w → Q (.panic c) a w)
    {J : List Nat → World → Prop} (hJ : ∀ R W, J R W → S W) {F : Nat → (Nat → Value) → World → Prop} {D G0 : List Bl} {ds : List Nat} {R0 : Act → World → Prop} {a : Act}
    (h : ParOK P ops Q S J F D G0 ds R0 a) (hdep : ∀ g, g ∈ G0 → ∀ x, x ∈ g.2 → ∃ d, d ∈ D ∧ d.1 = x) {R : List Nat} {k : List Bl → Array Bool → Nat → Bool}
    (hk : ∀ kept listed fuel us w, HeadInv md ops m listed → k kept listed fuel = true → J R w → Facts F D G0 R kept us w → (∀ x, x ∈ kept → x ∈ G0) → wpAnyM P md ops Q S m fuel listed (putAll ds us a) w) :
    ∀ (G kept : List Bl) (listed : Array Bool) (fuel : Nat) (us : Nat → Value) (w : World), HeadInv md ops m listed → gGo md ops m R k G kept listed fuel = true → J R w → Facts F D G0 R (G ++ kept) us w → (∀ x, x ∈ G ++ kept → x ∈ G0) →
      wpAnyM P md ops Q S m fuel listed (putAll ds us a) w
  | [], kept, listed, fuel, us, w, inv, hB, hj, hF, hG => hk kept listed fuel us w inv hB hj (by simpa using hF) (by simpa using hG)
  | g :: G, kept, listed, fuel, us, w, inv, hB, hj, hF, hG => by
    unfold gGo at hB
    split at hB
    · next hall =>
      cases fuel with
      | zero => cases hB
      | succ f =>
        simp only [Bool.and_eq_true, decide_eq_true_eq] at hB
        obtain ⟨⟨⟨h1, h2⟩, h3⟩, h4⟩ := hB
        have hr : g.1 ∈ Region.ready md ops listed := by simpa using h2
        have hg0 : g ∈ G0 := hG g (by simp)
        obtain ⟨o, ho, v, us', hy, hput, hFg, hFe⟩ := h.2.1 us w g R hg0 hj (fun x hx => by
          obtain ⟨d, hd, rfl⟩ := hdep g hg0 x hx
          refine hF.1 d hd fun hm => ?_
          have := List.all_eq_true.1 hall _ hx
          simp [hm] at this)
        refine wpAnyM_first ho (Region.noSelect_spec hsel) (fun c a w => hQ c a _ _ w) ht h1 _ listed _ w inv (Region.free_spec ho h3) hr hy (hJ _ _ hj) ?_
        rw [hput]
        refine g_M hsel ht hQ hJ h hdep hk G kept _ f us' w (inv.set hr h1) h4 hj ⟨fun d hd hne => ?_, fun x hx hne => ?_⟩ (fun x hx => hG x (by simp at hx ⊢; exact .inr hx))
        · by_cases he : d.1 = g.1
          · rw [he]; exact hFg
          · exact hFe d.1 (List.mem_append.2 (.inl (List.mem_map.2 ⟨d, hd, rfl⟩))) he (hF.1 d hd hne)
        · by_cases he : x.1 = g.1
          · rw [he]; exact hFg
          · exact hFe x.1 (List.mem_append.2 (.inr (List.mem_map.2 ⟨x, hx, rfl⟩))) he (hF.2 x hx fun y hy => by
              rcases List.mem_cons.1 (show y ∈ g :: (G ++ kept) from hy) with rfl | hy
              · exact fun e => he e.symm
              · exact hne y hy)
    · exact g_M hsel ht hQ hJ h hdep hk G (g :: kept) listed fuel us w inv hB hj ⟨hF.1, fun x hx hne => hF.2 x hx fun y hy => hne y (by simp at hy ⊢; rcases hy with h | h | h <;> simp [h])⟩ (fun x hx => hG x (by simp at hx ⊢; rcases hx with h | h | h <;> simp [h]))
theorem par_M {l : List Oper} (hl : l.toArray = ops) (hsel : Region.noSelect ops = true) (ht : tailB md ops m = true) (hms : m ≤ ops.size) (hQ : ∀ c a d v w, Q (.panic c) (Act.put a d v) w → Q (.panic c) a w)
    {J : List Nat → World → Prop} (hJ : ∀ R W, J R W → S W) {F : Nat → (Nat → Value) → World → Prop} {D G0 : List Bl} {ds : List Nat} {post : List (Nat × Bool)} {a : Act}
    (h : ParOK P ops Q S J F D G0 ds (wpHold P ops Q S (wpList P ops Q (l.drop m)) post) a) (hdep : ∀ g, g ∈ G0 → ∀ x, x ∈ g.2 → ∃ d, d ∈ D ∧ d.1 = x) (hdis : ∀ d g, d ∈ D → g ∈ G0 → g.1 ≠ d.1) :
    ∀ (n : Nat) (R G : List Bl) (listed : Array Bool) (fuel : Nat) (us : Nat → Value) (w : World), HeadInv md ops m listed → parGo md ops m post n R G listed fuel = true → R.length = n → J (R.map (·.1)) w →
      (∀ d, d ∈ R → d ∈ D) → Facts F D G0 (R.map (·.1)) G us w → (∀ x, x ∈ G → x ∈ G0) → wpAnyM P md ops Q S m fuel listed (putAll ds us a) w
  | 0, R, G, listed, fuel, us, w, inv, hB, hn, hS, _, hF, _ => by
    simp only [parGo, Bool.and_eq_true, decide_eq_true_eq, List.isEmpty_iff] at hB
    have hR : R = [] := List.length_eq_zero_iff.1 hn
    subst hR
    obtain ⟨⟨⟨-, hGe⟩, hB1⟩, hB2⟩ := hB
    subst hGe
    exact wpAnyM_le hB2 (hold_M hl hsel ht hms hQ post listed _ w inv hB1 (hJ _ _ hS) (h.2.2 us w hS fun e he => by
      rcases List.mem_append.1 he with he | he
      · obtain ⟨d, hd, rfl⟩ := List.mem_map.1 he; exact hF.1 d hd (by simp)
      · obtain ⟨g, hg, rfl⟩ := List.mem_map.1 he; exact hF.2 g hg (fun x hx => by simp at hx)))
  | n + 1, R, G, listed, 0, us, w, inv, hB, hn, hS, hRD, hF, _ => by simp [parGo] at hB
  | n + 1, R, G, listed, fuel + 1, us, w, inv, hB, hn, hS, hRD, hF, hGG => by
    simp only [parGo, Bool.and_eq_true, decide_eq_true_eq, List.all_eq_true, beq_iff_eq] at hB
    obtain ⟨hr, hall⟩ := hB
    refine ⟨fun h0 => ?_, fun j hj => ?_⟩
    · rw [hr] at h0; rw [List.map_eq_nil_iff.1 h0] at hn; simp at hn
    · have hj' := hj
      rw [hr] at hj
      obtain ⟨d, hd, rfl⟩ := List.mem_map.1 hj
      obtain ⟨⟨hjm, hlen⟩, hgo⟩ := hall d hd
      obtain ⟨o, ho, hw⟩ := h.1 us w d (R.map (·.1)) (hRD d hd) hj hS
      refine wpOp_mono (fun a' w' h' => ⟨fun _ => h'.1, ?_⟩) (wpOp_of_one ho hw)
      refine fl_M hsel ht hQ (fun listed' fuel' a' w' inv' hk hT => ?_) d.2 _ fuel a' w' (inv.set hj' hjm) hgo h'.1 h'.2
      obtain ⟨hJ', us', rfl, hFj, hFe⟩ := hT
      have hJ2 : J ((R.filter (fun e => e.1 != d.1)).map (·.1)) w' := by rw [List.filter_map] at hJ'; exact hJ'
      have hF2 : Facts F D G0 ((R.filter (fun e => e.1 != d.1)).map (·.1)) G us' w' := by
        refine ⟨fun e he hne => ?_, fun g hg hne => hFe g.1 (List.mem_append.2 (.inr (List.mem_map.2 ⟨g, hg, rfl⟩))) (hdis d g (hRD d hd) hg) (hF.2 g hg hne)⟩
        by_cases hed : e.1 = d.1
        · rw [hed]; exact hFj
        · refine hFe e.1 (List.mem_append.2 (.inl (List.mem_map.2 ⟨e, he, rfl⟩))) hed (hF.1 e he fun hm => hne ?_)
          obtain ⟨x, hx, hxe⟩ := List.mem_map.1 hm
          exact List.mem_map.2 ⟨x, List.mem_filter.2 ⟨hx, by simp [hxe, hed]⟩, hxe⟩
      refine g_M hsel ht hQ hJ h hdep (fun kept listed2 fuel2 us2 w2 inv2 hk2 hj2 hf2 hkG => ?_) G [] listed' fuel' us' w' inv' hk hJ2 (by simpa using hF2) (by simpa using hGG)
      exact par_M hl hsel ht hms hQ hJ h hdep hdis n _ kept listed2 fuel2 us2 w2 inv2 hk2 hlen hj2 (fun e he => hRD e (List.mem_filter.1 he).1) hf2 hkG
/-- the operations ahead, the block, the operations behind -/
def parPre (md : Region.Mode) (ops : Array Oper) (m : Nat) (D G : List Bl) (post : List (Nat × Bool)) : List (Nat × Bool) → Array Bool → Nat → Bool
  | [], listed, fuel => parGo md ops m post D.length D G listed fuel
  | _ :: _, _, 0 => false
  | (k, true) :: r, listed, fuel + 1 => decide (k < m) && (Region.ready md ops listed).contains k && Region.free md ops listed k && parPre md ops m D G post r (listed.setIfInBounds k true) fuel
  | (k, false) :: r, listed, fuel + 1 => decide (k < m) && decide (Region.ready md ops listed = [k]) && parPre md ops m D G post r (listed.setIfInBounds k true) fuel
theorem pre_M {l : List Oper} (hl : l.toArray = ops) (hsel : Region.noSelect ops = true) (ht : tailB md ops m = true) (hms : m ≤ ops.size) (hQ : ∀ c a d v w, Q (.panic c) (Act.put a d v) w → Q (.panic c) a w)
    {J : List Nat → World → Prop} (hJ : ∀ R W, J R W → S W) {F : Nat → (Nat → Value) → World → Prop} {D G : List Bl} {ds : List Nat} {post : List (Nat × Bool)} (hdep : ∀ g, g ∈ G → ∀ x, x ∈ g.2 → ∃ d, d ∈ D ∧ d.1 = x) (hdis : ∀ d g, d ∈ D → g ∈ G → g.1 ≠ d.1) :
    ∀ (pre : List (Nat × Bool)) (listed : Array Bool) (fuel : Nat) (a : Act) (w : World), HeadInv md ops m listed → parPre md ops m D G post pre listed fuel = true → S w →
      wpHold P ops Q S (fun a w => J (D.map (·.1)) w ∧ ParOK P ops Q S J F D G ds (wpHold P ops Q S (wpList P ops Q (l.drop m)) post) a) pre a w →
      wpAnyM P md ops Q S m fuel listed a w
  | [], listed, fuel, a, w, inv, hB, hS, h => by
    have h2 := par_M (P := P) hl hsel ht hms hQ hJ h.2 hdep hdis D.length D G listed fuel (fun d => a.tmps.getD d undef) w inv hB rfl h.1 (fun _ hd => hd) ⟨fun d hd hne => absurd (List.mem_map.2 ⟨d, hd, rfl⟩) hne, fun g hg hne => absurd rfl (hne g hg)⟩ (fun _ hx => hx)
    rwa [putAll_self] at h2
  | _ :: _, _, 0, _, _, _, hB, _, _ => by simp [parPre] at hB
  | (k, true) :: r, listed, fuel + 1, a, w, inv, hB, hS, h => by
    obtain ⟨o, ho, v, hy, h⟩ := h
    simp only [parPre, Bool.and_eq_true, decide_eq_true_eq] at hB
    obtain ⟨⟨⟨h1, h2⟩, h3⟩, h4⟩ := hB
    have hr : k ∈ Region.ready md ops listed := by simpa using h2
    exact wpAnyM_first ho (Region.noSelect_spec hsel) (fun c a w => hQ c a _ _ w) ht h1 _ listed a w inv (Region.free_spec ho h3) hr hy hS
      (pre_M hl hsel ht hms hQ hJ hdep hdis r _ fuel _ w (inv.set hr h1) h4 hS h)
  | (k, false) :: r, listed, fuel + 1, a, w, inv, hB, hS, h => by
    obtain ⟨o, ho, h⟩ := h
    simp only [parPre, Bool.and_eq_true, decide_eq_true_eq] at hB
    obtain ⟨⟨h1, h2⟩, h4⟩ := hB
    refine ⟨fun h0 => (by rw [h2] at h0; cases h0), fun i hi => ?_⟩
    have hi' := hi
    rw [h2] at hi
    have hik : i = k := by simpa using hi
    subst hik
    exact wpOp_mono (fun a' w' h' => ⟨fun _ => h'.1, pre_M hl hsel ht hms hQ hJ hdep hdis r _ fuel a' w' (inv.set hi' h1) h4 h'.1 h'.2⟩) (wpOp_of_one ho h)
def parB (ops : Array Oper) (m : Nat) (D G : List Bl) (pre post : List (Nat × Bool)) : Bool :=
  Region.noSelect ops && tailB .any ops m && decide (m ≤ ops.size) && (G.all (fun g => g.2.all fun x => (D.map (·.1)).contains x) && D.all (fun d => G.all fun g => g.1 != d.1)) && parPre .any ops m D G post pre (Array.replicate ops.size false) ops.size
/-- the words that no tactic looks into -/
@[irreducible] def HPre (P : Program) (ops : Array Oper) (Q : Exit → Act → World → Prop) (S : World → Prop) (J : List Nat → World → Prop) (F : Nat → (Nat → Value) → World → Prop) (D G : List Bl) (ds : List Nat) (l : List Oper) (pre post : List (Nat × Bool)) (a : Act) (w : World) : Prop :=
  wpHold P ops Q S (fun a w => J (D.map (·.1)) w ∧ ParOK P ops Q S J F D G ds (wpHold P ops Q S (wpList P ops Q l) post) a) pre a w
@[irreducible] def HCh (P : Program) (ops : Array Oper) (Q : Exit → Act → World → Prop) (S : World → Prop) (T : Act → World → Prop) (ord : List (Nat × Bool)) (a : Act) (w : World) : Prop := wpHold P ops Q S T ord a w
end
section
variable {P : Program} {Q : Exit → Act → World → Prop} {S : World → Prop} {J : List Nat → World → Prop} {a : Act} {w : World} {F : Nat → (Nat → Value) → World → Prop} {D G : List Bl} {ds : List Nat}
theorem wp_region_par {id : Nat} {l : List Oper} (S : World → Prop) (J : List Nat → World → Prop) (F : Nat → (Nat → Value) → World → Prop) (m : Nat) (D G : List Bl) (ds : List Nat) (pre post : List (Nat × Bool)) (hm : P.follows .mixedOrders = true) (hB : parB l.toArray m D G pre post = true)
    (hJ : ∀ R W, J R W → S W) (hS : S w.drew)
    (h : HPre P l.toArray (NoPanic Q) S J F D G ds (l.drop m) pre post a w.drew) : (Code.region id l.toArray true).wp P Q a w := by
  simp only [parB, Bool.and_eq_true, decide_eq_true_eq, List.all_eq_true, bne_iff_ne, List.contains_iff_mem] at hB
  obtain ⟨⟨⟨⟨hsel, ht⟩, hms⟩, hdep, hdis⟩, hgo⟩ := hB
  refine wp_region_noPanic (wp_region_any hm (wpAny_of_M (S := S) (m := m) _ _ _ _ ?_))
  have inv0 : HeadInv .any l.toArray m (Array.replicate l.toArray.size false) :=
    ⟨by simp, fun j oj _ hl => (by rw [getD_replicate_false] at hl; cases hl), fun t _ ht => getD_in (by simpa using ht) (getD_replicate_false _ _)⟩
  unfold HPre at h
  exact pre_M (md := .any) (P := P) (Q := NoPanic Q) (S := S) (F := F) rfl hsel ht hms (fun _ _ _ _ _ h => h) hJ (fun g hg x hx => by obtain ⟨d, hd, e⟩ := List.mem_map.1 (hdep g hg x hx); exact ⟨d, hd, e⟩) (fun d g hd hg => hdis d hd g hg) pre _ _ a _ inv0 hgo hS h
variable {ol l : List Oper} {r post : List (Nat × Bool)} {k : Nat} {o : Oper} {u : Value} {T : Act → World → Prop}
theorem hp_read (ho : ol[k]? = some o) (hg : Region.wanted o (yielded ol.toArray a.tmps) = true) (hv : ∀ W, S W → (execOp a.eval o).run P W = .ok (.value u) W)
    (h : HPre P ol.toArray Q S J F D G ds l r post (a.put o.dst u) w) : HPre P ol.toArray Q S J F D G ds l ((k, true) :: r) post a w := by
  unfold HPre at h ⊢
  exact ⟨o, get_of_list ho, u, .inl ⟨hg, hv⟩, h⟩
theorem hp_skip (ho : ol[k]? = some o) (hg : Region.wanted o (yielded ol.toArray a.tmps) = false) (h : HPre P ol.toArray Q S J F D G ds l r post (a.put o.dst undef) w) : HPre P ol.toArray Q S J F D G ds l ((k, true) :: r) post a w := by
  unfold HPre at h ⊢
  exact ⟨o, get_of_list ho, undef, .inr ⟨hg, rfl⟩, h⟩
/-- the block: one goal for each of its operations, then the rest -/
theorem hp_par (h0 : J (D.map (·.1)) w) (h1 : ∀ us W d R, d ∈ D → d.1 ∈ R → J R W → HCh P ol.toArray Q S (ParT P J F (allOf D G) ds a us W R d.1) (chainOf d) (putAll ds us a) W)
    (hg : ∀ us W g R, g ∈ G → J R W → (∀ h, h ∈ g.2 → F h us W) → ∃ o, ol[g.1]? = some o ∧ ∃ v us', (Region.wanted o (yielded ol.toArray (putAll ds us a).tmps) = true ∧ ∀ W, S W → (execOp (putAll ds us a).eval o).run P W = .ok (.value v) W) ∧ (putAll ds us a).put o.dst v = putAll ds us' a ∧ F g.1 us' W ∧ ∀ e, e ∈ allOf D G → e ≠ g.1 → F e us W → F e us' W)
    (h2 : ∀ us W, J [] W → (∀ e, e ∈ allOf D G → F e us W) → HW P ol.toArray Q S l post (putAll ds us a) W) : HPre P ol.toArray Q S J F D G ds l [] post a w := by
  unfold HPre
  refine ⟨h0, fun us W d R hd hR hS => ?_, fun us W g R hG hj hf => ?_, fun us W hS hF => of_HW (h2 us W hS hF)⟩
  · have := h1 us W d R hd hR hS
    unfold HCh at this
    exact this
  · obtain ⟨o, ho, v, us', hy, h3⟩ := hg us W g R hG hj hf
    exact ⟨o, get_of_list ho, v, us', .inl hy, h3⟩
theorem hc_step (ho : ol[k]? = some o) (h : wpList P ol.toArray (Exit.then (fun a' w' => S w' ∧ HCh P ol.toArray Q S T r a' w') Q) [o] a w) : HCh P ol.toArray Q S T ((k, false) :: r) a w := by
  unfold HCh at h ⊢
  exact ⟨o, get_of_list ho, h⟩
theorem hc_read (ho : ol[k]? = some o) (hg : Region.wanted o (yielded ol.toArray a.tmps) = true) (hv : ∀ W, S W → (execOp a.eval o).run P W = .ok (.value u) W)
    (h : HCh P ol.toArray Q S T r (a.put o.dst u) w) : HCh P ol.toArray Q S T ((k, true) :: r) a w := by
  unfold HCh at h ⊢
  exact ⟨o, get_of_list ho, u, .inl ⟨hg, hv⟩, h⟩
theorem hc_nil (h : T a w) : HCh P ol.toArray Q S T [] a w := by
  unfold HCh; exact h
end
end Go.Sf

/-! The reader that draws: its block changes, all else is as it was. -/
namespace Go.Sf
open Go Go.RowKit
/-- the bytes xs lie in a block below rb, of whatever type -/
def UIn (rb : Nat) (w : World) (A : Option Addr) (c : Nat) (xs : List Int) : Prop :=
  xs.length ≤ c ∧ (c ≤ maxLen ∧ (A = none → c = 0)) ∧ xs.length ≤ lim ∧ ∀ (k : Nat) (x : Int), xs[k]? = some x → ∃ b o, A = some ⟨b, o, none⟩ ∧ b < rb ∧ w.cell? ⟨b, o + k, none⟩ = some (.int .u8 x) ∧ 0 ≤ x ∧ x ≤ 255
def Bys (w : World) (v : Value) (xs : List Int) : Prop := ∃ A c, v = .slice A xs.length c ∧ UIn w.heap.size w A c xs
theorem UIn.at_ {rb : Nat} {w : World} {A : Option Addr} {c : Nat} {l : List Int} (h : UIn rb w A c l) {k : Nat} {x : Int} (hx : l[k]? = some x) :
    ∃ b o, A = some ⟨b, o, none⟩ ∧ 0 ≤ x ∧ x ≤ 255 ∧ b < rb ∧ w.cell? ⟨b, o + k, none⟩ = some (.int .u8 x) := by
  obtain ⟨b, o, rfl, h1, h2, h3, h4⟩ := h.2.2.2 k x hx
  exact ⟨b, o, rfl, h3, h4, h1, h2⟩
theorem UIn.low {rb : Nat} {w w' : World} {A : Option Addr} {c : Nat} {l : List Int} (h : UIn rb w A c l) (hl : ∀ b, b < rb → w'.heap[b]? = w.heap[b]?) : UIn rb w' A c l :=
  ⟨h.1, h.2.1, h.2.2.1, fun k x hx => let ⟨b, o, h1, h2, h3, h4⟩ := h.2.2.2 k x hx; ⟨b, o, h1, h2, (World.cell?_of_block (hl b h2)).trans h3, h4⟩⟩
/-- all but block rb is as it was; new blocks may have come -/
def ExtR (rb : Nat) (w w' : World) : Prop := (w'.os = w.os ∧ w'.tape = w.tape ∧ w'.output = w.output) ∧ w.heap.size ≤ w'.heap.size ∧ ∀ k, k < w.heap.size → k ≠ rb → w'.heap[k]? = w.heap[k]?
section
variable {rb : Nat} {w w' w'' : World}
theorem Ext.toR (h : Ext w w') (rb : Nat) : ExtR rb w w' := ⟨⟨Below.os h, Below.tape h, Below.output h⟩, h.size, fun _ hk _ => h.block hk⟩
theorem ExtR.refl (rb : Nat) (w : World) : ExtR rb w w := (Ext.refl w).toR rb
theorem ExtR.trans (h : ExtR rb w w') (k : ExtR rb w' w'') : ExtR rb w w'' :=
  ⟨⟨k.1.1.trans h.1.1, k.1.2.1.trans h.1.2.1, k.1.2.2.trans h.1.2.2⟩, Nat.le_trans h.2.1 k.2.1, fun i hi hr => (k.2.2 i (Nat.lt_of_lt_of_le hi h.2.1) hr).trans (h.2.2 i hi hr)⟩
theorem ExtR.ext {w0 : World} (h : ExtR rb w w') (h0 : Ext w0 w) (hr : w0.heap.size ≤ rb) : Ext w0 w' :=
  ⟨h.1.1.trans (Below.os h0 : w.os = w0.os), h.1.2.1.trans (Below.tape h0 : w.tape = w0.tape), h.1.2.2.trans (Below.output h0 : w.output = w0.output), Nat.le_trans h0.size h.2.1, fun k hk => (h.2.2 k (Nat.lt_of_lt_of_le hk h0.size) (by omega)).trans (h0.block hk)⟩
theorem ExtR.size (h : ExtR rb w w') : w.heap.size ≤ w'.heap.size := h.2.1
theorem ExtR.blk (h : ExtR rb w w') {b : Nat} {t : TypeId} {cs : Array Value} (hb : Blk w b t cs) (hne : b ≠ rb) : Blk w' b t cs := (h.2.2 b hb.lt hne).trans hb
theorem ExtR.keepsT (h : ExtR rb w w') {t : TypeId} {cs : Array Value} (hr : Blk w rb t cs) : KeepsT t w w' := fun _ _ _ ht hb => h.blk hb (Blk.ne_ hb hr ht)
theorem ExtR.set {p : Addr} (hp : p.block = rb) (u : Value) : ExtR rb w (w.setCell p u) :=
  ⟨⟨rfl, rfl, rfl⟩, by simp [World.setCell], fun k _ hk => Below.heap_setCell w p u k (by omega)⟩
theorem ExtR.setNew (h : ExtR rb w w') {p : Addr} (hp : w.heap.size ≤ p.block) (u : Value) : ExtR rb w (w'.setCell p u) :=
  ⟨⟨h.1.1, h.1.2.1, h.1.2.2⟩, by simpa [World.setCell] using h.2.1, fun k hk hne => (Below.heap_setCell w' p u k (by omega)).trans (h.2.2 k hk hne)⟩
theorem ExtR.extend (h : ExtR rb w w') (e : Ext w' w'') : ExtR rb w w'' := h.trans (e.toR rb)
end
end Go.Sf

/-! Appends where the reader may have gone on: the same laws, with what they leave told block by block. -/
namespace Go.Sf
open Go Go.RowKit
section
variable {P : Program} {α : Type} {ops : Array Oper} {rest : List Oper} {o : Oper} {a : Act} {Q : Exit → Act → World → Prop}
theorem wp_apG {W : World} {T t sz B : Nat} {E : World → Array Value → Nat → α → Prop} (hgd : o.guard = none) (s x : Operand)
    (ho : o.op = .call { callee := .builtin .append, args := #[s, x], argTypes := #[T, T] })
    (el : Elem P T t sz) (ok : ElOk t sz E) (hB : B ≤ W.heap.size) (v : Value) (l ys : List α) (hs : a.eval s = v) (hown : OwnS B t sz E W v l)
    (ad : Addr) (m c : Nat) (hm : ys.length = m) (cs : Array Value) (hx : a.eval x = .slice (some ad) m c) (hcs : cs.size = m * sz) (hone : ∀ u ∈ cs.toList, u.oneCell' = true)
    (hc : ∀ j u, cs[j]? = some u → W.cell? (ad.add j) = some u) (hE : ∀ k y, ys[k]? = some y → E W cs (k * sz) y) (hl : l.length + ys.length ≤ lim)
    (h : ∀ v' w', OwnS B t sz E w' v' (l ++ ys) → W.grownBy w' v.ownBlock → KeepsT t W w' → wpList P ops Q rest (a.put o.dst v') w') : wpList P ops Q (o :: rest) a W := by
  obtain ⟨i, z, by_, hi, hz, hsz, hby, hb128, hzs⟩ := el.info
  obtain ⟨xs, hrow, hxs⟩ := hown
  subst hm
  have hlim : (l.length + ys.length) * by_ ≤ 140737488355328 := by
    unfold lim at hl
    have : (l.length + ys.length) * by_ ≤ 4194304 * 128 := Nat.mul_le_mul hl hb128
    omega
  refine wpList_append_own W hgd s x T ho B t i z sz by_ el.under hi hz hsz hby hzs el.pos v l.length xs hs hrow ad ys.length c cs.toList hx (by simpa using hcs)
    (fun j u hj => hc j u (by simpa using hj)) hone (by unfold lim at hl; unfold maxLen; omega) hlim hB ?_
  intro v' w' ho' hg _
  refine h v' w' ⟨xs ++ cs.toList, by simpa using ho', ?_⟩ hg (grown_keepsT hrow hg)
  intro k y hk
  have hxl : xs.length = l.length * sz := hrow.1
  have hkt := grown_keepsT hrow hg
  by_cases hlt : k < l.length
  · rw [List.getElem?_append_left hlt] at hk
    refine ok.loc _ _ _ _ _ _ (fun j hj => ?_) (ok.keepT _ _ _ _ _ hkt (hxs k y hk))
    have : k * sz + j < xs.length := by
      rw [hxl]
      have : (k + 1) * sz ≤ l.length * sz := Nat.mul_le_mul_right _ hlt
      rw [Nat.add_mul, Nat.one_mul] at this
      omega
    rw [List.getElem?_toArray, List.getElem?_toArray, List.getElem?_append_left this]
  · rw [List.getElem?_append_right (by omega)] at hk
    refine ok.loc _ _ _ _ _ _ (fun j hj => ?_) (ok.keepT _ _ _ _ _ hkt (hE _ y hk))
    have e : (k - l.length) * sz + l.length * sz = k * sz := by rw [← Nat.add_mul]; congr 1; omega
    rw [List.getElem?_toArray, List.getElem?_append_right (by omega), Array.getElem?_toList]
    congr 1
    omega
theorem wp_ap1G {W : World} {T t sz B : Nat} {E : World → Array Value → Nat → α → Prop} (hgd : o.guard = none) (s x : Operand)
    (ho : o.op = .call { callee := .builtin .append, args := #[s, x], argTypes := #[T, T] })
    (el : Elem P T t sz) (ok : ElOk t sz E) (hB : B ≤ W.heap.size) (v : Value) (l ys : List α) (hs : a.eval s = v) (hown : OwnS B t sz E W v l)
    (m c : Nat) (hm : ys.length = m) (cs : Array Value) (g : Nat) (hx : a.eval x = .slice (some ⟨g, 0, none⟩) m c) (hg : g = W.heap.size) (hcs : cs.size = m * sz) (hone : ∀ u ∈ cs.toList, u.oneCell' = true)
    (hE : ∀ k y, ys[k]? = some y → E W cs (k * sz) y) (hl : l.length + ys.length ≤ lim)
    (h : ∀ v' w', OwnS B t sz E w' v' (l ++ ys) → (W.alloc (.cells cs t)).grownBy w' v.ownBlock → KeepsT t W w' → wpList P ops Q rest (a.put o.dst v') w') :
    wpList P ops Q (o :: rest) a (W.alloc (.cells cs t)) := by
  subst hg
  refine wp_apG hgd s x ho el ok (by simp; omega) v l ys hs (hown.ext ok ((Ext.refl W).alloc _)) _ m c hm cs hx hcs hone (fun j u hj => ?_)
    (fun k y hk => ok.keepT _ _ _ _ _ (((Ext.refl W).alloc _).keepsT _) (hE k y hk)) hl (fun v' w' h1 h2 h3 => h v' w' h1 h2 ((((Ext.refl W).alloc _).keepsT t).trans h3))
  have : (⟨W.heap.size, 0, none⟩ : Addr).add j = ⟨W.heap.size, j, none⟩ := by
    unfold Addr.add; split
    · next h => subst h; rfl
    · simp
  rw [this, (Blk.new W t cs).cell, hj]
end
/-- what such an append leaves, the reader apart -/
theorem OwnS.grown_extR {α : Type} {t sz rb : Nat} {E : World → Array Value → Nat → α → Prop} {w0 W w' : World} {v : Value} {l : List α} (h : OwnS w0.heap.size t sz E W v l) (h0 : ExtR rb w0 W) (hg : W.grownBy w' v.ownBlock) : ExtR rb w0 w' := by
  obtain ⟨xs, ⟨-, h2⟩, -⟩ := h
  refine ⟨⟨hg.os.trans h0.1.1, hg.tape.trans h0.1.2.1, hg.output.trans h0.1.2.2⟩, Nat.le_trans h0.size hg.size, fun k hk hne => ?_⟩
  refine (hg.block k (Nat.lt_of_lt_of_le hk h0.size) fun e => ?_).trans (h0.2.2 k hk hne)
  rcases h2 with ⟨rfl, -⟩ | ⟨g, cap, cur, rfl, hge, -⟩
  · cases e
  · simp only [Value.ownBlock, Option.some.injEq] at e; omega
end Go.Sf
