/- Slices of the call's own that are appended to: what they hold, and the step of an append. -/
import Derived.Test.YtfpkllihfcgmaaaDoorT1
import Derived.Laws.AppendOwn
import Derived.Laws.AppendOwnNone
namespace Go.Sf
open Go Go.RowKit

/-- Blocks of other element types than t are as they were. -/
def KeepsT (t : TypeId) (w w' : World) : Prop := ∀ b t' cs, t' ≠ t → Blk w b t' cs → Blk w' b t' cs
theorem Ext.keepsT {w w' : World} (h : Ext w w') (t : TypeId) : KeepsT t w w' := fun _ _ _ _ hb => hb.ext h
theorem KeepsT.trans {t : TypeId} {a b c : World} (h : KeepsT t a b) (k : KeepsT t b c) : KeepsT t a c := fun _ _ _ ht hb => k _ _ _ ht (h _ _ _ ht hb)
theorem SlOf.keepT {α : Type} {B : Nat} {t t' : TypeId} {sz : Nat} {E : World → Array Value → Nat → α → Prop} {w w' : World} {v : Value} {l : List α}
    (h : SlOf B t sz E w v l) (hk : KeepsT t' w w') (ht : t ≠ t') (hE : ∀ cs p x, E w cs p x → E w' cs p x) : SlOf B t sz E w' v l :=
  let ⟨A, c, hv, h1, h2, h3, h4⟩ := h
  ⟨A, c, hv, h1, h2, h3, fun k x hx => let ⟨b, o, cs, e1, e2, e3, e4⟩ := h4 k x hx; ⟨b, o, cs, e1, e2, hk _ _ _ ht e3, hE _ _ _ e4⟩⟩
theorem Ints.keepT {B : Nat} {t : TypeId} {w w' : World} {v : Value} {xs : List Int} (h : Ints B w v xs) (hk : KeepsT t w w') (ht : 3 ≠ t) : Ints B w' v xs :=
  SlOf.keepT h hk ht fun _ _ _ e => e
theorem Strs.keepT {B : Nat} {t : TypeId} {w w' : World} {v : Value} {xs : List ByteArray} (h : Strs B w v xs) (hk : KeepsT t w w') (ht : 9 ≠ t) : Strs B w' v xs :=
  SlOf.keepT h hk ht fun _ _ _ e => e

/-- what an element's reading must bear -/
structure ElOk {α : Type} (t : TypeId) (sz : Nat) (E : World → Array Value → Nat → α → Prop) : Prop where
  keepT : ∀ w w' cs p x, KeepsT t w w' → E w cs p x → E w' cs p x
  loc : ∀ w cs cs' p p' x, (∀ j, j < sz → cs'[p' + j]? = cs[p + j]?) → E w cs p x → E w cs' p' x
  full : ∀ w cs p x, E w cs p x → ∀ j, j < sz → ∃ u, cs[p + j]? = some u ∧ u.oneCell' = true
theorem eint_ok : ElOk 3 1 EInt := ⟨fun _ _ _ _ _ _ h => h, fun _ _ _ p p' _ hj h => ⟨by have := hj 0 (by omega); simp at this; rw [this]; exact h.1, h.2⟩, fun _ _ _ _ h j hj => ⟨_, by
  have : j = 0 := by omega
  subst this; exact h.1, rfl⟩⟩
theorem estr_ok : ElOk 9 1 EStr := ⟨fun _ _ _ _ _ _ h => h, fun _ _ _ p p' _ hj h => ⟨by have := hj 0 (by omega); simp at this; rw [this]; exact h.1, h.2⟩, fun _ _ _ _ h j hj => ⟨_, by
  have : j = 0 := by omega
  subst this; exact h.1, rfl⟩⟩

/-- v owns a row, from block base on, whose elements are l -/
def OwnS {α : Type} (base : Nat) (t : TypeId) (sz : Nat) (E : World → Array Value → Nat → α → Prop) (w : World) (v : Value) (l : List α) : Prop :=
  ∃ xs, w.ownsRow base t sz v l.length xs ∧ ∀ k x, l[k]? = some x → E w xs.toArray (k * sz) x

section
variable {α : Type} {base B : Nat} {t : TypeId} {sz : Nat} {E : World → Array Value → Nat → α → Prop} {w w' : World} {v : Value} {l : List α}
theorem OwnS.nil (base : Nat) (t : TypeId) (sz : Nat) (E : World → Array Value → Nat → α → Prop) (w : World) : OwnS base t sz E w (.slice none 0 0) [] :=
  ⟨[], World.ownsRow_nil _ _ _ _, fun k x h => by simp at h⟩
theorem OwnS.sl (h : OwnS base t sz E w v l) (hok : ElOk t sz E) (hB : B ≤ base) (hl : l.length ≤ lim) : SlOf B t sz E w v l := by
  obtain ⟨xs, h1, h2⟩ := h
  refine SlOf.of_own h1 hB hl fun k x cs hx hj => ?_
  exact hok.loc _ _ _ _ _ _ (fun j hjs => by rw [hj j hjs, List.getElem?_toArray]) (h2 k x hx)
theorem OwnS.mono {base' : Nat} (h : OwnS base t sz E w v l) (hb : base' ≤ base) : OwnS base' t sz E w v l := by
  obtain ⟨xs, ⟨h1, h1'⟩, h2⟩ := h
  refine ⟨xs, ⟨h1, ?_⟩, h2⟩
  rcases h1' with h | ⟨g, cap, cur, hv, hg, r⟩
  · exact .inl h
  · exact .inr ⟨g, cap, cur, hv, Nat.le_trans hb hg, r⟩
theorem OwnS.form (h : OwnS base t sz E w v l) : ∃ A c, v = .slice A l.length c := by
  obtain ⟨xs, ⟨h1, h2⟩, -⟩ := h
  rcases h2 with ⟨rfl, hn⟩ | ⟨g, cap, cur, rfl, -⟩
  · exact ⟨_, _, by rw [hn]⟩
  · exact ⟨_, _, rfl⟩
/-- it stays so while memory only grows -/
theorem OwnS.ext (h : OwnS base t sz E w v l) (hok : ElOk t sz E) (e : Ext w w') : OwnS base t sz E w' v l := by
  obtain ⟨xs, ⟨h1, h1'⟩, h2⟩ := h
  refine ⟨xs, ⟨h1, ?_⟩, fun k x hx => hok.keepT _ _ _ _ _ (e.keepsT _) (h2 k x hx)⟩
  rcases h1' with h | ⟨g, cap, cur, hv, hg, hh, r⟩
  · exact .inl h
  · exact .inr ⟨g, cap, cur, hv, hg, (Blk.ext (cs := cur) (t := t) hh e), r⟩
/-- .. and while rows of another type are written -/
theorem OwnS.keepT {t' : TypeId} (h : OwnS base t sz E w v l) (hk : KeepsT t' w w') (ht : t ≠ t') (hE : ∀ cs p x, E w cs p x → E w' cs p x) : OwnS base t sz E w' v l := by
  obtain ⟨xs, ⟨h1, h1'⟩, h2⟩ := h
  refine ⟨xs, ⟨h1, ?_⟩, fun k x hx => hE _ _ _ (h2 k x hx)⟩
  rcases h1' with h | ⟨g, cap, cur, hv, hg, hh, r⟩
  · exact .inl h
  · exact .inr ⟨g, cap, cur, hv, hg, hk _ _ _ ht hh, r⟩
end

theorem OwnS.lit0 {α : Type} {B : Nat} (t : TypeId) (sz : Nat) (E : World → Array Value → Nat → α → Prop) (w : World) (hB : B ≤ w.heap.size) :
    OwnS B t sz E (w.alloc (.cells #[] t)) (.slice (some ⟨w.heap.size, 0, none⟩) 0 0) [] :=
  ⟨[], ⟨by simp, .inr ⟨_, 0, #[], rfl, hB, Blk.new w t #[], Nat.le_refl _, Nat.zero_le _, by simp, by simp⟩⟩, fun k x h => by simp at h⟩
theorem OwnS.lit {α : Type} {B g : Nat} (t : TypeId) (sz : Nat) (E : World → Array Value → Nat → α → Prop) (w : World) (hB : B ≤ w.heap.size) (hg : g = w.heap.size) :
    OwnS B t sz E (w.alloc (.cells #[] t)) (.slice (some ⟨g, 0, none⟩) 0 0) [] := by subst hg; exact OwnS.lit0 t sz E w hB
theorem one_E {α : Type} {sz : Nat} {E : World → Array Value → Nat → α → Prop} {W : World} {cs : Array Value} {y0 : α} (h : E W cs 0 y0) : ∀ k y, [y0][k]? = some y → E W cs (k * sz) y := by
  intro k y hk
  cases k with
  | zero => simp at hk; subst hk; simpa using h
  | succ k => simp at hk
theorem one_cells {cs : List Value} (h : cs.all Value.oneCell' = true) : ∀ u ∈ cs, u.oneCell' = true := List.all_eq_true.1 h
theorem KeepsT.set {t t' : TypeId} {w : World} {b i : Nat} {cs : Array Value} (hb : Blk w b t cs) (u : Value) (ht : t = t') : KeepsT t' w (w.setCell ⟨b, i, none⟩ u) := by
  subst ht
  intro b' t' cs' hne h'
  exact h'.far (p := ⟨b, i, none⟩) (Blk.ne_ h' hb hne) u
theorem KeepsT.refl (t : TypeId) (w : World) : KeepsT t w w := fun _ _ _ _ h => h
/-- the facts on a slice type T of elements of type t that an append asks of the program's tables -/
structure Elem (P : Program) (T t : TypeId) (sz : Nat) : Prop where
  under : P.underlying T = some (.slice t)
  info : ∃ i z by_, P.info? t = some i ∧ i.zero = some z ∧ i.size = sz ∧ i.bytes = by_ ∧ by_ ≤ 128 ∧ z.cells.size = sz
  pos : 0 < sz
theorem elem_of {P : Program} {T t : TypeId} {sz : Nat} {z : Value} {b : Nat} (h1 : P.underlying T = some (.slice t)) (h2 : (P.info? t).map (fun i => (i.zero, i.size, i.bytes)) = some (some z, sz, b))
    (h3 : b ≤ 128) (h4 : z.cells.size = sz) (h5 : 0 < sz) : Elem P T t sz := by
  refine ⟨h1, ?_, h5⟩
  cases hi : P.info? t with
  | none => rw [hi] at h2; cases h2
  | some i =>
    rw [hi] at h2
    simp only [Option.map_some, Option.some.injEq, Prod.mk.injEq] at h2
    exact ⟨i, z, b, rfl, h2.1, h2.2.1, h2.2.2, h3, h4⟩

section
variable {P : Program} {α : Type} {ops : Array Oper} {rest : List Oper} {o : Oper} {a : Act} {Q : Exit → Act → World → Prop}
theorem grown_keepsT {W w' : World} {base t sz n : Nat} {v : Value} {xs : List Value} (hown : W.ownsRow base t sz v n xs) (hg : W.grownBy w' v.ownBlock) : KeepsT t W w' := by
  intro b t' cs ht hb
  refine (hg.block b hb.lt ?_).trans hb
  intro e
  rcases hown.2 with ⟨rfl, -⟩ | ⟨g, cap, cur, rfl, -, hh, -⟩
  · simp [Value.ownBlock] at e
  · simp only [Value.ownBlock, Option.some.injEq] at e
    subst e
    exact Blk.ne_ (t := t') (t' := t) hb hh ht rfl
theorem grown_ext {w0 W w' : World} {t sz n : Nat} {v : Value} {xs : List Value} (h0 : Ext w0 W) (hown : W.ownsRow w0.heap.size t sz v n xs) (hg : W.grownBy w' v.ownBlock) : Ext w0 w' := by
  refine Below.grown h0 hg (Below.size h0) fun k hk => ?_
  exact (hown.lt k hk).1
/-- AN APPEND OF ELEMENTS ys THAT LIE IN A ROW OF THEIR OWN at ad. -/
theorem wp_ap {W w0 : World} {T t sz : Nat} {E : World → Array Value → Nat → α → Prop} (hgd : o.guard = none) (s x : Operand)
    (ho : o.op = .call { callee := .builtin .append, args := #[s, x], argTypes := #[T, T] })
    (el : Elem P T t sz) (ok : ElOk t sz E) (h0 : Ext w0 W) (v : Value) (l ys : List α) (hs : a.eval s = v) (hown : OwnS w0.heap.size t sz E W v l)
    (ad : Addr) (m c : Nat) (hm : ys.length = m) (cs : Array Value) (hx : a.eval x = .slice (some ad) m c) (hcs : cs.size = m * sz) (hone : ∀ u ∈ cs.toList, u.oneCell' = true)
    (hc : ∀ j u, cs[j]? = some u → W.cell? (ad.add j) = some u) (hE : ∀ k y, ys[k]? = some y → E W cs (k * sz) y) (hl : l.length + ys.length ≤ lim)
    (h : ∀ v' w', OwnS w0.heap.size t sz E w' v' (l ++ ys) → Ext w0 w' → KeepsT t W w' → wpList P ops Q rest (a.put o.dst v') w') : wpList P ops Q (o :: rest) a W := by
  obtain ⟨i, z, by_, hi, hz, hsz, hby, hb128, hzs⟩ := el.info
  obtain ⟨xs, hrow, hxs⟩ := hown
  subst hm
  have hlim : (l.length + ys.length) * by_ ≤ 140737488355328 := by
    unfold lim at hl
    have : (l.length + ys.length) * by_ ≤ 4194304 * 128 := Nat.mul_le_mul hl hb128
    omega
  refine wpList_append_own W hgd s x T ho w0.heap.size t i z sz by_ el.under hi hz hsz hby hzs el.pos v l.length xs hs hrow ad ys.length c cs.toList hx (by simpa using hcs)
    (fun j u hj => hc j u (by simpa using hj)) hone (by unfold lim at hl; unfold maxLen; omega) hlim (Below.size h0) ?_
  intro v' w' ho' hg _
  refine h v' w' ⟨xs ++ cs.toList, by simpa using ho', ?_⟩ (grown_ext h0 hrow hg) (grown_keepsT hrow hg)
  intro k y hk
  have hxl : xs.length = l.length * sz := hrow.1
  have hkt := grown_keepsT hrow hg
  by_cases hlt : k < l.length
  · rw [List.getElem?_append_left hlt] at hk
    refine ok.loc _ _ _ _ _ _ (fun j hj => ?_) (ok.keepT _ _ _ _ _ hkt (hxs k y hk))
    have : k * sz + j < xs.length := by
      rw [hxl]
      have : (k + 1) * sz ≤ l.length * sz := Nat.mul_le_mul_right _ hlt
      rw [Nat.add_mul, Nat.one_mul] at this
      omega
    rw [List.getElem?_toArray, List.getElem?_toArray, List.getElem?_append_left this]
  · rw [List.getElem?_append_right (by omega)] at hk
    refine ok.loc _ _ _ _ _ _ (fun j hj => ?_) (ok.keepT _ _ _ _ _ hkt (hE _ y hk))
    have e : (k - l.length) * sz + l.length * sz = k * sz := by rw [← Nat.add_mul]; congr 1; omega
    rw [List.getElem?_toArray, List.getElem?_append_right (by omega), Array.getElem?_toList]
    congr 1
    omega
/-- AN APPEND OF ALL ELEMENTS OF A SLICE, nil let in. -/
theorem wp_apS {W w0 : World} {T t sz B : Nat} {E : World → Array Value → Nat → α → Prop} (hgd : o.guard = none) (s x : Operand)
    (ho : o.op = .call { callee := .builtin .append, args := #[s, x], argTypes := #[T, T] })
    (el : Elem P T t sz) (ok : ElOk t sz E) (h0 : Ext w0 W) (v v2 : Value) (l ys : List α) (hs : a.eval s = v) (hown : OwnS w0.heap.size t sz E W v l)
    (hx : a.eval x = v2) (h2 : SlOf B t sz E W v2 ys) (hl : l.length + ys.length ≤ lim)
    (h : ∀ v' w', OwnS w0.heap.size t sz E w' v' (l ++ ys) → Ext w0 w' → KeepsT t W w' → wpList P ops Q rest (a.put o.dst v') w') : wpList P ops Q (o :: rest) a W := by
  obtain ⟨A, c, rfl, hn, ⟨hc, hc0⟩, -, hel⟩ := h2
  cases A with
  | none =>
    have hy : ys = [] := by
      cases ys with
      | nil => rfl
      | cons y ys => obtain ⟨b, o, cs, e, -⟩ := hel 0 y rfl; cases e
    subst hy
    obtain ⟨i, z, by_, hi, hz, hsz, hby, hb128, hzs⟩ := el.info
    obtain ⟨xs, hrow, hxs⟩ := hown
    refine wpList_append_own_none (w := W) hgd s x T ho w0.heap.size t i sz el.under hi v l.length xs hs hrow (by simpa [hc0 rfl] using hx) ?_
    simpa using h v W ⟨xs, by simpa using hrow, by simpa using hxs⟩ h0 (fun _ _ _ _ hb => hb)
  | some ad =>
    by_cases hy : ys = []
    · subst hy
      exact wp_ap hgd s x ho el ok h0 v l [] hs hown ad 0 c rfl #[] hx (by simp) (by simp) (fun j u hj => by simp at hj) (fun k y hk => by simp at hk) hl h
    · have hlen : 0 < ys.length := List.length_pos_iff.2 hy
      obtain ⟨b, o', cs, e, -, hb, -⟩ := hel 0 ys[0] (by simp [hlen])
      simp only [Option.some.injEq] at e
      subst e
      have hall : ∀ k y, ys[k]? = some y → E W cs (o' + k * sz) y := fun k y hk => by
        obtain ⟨b2, o2, cs2, e2, -, hb2, he2⟩ := hel k y hk
        simp only [Option.some.injEq, Addr.mk.injEq, and_true] at e2
        obtain ⟨rfl, rfl⟩ := e2
        have : cs2 = cs := by
          unfold Blk at hb hb2
          rw [hb] at hb2
          simp only [Option.some.injEq, Obj.cells.injEq] at hb2
          exact hb2.1.symm
        rw [← this]; exact he2
      have hget : ∀ j, j < ys.length * sz → ∃ u, cs[o' + j]? = some u ∧ u.oneCell' = true := fun j hj => by
        have hp := el.pos
        have hk : j / sz < ys.length := Nat.div_lt_of_lt_mul (by rw [Nat.mul_comm]; exact hj)
        have := ok.full _ _ _ _ (hall (j / sz) ys[j / sz] (by simp [hk])) (j % sz) (Nat.mod_lt _ hp)
        rwa [Nat.add_assoc, Nat.mul_comm, Nat.div_add_mod] at this
      have hcsz : o' + ys.length * sz ≤ cs.size := by
        have hp := el.pos
        have hm : 0 < ys.length * sz := Nat.mul_pos hlen hp
        obtain ⟨u, hu, -⟩ := hget (ys.length * sz - 1) (by omega)
        have := (Array.getElem?_eq_some_iff.1 hu).1
        omega
      have hcut : ∀ j, j < ys.length * sz → (cs.extract o' (o' + ys.length * sz))[j]? = cs[o' + j]? := fun j hj => by
        rw [Array.getElem?_extract, if_pos (by omega)]
      have hsize : (cs.extract o' (o' + ys.length * sz)).size = ys.length * sz := by rw [Array.size_extract]; omega
      refine wp_ap hgd s x ho el ok h0 v l ys hs hown ⟨b, o', none⟩ ys.length c rfl (cs.extract o' (o' + ys.length * sz)) hx hsize ?_ ?_ ?_ hl h
      · intro u hu
        obtain ⟨j, hj⟩ := List.mem_iff_getElem?.1 hu
        rw [Array.getElem?_toList] at hj
        have hlt := (Array.getElem?_eq_some_iff.1 hj).1
        rw [hsize] at hlt
        rw [hcut j hlt] at hj
        obtain ⟨u', hu', h1⟩ := hget j hlt
        rw [hu'] at hj
        rw [← Option.some.inj hj]; exact h1
      · intro j u hj
        have hlt := (Array.getElem?_eq_some_iff.1 hj).1
        rw [hsize] at hlt
        rw [hcut j hlt] at hj
        have e : (⟨b, o', none⟩ : Addr).add j = ⟨b, o' + j, none⟩ := by
          unfold Addr.add; split
          · next h => subst h; rfl
          · rfl
        rw [e, hb.cell, hj]
      · intro k y hk
        refine ok.loc _ _ _ _ _ _ (fun j hj => ?_) (hall k y hk)
        have hk' : k < ys.length := by
          rcases Nat.lt_or_ge k ys.length with h | h
          · exact h
          · rw [List.getElem?_eq_none h] at hk; cases hk
        have : (k + 1) * sz ≤ ys.length * sz := Nat.mul_le_mul_right _ hk'
        rw [Nat.add_mul, Nat.one_mul] at this
        rw [hcut _ (by omega), Nat.add_assoc]
/-- AN APPEND OF ELEMENTS THAT HAVE JUST BEEN LAID IN A ROW OF THEIR OWN. -/
theorem wp_ap1 {W w0 : World} {T t sz : Nat} {E : World → Array Value → Nat → α → Prop} (hgd : o.guard = none) (s x : Operand)
    (ho : o.op = .call { callee := .builtin .append, args := #[s, x], argTypes := #[T, T] })
    (el : Elem P T t sz) (ok : ElOk t sz E) (h0 : Ext w0 W) (v : Value) (l ys : List α) (hs : a.eval s = v) (hown : OwnS w0.heap.size t sz E W v l)
    (m c : Nat) (hm : ys.length = m) (cs : Array Value) (g : Nat) (hx : a.eval x = .slice (some ⟨g, 0, none⟩) m c) (hg : g = W.heap.size) (hcs : cs.size = m * sz) (hone : ∀ u ∈ cs.toList, u.oneCell' = true)
    (hE : ∀ k y, ys[k]? = some y → E W cs (k * sz) y) (hl : l.length + ys.length ≤ lim)
    (h : ∀ v' w', OwnS w0.heap.size t sz E w' v' (l ++ ys) → Ext w0 w' → KeepsT t W w' → wpList P ops Q rest (a.put o.dst v') w') :
    wpList P ops Q (o :: rest) a (W.alloc (.cells cs t)) := by
  subst hg
  refine wp_ap hgd s x ho el ok (h0.alloc _) v l ys hs (hown.ext ok ((Ext.refl W).alloc _)) _ m c hm cs hx hcs hone (fun j u hj => ?_)
    (fun k y hk => ok.keepT _ _ _ _ _ (((Ext.refl W).alloc _).keepsT _) (hE k y hk)) hl (fun v' w' h1 h2 h3 => h v' w' h1 h2 ((((Ext.refl W).alloc _).keepsT t).trans h3))
  have : (⟨W.heap.size, 0, none⟩ : Addr).add j = ⟨W.heap.size, j, none⟩ := by
    unfold Addr.add; split
    · next h => subst h; rfl
    · simp
  rw [this, (Blk.new W t cs).cell, hj]
end
end Go.Sf
