/- Appends where the reader may have gone on: the same laws, with what they leave told block by block. -/
import Derived.Test.YtfpkllihfcgmaaaDoorW11
import Derived.Laws.AppendOwn
namespace Go.Sf
open Go Go.RowKit
section
variable {P : Program} {α : Type} {ops : Array Oper} {rest : List Oper} {o : Oper} {a : Act} {Q : Exit → Act → World → Prop}
theorem wp_apG {W : World} {T t sz B : Nat} {E : World → Array Value → Nat → α → Prop} (hgd : o.guard = none) (s x : Operand)
    (ho : o.op = .call { callee := .builtin .append, args := #[s, x], argTypes := #[T, T] })
    (el : Elem P T t sz) (ok : ElOk t sz E) (hB : B ≤ W.heap.size) (v : Value) (l ys : List α) (hs : a.eval s = v) (hown : OwnS B t sz E W v l)
    (ad : Addr) (m c : Nat) (hm : ys.length = m) (cs : Array Value) (hx : a.eval x = .slice (some ad) m c) (hcs : cs.size = m * sz) (hone : ∀ u ∈ cs.toList, u.oneCell' = true)
    (hc : ∀ j u, cs[j]? = some u → W.cell? (ad.add j) = some u) (hE : ∀ k y, ys[k]? = some y → E W cs (k * sz) y) (hl : l.length + ys.length ≤ lim)
    (h : ∀ v' w', OwnS B t sz E w' v' (l ++ ys) → W.grownBy w' v.ownBlock → KeepsT t W w' → wpList P ops Q rest (a.put o.dst v') w') : wpList P ops Q (o :: rest) a W := by
  obtain ⟨i, z, by_, hi, hz, hsz, hby, hb128, hzs⟩ := el.info
  obtain ⟨xs, hrow, hxs⟩ := hown
  subst hm
  have hlim : (l.length + ys.length) * by_ ≤ 140737488355328 := by
    unfold lim at hl
    have : (l.length + ys.length) * by_ ≤ 4194304 * 128 := Nat.mul_le_mul hl hb128
    omega
  refine wpList_append_own W hgd s x T ho B t i z sz by_ el.under hi hz hsz hby hzs el.pos v l.length xs hs hrow ad ys.length c cs.toList hx (by simpa using hcs)
    (fun j u hj => hc j u (by simpa using hj)) hone (by unfold lim at hl; unfold maxLen; omega) hlim hB ?_
  intro v' w' ho' hg _
  refine h v' w' ⟨xs ++ cs.toList, by simpa using ho', ?_⟩ hg (grown_keepsT hrow hg)
  intro k y hk
  have hxl : xs.length = l.length * sz := hrow.1
  have hkt := grown_keepsT hrow hg
  by_cases hlt : k < l.length
  · rw [List.getElem?_append_left hlt] at hk
    refine ok.loc _ _ _ _ _ _ (fun j hj => ?_) (ok.keepT _ _ _ _ _ hkt (hxs k y hk))
    have : k * sz + j < xs.length := by
      rw [hxl]
      have : (k + 1) * sz ≤ l.length * sz := Nat.mul_le_mul_right _ hlt
      rw [Nat.add_mul, Nat.one_mul] at this
      omega
    rw [List.getElem?_toArray, List.getElem?_toArray, List.getElem?_append_left this]
  · rw [List.getElem?_append_right (by omega)] at hk
    refine ok.loc _ _ _ _ _ _ (fun j hj => ?_) (ok.keepT _ _ _ _ _ hkt (hE _ y hk))
    have e : (k - l.length) * sz + l.length * sz = k * sz := by rw [← Nat.add_mul]; congr 1; omega
    rw [List.getElem?_toArray, List.getElem?_append_right (by omega), Array.getElem?_toList]
    congr 1
    omega
theorem wp_ap1G {W : World} {T t sz B : Nat} {E : World → Array Value → Nat → α → Prop} (hgd : o.guard = none) (s x : Operand)
    (ho : o.op = .call { callee := .builtin .append, args := #[s, x], argTypes := #[T, T] })
    (el : Elem P T t sz) (ok : ElOk t sz E) (hB : B ≤ W.heap.size) (v : Value) (l ys : List α) (hs : a.eval s = v) (hown : OwnS B t sz E W v l)
    (m c : Nat) (hm : ys.length = m) (cs : Array Value) (g : Nat) (hx : a.eval x = .slice (some ⟨g, 0, none⟩) m c) (hg : g = W.heap.size) (hcs : cs.size = m * sz) (hone : ∀ u ∈ cs.toList, u.oneCell' = true)
    (hE : ∀ k y, ys[k]? = some y → E W cs (k * sz) y) (hl : l.length + ys.length ≤ lim)
    (h : ∀ v' w', OwnS B t sz E w' v' (l ++ ys) → (W.alloc (.cells cs t)).grownBy w' v.ownBlock → KeepsT t W w' → wpList P ops Q rest (a.put o.dst v') w') :
    wpList P ops Q (o :: rest) a (W.alloc (.cells cs t)) := by
  subst hg
  refine wp_apG hgd s x ho el ok (by simp; omega) v l ys hs (hown.ext ok ((Ext.refl W).alloc _)) _ m c hm cs hx hcs hone (fun j u hj => ?_)
    (fun k y hk => ok.keepT _ _ _ _ _ (((Ext.refl W).alloc _).keepsT _) (hE k y hk)) hl (fun v' w' h1 h2 h3 => h v' w' h1 h2 ((((Ext.refl W).alloc _).keepsT t).trans h3))
  have : (⟨W.heap.size, 0, none⟩ : Addr).add j = ⟨W.heap.size, j, none⟩ := by
    unfold Addr.add; split
    · next h => subst h; rfl
    · simp
  rw [this, (Blk.new W t cs).cell, hj]
end
/-- what such an append leaves, the reader apart -/
theorem OwnS.grown_extR {α : Type} {t sz rb : Nat} {E : World → Array Value → Nat → α → Prop} {w0 W w' : World} {v : Value} {l : List α} (h : OwnS w0.heap.size t sz E W v l) (h0 : ExtR rb w0 W) (hg : W.grownBy w' v.ownBlock) : ExtR rb w0 w' := by
  obtain ⟨xs, ⟨-, h2⟩, -⟩ := h
  refine ⟨⟨hg.os.trans h0.1.1, hg.tape.trans h0.1.2.1, hg.output.trans h0.1.2.2⟩, Nat.le_trans h0.size hg.size, fun k hk hne => ?_⟩
  refine (hg.block k (Nat.lt_of_lt_of_le hk h0.size) fun e => ?_).trans (h0.2.2 k hk hne)
  rcases h2 with ⟨rfl, -⟩ | ⟨g, cap, cur, rfl, hge, -⟩
  · cases e
  · simp only [Value.ownBlock, Option.some.injEq] at e; omega
end Go.Sf
