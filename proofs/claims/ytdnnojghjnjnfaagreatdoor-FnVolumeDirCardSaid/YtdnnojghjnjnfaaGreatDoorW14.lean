/- Appends that tell in which block the row lies then. -/
import Derived.Test.YtdnnojghjnjnfaaGreatDoorGA
namespace Go.Sf
open Go Go.RowKit
/-- behind an append the row lies where it lay, or in a block that came just then -/
theorem own_block {P : Program} {w w' : World} {t ty e : TypeId} {i : TypeInfo} {z : Value} (ht : P.underlying t = some (.slice e)) (hi : P.info? e = some i) (hz : i.zero = some z)
    {base n : Nat} {v v' : Value} {xs : List Value} (hown : w.ownsRow base e i.size v n xs) (a : Addr) (m c : Nat) (news : List Value) (hl : news.length = m * i.size) (hnews : ∀ j u, news[j]? = some u → w.cell? (a.add j) = some u) (h1 : ∀ u ∈ news, u.oneCell' = true)
    (h63 : n + m ≤ maxLen) (hb : (n + m) * i.bytes ≤ 140737488355328) (hm : 0 < m) (hr : (Builtin.append_ #[t, t] ty #[v, .slice (some a) m c]).run P w = .ok v' w') : v'.ownBlock = v.ownBlock ∨ v'.ownBlock = some w.heap.size := by
  have h63' : n + m ≤ 9223372036854775807 := by unfold maxLen at h63; omega
  rcases hown.2 with ⟨rfl, rfl⟩ | ⟨g, cap, cur, rfl, -, hg, hnc, hcm, hcs, htake⟩
  · have h := run_append_nil (P := P) w t ty e i z ht hi hz a m c news hl hnews hm (by omega) (by rw [Nat.zero_add] at hb; omega)
    rw [hr] at h
    injection h with h _
    exact .inr (by rw [h]; rfl)
  · by_cases hroom : n + m ≤ cap
    · have h := run_append_room (P := P) w t ty e i ht hi g n cap cur hg a m c news hl hnews h1 hroom (by rw [hl, hcs, ← Nat.add_mul]; exact Nat.mul_le_mul_right _ hroom)
      rw [hr] at h
      injection h with h _
      exact .inl (by rw [h]; rfl)
    · have h := run_append_grow (P := P) w t ty e i z ht hi hz ⟨g, 0, none⟩ n cap xs hown.1 (hown.cells (g := g) rfl) a m c news hl hnews (by omega) (by omega) (growslice_fits (by omega) hb)
      rw [hr] at h
      injection h with h _
      exact .inr (by rw [h]; rfl)
section
variable {P : Program} {α : Type} {ops : Array Oper} {rest : List Oper} {o : Oper} {a : Act} {Q : Exit → Act → World → Prop}
theorem wp_apW {W : World} {T t sz B : Nat} {E : World → Array Value → Nat → α → Prop} (hgd : o.guard = none) (s x : Operand)
    (ho : o.op = .call { callee := .builtin .append, args := #[s, x], argTypes := #[T, T] })
    (el : Elem P T t sz) (ok : ElOk t sz E) (hB : B ≤ W.heap.size) (v : Value) (l ys : List α) (hs : a.eval s = v) (hown : OwnS B t sz E W v l)
    (ad : Addr) (m c : Nat) (hm : ys.length = m) (hm0 : 0 < m) (cs : Array Value) (hx : a.eval x = .slice (some ad) m c) (hcs : cs.size = m * sz) (hone : ∀ u ∈ cs.toList, u.oneCell' = true)
    (hc : ∀ j u, cs[j]? = some u → W.cell? (ad.add j) = some u) (hE : ∀ k y, ys[k]? = some y → E W cs (k * sz) y) (hl : l.length + ys.length ≤ lim)
    (h : ∀ v' w', OwnS B t sz E w' v' (l ++ ys) → W.grownBy w' v.ownBlock → KeepsT t W w' → (v'.ownBlock = v.ownBlock ∨ v'.ownBlock = some W.heap.size) → wpList P ops Q rest (a.put o.dst v') w') : wpList P ops Q (o :: rest) a W := by
  obtain ⟨i, z, by_, hi, hz, hsz, hby, hb128, hzs⟩ := el.info
  obtain ⟨xs, hrow, hxs⟩ := hown
  subst hm
  have hlim : (l.length + ys.length) * by_ ≤ 140737488355328 := by
    unfold lim at hl
    have : (l.length + ys.length) * by_ ≤ 4194304 * 128 := Nat.mul_le_mul hl hb128
    omega
  have h63 : l.length + ys.length ≤ maxLen := by unfold lim at hl; unfold maxLen; omega
  have hnews : ∀ j u, cs.toList[j]? = some u → W.cell? (ad.add j) = some u := fun j u hj => hc j u (by simpa using hj)
  obtain ⟨v', w', hr, ho', hg, -⟩ := run_append_own (P := P) W B T o.type t i z sz by_ el.under hi hz hsz hby hzs el.pos v l.length xs hrow ad ys.length c cs.toList (by simpa using hcs) hnews hone h63 hlim hB
  have hblk : v'.ownBlock = v.ownBlock ∨ v'.ownBlock = some W.heap.size := by
    subst hsz; subst hby
    exact own_block (P := P) el.under hi hz hrow ad ys.length c cs.toList (by simpa using hcs) hnews hone h63 hlim hm0 hr
  refine wpList_plain hgd fun K hK => ?_
  unfold Oper.wp
  simp only [execOp, ho, resolve, invoke, builtin, Sem.run_bind, Sem.run_pure, Result.andThen_ok, List.map_toArray, List.map_cons, List.map_nil, hs, hx, hr]
  refine hK _ _ (h v' w' ⟨xs ++ cs.toList, by simpa using ho', ?_⟩ hg (grown_keepsT hrow hg) hblk)
  intro k y hk
  have hxl : xs.length = l.length * sz := hrow.1
  have hkt := grown_keepsT hrow hg
  by_cases hlt : k < l.length
  · rw [List.getElem?_append_left hlt] at hk
    refine ok.loc _ _ _ _ _ _ (fun j hj => ?_) (ok.keepT _ _ _ _ _ hkt (hxs k y hk))
    have : k * sz + j < xs.length := by
      rw [hxl]
      have : (k + 1) * sz ≤ l.length * sz := Nat.mul_le_mul_right _ hlt
      rw [Nat.add_mul, Nat.one_mul] at this
      omega
    rw [List.getElem?_toArray, List.getElem?_toArray, List.getElem?_append_left this]
  · rw [List.getElem?_append_right (by omega)] at hk
    refine ok.loc _ _ _ _ _ _ (fun j hj => ?_) (ok.keepT _ _ _ _ _ hkt (hE _ y hk))
    have e : (k - l.length) * sz + l.length * sz = k * sz := by rw [← Nat.add_mul]; congr 1; omega
    rw [List.getElem?_toArray, List.getElem?_append_right (by omega), Array.getElem?_toList]
    congr 1
    omega
theorem wp_ap1W {W : World} {T t sz B : Nat} {E : World → Array Value → Nat → α → Prop} (hgd : o.guard = none) (s x : Operand)
    (ho : o.op = .call { callee := .builtin .append, args := #[s, x], argTypes := #[T, T] })
    (el : Elem P T t sz) (ok : ElOk t sz E) (hB : B ≤ W.heap.size) (v : Value) (l ys : List α) (hs : a.eval s = v) (hown : OwnS B t sz E W v l)
    (m c : Nat) (hm : ys.length = m) (hm0 : 0 < m) (cs : Array Value) (g : Nat) (hx : a.eval x = .slice (some ⟨g, 0, none⟩) m c) (hg : g = W.heap.size) (hcs : cs.size = m * sz) (hone : ∀ u ∈ cs.toList, u.oneCell' = true)
    (hE : ∀ k y, ys[k]? = some y → E W cs (k * sz) y) (hl : l.length + ys.length ≤ lim)
    (h : ∀ v' w', OwnS B t sz E w' v' (l ++ ys) → (W.alloc (.cells cs t)).grownBy w' v.ownBlock → KeepsT t W w' → (v'.ownBlock = v.ownBlock ∨ v'.ownBlock = some (W.heap.size + 1)) → wpList P ops Q rest (a.put o.dst v') w') :
    wpList P ops Q (o :: rest) a (W.alloc (.cells cs t)) := by
  subst hg
  refine wp_apW hgd s x ho el ok (by simp; omega) v l ys hs (hown.ext ok ((Ext.refl W).alloc _)) _ m c hm hm0 cs hx hcs hone (fun j u hj => ?_)
    (fun k y hk => ok.keepT _ _ _ _ _ (((Ext.refl W).alloc _).keepsT _) (hE k y hk)) hl (fun v' w' h1 h2 h3 h4 => h v' w' h1 h2 ((((Ext.refl W).alloc _).keepsT t).trans h3) (by simpa using h4))
  have : (⟨W.heap.size, 0, none⟩ : Addr).add j = ⟨W.heap.size, j, none⟩ := by
    unfold Addr.add; split
    · next h => subst h; rfl
    · simp
  rw [this, (Blk.new W t cs).cell, hj]
end
end Go.Sf
