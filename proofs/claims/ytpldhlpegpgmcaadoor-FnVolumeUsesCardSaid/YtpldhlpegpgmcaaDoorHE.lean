/- Maps: what stands at a key, as a value. -/
import Derived.Test.YtpldhlpegpgmcaaDoorGA
import Derived.Maps.OwnSet
import Derived.Maps.OwnOps
import Derived.Sort.KeysCollected
import Derived.Conc.MuLone
import Derived.LaidEql
import Derived.Stop.Asserts
import Derived.RowKitTokens
/-! Maps: what stands at a key, as a value. -/
namespace Go.Sf
open Go Go.RowKit Go.Maps Go.WideShapes
/-- every element is told as it is -/
def rV (v : Value) : Option (DataW Value × List MemPlace) := some (.held v, [])
def MapD (D : DataW Value) (M : Lit → Option Value) : Prop := ∀ kl, WideAt.IsKeyLit kl → Maps.has D kl = (M kl).isSome ∧ ∀ v, M kl = some v → ∀ z, D.atKey kl z = .held v
/-- block b is a map of at most n entries; at the key kl stands M kl -/
def MapV (P : Program) (k : TypeId) (b n : Nat) (M : Lit → Option Value) (w : World) : Prop := ∃ D : DataW Value, w.ownsMap P k rV b n D ∧ MapD D M
noncomputable def updM (M : Lit → Option Value) (kl : Lit) (o : Option Value) : Lit → Option Value := open Classical in fun k => if k = kl then o else M k
theorem updM_same (M : Lit → Option Value) (kl : Lit) (o : Option Value) : updM M kl o kl = o := if_pos rfl
theorem updM_other {M : Lit → Option Value} {kl k : Lit} {o : Option Value} (h : k ≠ kl) : updM M kl o k = M k := if_neg h
section
variable {P : Program} {k : TypeId} {b n : Nat} {M : Lit → Option Value} {w w' : World}
theorem MapV.lt (h : MapV P k b n M w) : b < w.heap.size := let ⟨_, h1, _⟩ := h; h1.lt
theorem MapV.mono (h : MapV P k b n M w) {n' : Nat} (hn : n ≤ n') : MapV P k b n' M w := let ⟨D, h1, h2⟩ := h; ⟨D, h1.mono hn, h2⟩
theorem MapV.block (h : MapV P k b n M w) (hb : w'.heap[b]? = w.heap[b]?) : MapV P k b n M w' := by
  obtain ⟨D, ⟨es, cl, h1, h2⟩, h3⟩ := h
  exact ⟨D, ⟨es, cl, hb.trans h1, h2⟩, h3⟩
theorem MapV.ext (h : MapV P k b n M w) (e : Ext w w') : MapV P k b n M w' := h.block (e.block h.lt)
theorem MapV.made (w : World) : MapV P k w.heap.size 0 (fun _ => none) (w.alloc (.map #[] 0)) :=
  ⟨_, World.ownsMap_made w P k rV, fun kl _ => ⟨rfl, fun v h => by cases h⟩⟩
theorem MapD.put {D : DataW Value} (h : MapD D M) (hD : IsMap D) {kl : Lit} (hk : WideAt.IsKeyLit kl) (v : Value) : MapD (D.put kl (.held v)) (updM M kl (some v)) := by
  intro k' hk'
  by_cases e : k' = kl
  · subst e
    rw [updM_same]
    exact ⟨has_put_same hD hk _, fun u hu z => by cases hu; exact atKey_put_same hD hk _ z⟩
  · rw [updM_other e]
    obtain ⟨h1, h2⟩ := h k' hk'
    exact ⟨(has_put_other e _).trans h1, fun u hu z => (atKey_put_other e _ z).trans (h2 u hu z)⟩
end
/-! ### at the operations -/
section
variable {P : Program} {k e t : TypeId} {b n : Nat} {M : Lit → Option Value} {w w0 : World} {ops : Array Oper} {rest : List Oper} {o : Oper} {a : Act} {Q : Exit → Act → World → Prop}
theorem look_at {D : DataW Value} (hD : MapD D M) {kl : Lit} (hk : WideAt.IsKeyLit kl) {v z : Value} {ps : List MemPlace} (h : rV v = some (D.atKey kl (.held z), ps)) : v = (M kl).getD z := by
  obtain ⟨h1, h2⟩ := hD kl hk
  simp only [rV, Option.some.injEq, Prod.mk.injEq] at h
  cases hm : M kl with
  | none =>
    rw [hm] at h1
    rw [atKey_of_not_has (by simpa using h1)] at h
    cases h.1; rfl
  | some u =>
    rw [h2 u hm] at h
    cases h.1; rfl
/-- m[k] -/
theorem wp_mlook (hg : o.guard = none) (m x : Operand) (hop : o.op = Op.lookup t m x false) (K : Keyed P k) (ht : P.underlying t = some (.map k e)) {z : Value} (hz : (zeroValue e).run P w = .ok z w)
    (hm : a.eval m = .map (some b)) (hown : MapV P k b n M w) (key : Value) (kl : Lit) (hx : a.eval x = key) (hkey : keyOf P k key = some kl)
    {r : Option Value} (hr : M kl = r) (hK : wpList P ops Q rest (a.put o.dst (r.getD z)) w) : wpList P ops Q (o :: rest) a w := by
  refine wpList_plain hg fun K' hK' => ?_
  obtain ⟨D, h1, h2⟩ := hown
  obtain ⟨v, ps, hrun, hv⟩ := h1.lookup K ht hz (zd := .held z) (zp := []) rfl hkey
  have := look_at h2 (K.key hkey) hv
  rw [hr] at this
  subst this
  unfold Oper.wp
  simp [execOp, hop, hm, hx, hrun, Result.andThen]
  exact hK' _ _ hK
/-- v, ok := m[k] -/
theorem wp_mlook_ok (hg : o.guard = none) (m x : Operand) (hop : o.op = Op.lookup t m x true) (K : Keyed P k) (ht : P.underlying t = some (.map k e)) {z : Value} (hz : (zeroValue e).run P w = .ok z w)
    (hm : a.eval m = .map (some b)) (hown : MapV P k b n M w) (key : Value) (kl : Lit) (hx : a.eval x = key) (hkey : keyOf P k key = some kl)
    {r : Option Value} (hr : M kl = r) (hK : wpList P ops Q rest (a.put o.dst (.tuple #[r.getD z, .bool r.isSome])) w) : wpList P ops Q (o :: rest) a w := by
  obtain ⟨D, h1, h2⟩ := hown
  refine wpList_lookup_own_ok w hg m x t hop k e K ht rV hz (.held z) [] rfl b n D hm h1 key kl hx hkey fun v ps hv => ?_
  have := look_at h2 (K.key hkey) hv
  rw [hr] at this
  subst this
  rw [(h2 kl (K.key hkey)).1, hr]
  exact hK
theorem wp_mlook_ok_none (hg : o.guard = none) (m x : Operand) (hop : o.op = Op.lookup t m x true) (K : Keyed P k) (ht : P.underlying t = some (.map k e)) {z : Value} (hz : (zeroValue e).run P w = .ok z w)
    (hm : a.eval m = .map (some b)) (hown : MapV P k b n M w) (key : Value) (kl : Lit) (hx : a.eval x = key) (hkey : keyOf P k key = some kl)
    (hr : M kl = none) (hK : wpList P ops Q rest (a.put o.dst (.tuple #[z, .bool false])) w) : wpList P ops Q (o :: rest) a w := wp_mlook_ok hg m x hop K ht hz hm hown key kl hx hkey hr hK
theorem wp_mlook_ok_some (hg : o.guard = none) (m x : Operand) (hop : o.op = Op.lookup t m x true) (K : Keyed P k) (ht : P.underlying t = some (.map k e)) {z v : Value} (hz : (zeroValue e).run P w = .ok z w)
    (hm : a.eval m = .map (some b)) (hown : MapV P k b n M w) (key : Value) (kl : Lit) (hx : a.eval x = key) (hkey : keyOf P k key = some kl)
    (hr : M kl = some v) (hK : wpList P ops Q rest (a.put o.dst (.tuple #[v, .bool true])) w) : wpList P ops Q (o :: rest) a w := wp_mlook_ok hg m x hop K ht hz hm hown key kl hx hkey hr hK
/-- m[k] = v -/
theorem wp_mput (hg : o.guard = none) (m x v : Operand) (hop : o.op = Op.mapUpdate t m x v) (K : Keyed P k) (ht : P.underlying t = some (.map k e)) (h0 : Ext w0 w) (hb : w0.heap.size ≤ b)
    (hm : a.eval m = .map (some b)) (hown : MapV P k b n M w) (hn : n < maxLen) (key val : Value) (kl : Lit) (hx : a.eval x = key) (hv : a.eval v = val) (hkey : keyOf P k key = some kl)
    (hK : ∀ w', MapV P k b (n + 1) (updM M kl (some val)) w' → Ext w0 w' → w.grownBy w' (some b) → wpList P ops Q rest (a.put o.dst undef) w') : wpList P ops Q (o :: rest) a w := by
  obtain ⟨D, h1, h2⟩ := hown
  refine wpList_mapUpdate_own w hg m x v t hop k e K ht rV b n D hm h1 hn key val kl hx hv hkey (.held val) [] rfl fun w' hw' hg' => ?_
  exact hK w' ⟨_, hw', h2.put h1.isMap (K.key hkey) val⟩ (Below.grown h0 hg' h0.size fun j hj => by cases hj; exact hb) hg'
end
end Go.Sf

/-! Appends that tell in which block the row lies then. -/
namespace Go.Sf
open Go Go.RowKit
/-- behind an append the row lies where it lay, or in a block that came just then -/
theorem own_block {P : Program} {w w' : World} {t ty e : TypeId} {i : TypeInfo} {z : Value} (ht : P.underlying t = some (.slice e)) (hi : P.info? e = some i) (hz : i.zero = some z)
    {base n : Nat} {v v' : Value} {xs : List Value} (hown : w.ownsRow base e i.size v n xs) (a : Addr) (m c : Nat) (news : List Value) (hl : news.length = m * i.size) (hnews : ∀ j u, news[j]? = some u → w.cell? (a.add j) = some u) (h1 : ∀ u ∈ news, u.oneCell' = true)
    (h63 : n + m ≤ maxLen) (hb : (n + m) * i.bytes ≤ 140737488355328) (hm : 0 < m) (hr : (Builtin.append_ #[t, t] ty #[v, .slice (some a) m c]).run P w = .ok v' w') : v'.ownBlock = v.ownBlock ∨ v'.ownBlock = some w.heap.size := by
  have h63' : n + m ≤ 9223372036854775807 := by unfold maxLen at h63; omega
  rcases hown.2 with ⟨rfl, rfl⟩ | ⟨g, cap, cur, rfl, -, hg, hnc, hcm, hcs, htake⟩
  · have h := run_append_nil (P := P) w t ty e i z ht hi hz a m c news hl hnews hm (by omega) (by rw [Nat.zero_add] at hb; omega)
    rw [hr] at h
    injection h with h _
    exact .inr (by rw [h]; rfl)
  · by_cases hroom : n + m ≤ cap
    · have h := run_append_room (P := P) w t ty e i ht hi g n cap cur hg a m c news hl hnews h1 hroom (by rw [hl, hcs, ← Nat.add_mul]; exact Nat.mul_le_mul_right _ hroom)
      rw [hr] at h
      injection h with h _
      exact .inl (by rw [h]; rfl)
    · have h := run_append_grow (P := P) w t ty e i z ht hi hz ⟨g, 0, none⟩ n cap xs hown.1 (hown.cells (g := g) rfl) a m c news hl hnews (by omega) (by omega) (growslice_fits (by omega) hb)
      rw [hr] at h
      injection h with h _
      exact .inr (by rw [h]; rfl)
section
variable {P : Program} {α : Type} {ops : Array Oper} {rest : List Oper} {o : Oper} {a : Act} {Q : Exit → Act → World → Prop}
theorem wp_apW {W : World} {T t sz B : Nat} {E : World → Array Value → Nat → α → Prop} (hgd : o.guard = none) (s x : Operand)
    (ho : o.op = .call { callee := .builtin .append, args := #[s, x], argTypes := #[T, T] })
    (el : Elem P T t sz) (ok : ElOk t sz E) (hB : B ≤ W.heap.size) (v : Value) (l ys : List α) (hs : a.eval s = v) (hown : OwnS B t sz E W v l)
    (ad : Addr) (m c : Nat) (hm : ys.length = m) (hm0 : 0 < m) (cs : Array Value) (hx : a.eval x = .slice (some ad) m c) (hcs : cs.size = m * sz) (hone : ∀ u ∈ cs.toList, u.oneCell' = true)
    (hc : ∀ j u, cs[j]? = some u → W.cell? (ad.add j) = some u) (hE : ∀ k y, ys[k]? = some y → E W cs (k * sz) y) (hl : l.length + ys.length ≤ lim)
    (h : ∀ v' w', OwnS B t sz E w' v' (l ++ ys) → W.grownBy w' v.ownBlock → KeepsT t W w' → (v'.ownBlock = v.ownBlock ∨ v'.ownBlock = some W.heap.size) → wpList P ops Q rest (a.put o.dst v') w') : wpList P ops Q (o :: rest) a W := by
  obtain ⟨i, z, by_, hi, hz, hsz, hby, hb128, hzs⟩ := el.info
  obtain ⟨xs, hrow, hxs⟩ := hown
  subst hm
  have hlim : (l.length + ys.length) * by_ ≤ 140737488355328 := by
    unfold lim at hl
    have : (l.length + ys.length) * by_ ≤ 4194304 * 128 := Nat.mul_le_mul hl hb128
    omega
  have h63 : l.length + ys.length ≤ maxLen := by unfold lim at hl; unfold maxLen; omega
  have hnews : ∀ j u, cs.toList[j]? = some u → W.cell? (ad.add j) = some u := fun j u hj => hc j u (by simpa using hj)
  obtain ⟨v', w', hr, ho', hg, -⟩ := run_append_own (P := P) W B T o.type t i z sz by_ el.under hi hz hsz hby hzs el.pos v l.length xs hrow ad ys.length c cs.toList (by simpa using hcs) hnews hone h63 hlim hB
  have hblk : v'.ownBlock = v.ownBlock ∨ v'.ownBlock = some W.heap.size := by
    subst hsz; subst hby
    exact own_block (P := P) el.under hi hz hrow ad ys.length c cs.toList (by simpa using hcs) hnews hone h63 hlim hm0 hr
  refine wpList_plain hgd fun K hK => ?_
  unfold Oper.wp
  simp only [execOp, ho, resolve, invoke, builtin, Sem.run_bind, Sem.run_pure, Result.andThen_ok, List.map_toArray, List.map_cons, List.map_nil, hs, hx, hr]
  refine hK _ _ (h v' w' ⟨xs ++ cs.toList, by simpa using ho', ?_⟩ hg (grown_keepsT hrow hg) hblk)
  intro k y hk
  have hxl : xs.length = l.length * sz := hrow.1
  have hkt := grown_keepsT hrow hg
  by_cases hlt : k < l.length
  · rw [List.getElem?_append_left hlt] at hk
    refine ok.loc _ _ _ _ _ _ (fun j hj => ?_) (ok.keepT _ _ _ _ _ hkt (hxs k y hk))
    have : k * sz + j < xs.length := by
      rw [hxl]
      have : (k + 1) * sz ≤ l.length * sz := Nat.mul_le_mul_right _ hlt
      rw [Nat.add_mul, Nat.one_mul] at this
      omega
    rw [List.getElem?_toArray, List.getElem?_toArray, List.getElem?_append_left this]
  · rw [List.getElem?_append_right (by omega)] at hk
    refine ok.loc _ _ _ _ _ _ (fun j hj => ?_) (ok.keepT _ _ _ _ _ hkt (hE _ y hk))
    have e : (k - l.length) * sz + l.length * sz = k * sz := by rw [← Nat.add_mul]; congr 1; omega
    rw [List.getElem?_toArray, List.getElem?_append_right (by omega), Array.getElem?_toList]
    congr 1
    omega
theorem wp_ap1W {W : World} {T t sz B : Nat} {E : World → Array Value → Nat → α → Prop} (hgd : o.guard = none) (s x : Operand)
    (ho : o.op = .call { callee := .builtin .append, args := #[s, x], argTypes := #[T, T] })
    (el : Elem P T t sz) (ok : ElOk t sz E) (hB : B ≤ W.heap.size) (v : Value) (l ys : List α) (hs : a.eval s = v) (hown : OwnS B t sz E W v l)
    (m c : Nat) (hm : ys.length = m) (hm0 : 0 < m) (cs : Array Value) (g : Nat) (hx : a.eval x = .slice (some ⟨g, 0, none⟩) m c) (hg : g = W.heap.size) (hcs : cs.size = m * sz) (hone : ∀ u ∈ cs.toList, u.oneCell' = true)
    (hE : ∀ k y, ys[k]? = some y → E W cs (k * sz) y) (hl : l.length + ys.length ≤ lim)
    (h : ∀ v' w', OwnS B t sz E w' v' (l ++ ys) → (W.alloc (.cells cs t)).grownBy w' v.ownBlock → KeepsT t W w' → (v'.ownBlock = v.ownBlock ∨ v'.ownBlock = some (W.heap.size + 1)) → wpList P ops Q rest (a.put o.dst v') w') :
    wpList P ops Q (o :: rest) a (W.alloc (.cells cs t)) := by
  subst hg
  refine wp_apW hgd s x ho el ok (by simp; omega) v l ys hs (hown.ext ok ((Ext.refl W).alloc _)) _ m c hm hm0 cs hx hcs hone (fun j u hj => ?_)
    (fun k y hk => ok.keepT _ _ _ _ _ (((Ext.refl W).alloc _).keepsT _) (hE k y hk)) hl (fun v' w' h1 h2 h3 h4 => h v' w' h1 h2 ((((Ext.refl W).alloc _).keepsT t).trans h3) (by simpa using h4))
  have : (⟨W.heap.size, 0, none⟩ : Addr).add j = ⟨W.heap.size, j, none⟩ := by
    unfold Addr.add; split
    · next h => subst h; rfl
    · simp
  rw [this, (Blk.new W t cs).cell, hj]
end
end Go.Sf

/-! Regions that draw their order: what only reads is taken first, then every order of the rest is walked. -/
namespace Go.Sf
open Go
section
variable {P : Program} {ops : Array Oper} {Q : Exit → Act → World → Prop} {md : Region.Mode} {S : World → Prop}
def listAll (listed : Array Bool) (ks : List Nat) : Array Bool := ks.foldl (fun l k => l.setIfInBounds k true) listed
def wpReads (P : Program) (ops : Array Oper) (T : Act → World → Prop) (S : World → Prop) : List Nat → Act → World → Prop
  | [], a, w => T a w
  | k :: r, a, w => ∃ o, ops[k]? = some o ∧ ∃ v, YieldsIf P ops S o v a ∧ wpReads P ops T S r (a.put o.dst v) w
/-- every order of what is left, as a word that no tactic looks into -/
@[irreducible] def BR (P : Program) (ops : Array Oper) (Q : Exit → Act → World → Prop) (S : World → Prop) (fuel : Nat) (listed : Array Bool) (a : Act) (w : World) : Prop := wpAnyM P .any ops Q S ops.size fuel listed a w
/-- the reads ahead of it -/
@[irreducible] def RB (P : Program) (ops : Array Oper) (Q : Exit → Act → World → Prop) (S : World → Prop) (fuel : Nat) (ks rest : List Nat) (a : Act) (w : World) : Prop :=
  wpReads P ops (BR P ops Q S fuel (listAll (Array.replicate ops.size false) ks)) S rest a w
end
section
variable {P : Program} {Q : Exit → Act → World → Prop} {S : World → Prop} {a : Act} {w : World} {ol : List Oper} {ks r : List Nat} {k fuel : Nat} {o : Oper} {u : Value} {listed : Array Bool}
end
end Go.Sf

/-! The program holds the library's lock. -/
namespace Go.Sf
open Go Go.RowKit Go.Proofs Go.Conc.Locks
end Go.Sf

/-! errors.Is at one sentinel: the same, or nil. -/
namespace Go.Sf
open Go Go.RowKit Go.Proofs Go.Extern.Stop Go.Stop Go.Extern
end Go.Sf
