/- Maps: what stands at a key, as a value. -/
import Derived.Test.YtoljibhdakacjaaGreatDoorGA
import Derived.Maps.OwnSet
import Derived.Maps.OwnOps
import Derived.Sort.KeysCollected
import Derived.Conc.MuLone
import Derived.LaidEql
import Derived.Stop.Asserts
import Derived.RowKitTokens
/-! Maps: what stands at a key, as a value. -/
namespace Go.Sf
open Go Go.RowKit Go.Maps Go.WideShapes
/-- every element is told as it is -/
def rV (v : Value) : Option (DataW Value × List MemPlace) := some (.held v, [])
def MapD (D : DataW Value) (M : Lit → Option Value) : Prop := ∀ kl, WideAt.IsKeyLit kl → Maps.has D kl = (M kl).isSome ∧ ∀ v, M kl = some v → ∀ z, D.atKey kl z = .held v
/-- block b is a map of at most n entries; at the key kl stands M kl -/
def MapV (P : Program) (k : TypeId) (b n : Nat) (M : Lit → Option Value) (w : World) : Prop := ∃ D : DataW Value, w.ownsMap P k rV b n D ∧ MapD D M
noncomputable def updM (M : Lit → Option Value) (kl : Lit) (o : Option Value) : Lit → Option Value := open Classical in fun k => if k = kl then o else M k
theorem updM_same (M : Lit → Option Value) (kl : Lit) (o : Option Value) : updM M kl o kl = o := if_pos rfl
theorem updM_other {M : Lit → Option Value} {kl k : Lit} {o : Option Value} (h : k ≠ kl) : updM M kl o k = M k := if_neg h
section
variable {P : Program} {k : TypeId} {b n : Nat} {M : Lit → Option Value} {w w' : World}
theorem MapV.lt (h : MapV P k b n M w) : b < w.heap.size := let ⟨_, h1, _⟩ := h; h1.lt
theorem MapV.mono (h : MapV P k b n M w) {n' : Nat} (hn : n ≤ n') : MapV P k b n' M w := let ⟨D, h1, h2⟩ := h; ⟨D, h1.mono hn, h2⟩
theorem MapV.block (h : MapV P k b n M w) (hb : w'.heap[b]? = w.heap[b]?) : MapV P k b n M w' := by
  obtain ⟨D, ⟨es, cl, h1, h2⟩, h3⟩ := h
  exact ⟨D, ⟨es, cl, hb.trans h1, h2⟩, h3⟩
theorem MapV.ext (h : MapV P k b n M w) (e : Ext w w') : MapV P k b n M w' := h.block (e.block h.lt)
theorem MapV.made (w : World) : MapV P k w.heap.size 0 (fun _ => none) (w.alloc (.map #[] 0)) :=
  ⟨_, World.ownsMap_made w P k rV, fun kl _ => ⟨rfl, fun v h => by cases h⟩⟩
theorem MapD.put {D : DataW Value} (h : MapD D M) (hD : IsMap D) {kl : Lit} (hk : WideAt.IsKeyLit kl) (v : Value) : MapD (D.put kl (.held v)) (updM M kl (some v)) := by
  intro k' hk'
  by_cases e : k' = kl
  · subst e
    rw [updM_same]
    exact ⟨has_put_same hD hk _, fun u hu z => by cases hu; exact atKey_put_same hD hk _ z⟩
  · rw [updM_other e]
    obtain ⟨h1, h2⟩ := h k' hk'
    exact ⟨(has_put_other e _).trans h1, fun u hu z => (atKey_put_other e _ z).trans (h2 u hu z)⟩
theorem MapD.del {D : DataW Value} (h : MapD D M) {kl : Lit} : MapD (D.del kl) (updM M kl none) := by
  intro k' hk'
  by_cases e : k' = kl
  · subst e
    rw [updM_same]
    exact ⟨has_del_same, fun u hu => by cases hu⟩
  · rw [updM_other e]
    obtain ⟨h1, h2⟩ := h k' hk'
    exact ⟨(has_del_other e).trans h1, fun u hu z => (atKey_del_other e z).trans (h2 u hu z)⟩
end
/-! ### at the operations -/
section
variable {P : Program} {k e t : TypeId} {b n : Nat} {M : Lit → Option Value} {w w0 : World} {ops : Array Oper} {rest : List Oper} {o : Oper} {a : Act} {Q : Exit → Act → World → Prop}
theorem look_at {D : DataW Value} (hD : MapD D M) {kl : Lit} (hk : WideAt.IsKeyLit kl) {v z : Value} {ps : List MemPlace} (h : rV v = some (D.atKey kl (.held z), ps)) : v = (M kl).getD z := by
  obtain ⟨h1, h2⟩ := hD kl hk
  simp only [rV, Option.some.injEq, Prod.mk.injEq] at h
  cases hm : M kl with
  | none =>
    rw [hm] at h1
    rw [atKey_of_not_has (by simpa using h1)] at h
    cases h.1; rfl
  | some u =>
    rw [h2 u hm] at h
    cases h.1; rfl
/-- m[k] -/
theorem wp_mlook (hg : o.guard = none) (m x : Operand) (hop : o.op = Op.lookup t m x false) (K : Keyed P k) (ht : P.underlying t = some (.map k e)) {z : Value} (hz : (zeroValue e).run P w = .ok z w)
    (hm : a.eval m = .map (some b)) (hown : MapV P k b n M w) (key : Value) (kl : Lit) (hx : a.eval x = key) (hkey : keyOf P k key = some kl)
    {r : Option Value} (hr : M kl = r) (hK : wpList P ops Q rest (a.put o.dst (r.getD z)) w) : wpList P ops Q (o :: rest) a w := by
  refine wpList_plain hg fun K' hK' => ?_
  obtain ⟨D, h1, h2⟩ := hown
  obtain ⟨v, ps, hrun, hv⟩ := h1.lookup K ht hz (zd := .held z) (zp := []) rfl hkey
  have := look_at h2 (K.key hkey) hv
  rw [hr] at this
  subst this
  unfold Oper.wp
  simp [execOp, hop, hm, hx, hrun, Result.andThen]
  exact hK' _ _ hK
/-- v, ok := m[k] -/
theorem wp_mlook_ok (hg : o.guard = none) (m x : Operand) (hop : o.op = Op.lookup t m x true) (K : Keyed P k) (ht : P.underlying t = some (.map k e)) {z : Value} (hz : (zeroValue e).run P w = .ok z w)
    (hm : a.eval m = .map (some b)) (hown : MapV P k b n M w) (key : Value) (kl : Lit) (hx : a.eval x = key) (hkey : keyOf P k key = some kl)
    {r : Option Value} (hr : M kl = r) (hK : wpList P ops Q rest (a.put o.dst (.tuple #[r.getD z, .bool r.isSome])) w) : wpList P ops Q (o :: rest) a w := by
  obtain ⟨D, h1, h2⟩ := hown
  refine wpList_lookup_own_ok w hg m x t hop k e K ht rV hz (.held z) [] rfl b n D hm h1 key kl hx hkey fun v ps hv => ?_
  have := look_at h2 (K.key hkey) hv
  rw [hr] at this
  subst this
  rw [(h2 kl (K.key hkey)).1, hr]
  exact hK
theorem wp_mlook_none (hg : o.guard = none) (m x : Operand) (hop : o.op = Op.lookup t m x false) (K : Keyed P k) (ht : P.underlying t = some (.map k e)) {z : Value} (hz : (zeroValue e).run P w = .ok z w)
    (hm : a.eval m = .map (some b)) (hown : MapV P k b n M w) (key : Value) (kl : Lit) (hx : a.eval x = key) (hkey : keyOf P k key = some kl)
    (hr : M kl = none) (hK : wpList P ops Q rest (a.put o.dst z) w) : wpList P ops Q (o :: rest) a w := wp_mlook hg m x hop K ht hz hm hown key kl hx hkey hr hK
theorem wp_mlook_some (hg : o.guard = none) (m x : Operand) (hop : o.op = Op.lookup t m x false) (K : Keyed P k) (ht : P.underlying t = some (.map k e)) {z v : Value} (hz : (zeroValue e).run P w = .ok z w)
    (hm : a.eval m = .map (some b)) (hown : MapV P k b n M w) (key : Value) (kl : Lit) (hx : a.eval x = key) (hkey : keyOf P k key = some kl)
    (hr : M kl = some v) (hK : wpList P ops Q rest (a.put o.dst v) w) : wpList P ops Q (o :: rest) a w := wp_mlook hg m x hop K ht hz hm hown key kl hx hkey hr hK
theorem wp_mlook_ok_none (hg : o.guard = none) (m x : Operand) (hop : o.op = Op.lookup t m x true) (K : Keyed P k) (ht : P.underlying t = some (.map k e)) {z : Value} (hz : (zeroValue e).run P w = .ok z w)
    (hm : a.eval m = .map (some b)) (hown : MapV P k b n M w) (key : Value) (kl : Lit) (hx : a.eval x = key) (hkey : keyOf P k key = some kl)
    (hr : M kl = none) (hK : wpList P ops Q rest (a.put o.dst (.tuple #[z, .bool false])) w) : wpList P ops Q (o :: rest) a w := wp_mlook_ok hg m x hop K ht hz hm hown key kl hx hkey hr hK
theorem wp_mlook_ok_some (hg : o.guard = none) (m x : Operand) (hop : o.op = Op.lookup t m x true) (K : Keyed P k) (ht : P.underlying t = some (.map k e)) {z v : Value} (hz : (zeroValue e).run P w = .ok z w)
    (hm : a.eval m = .map (some b)) (hown : MapV P k b n M w) (key : Value) (kl : Lit) (hx : a.eval x = key) (hkey : keyOf P k key = some kl)
    (hr : M kl = some v) (hK : wpList P ops Q rest (a.put o.dst (.tuple #[v, .bool true])) w) : wpList P ops Q (o :: rest) a w := wp_mlook_ok hg m x hop K ht hz hm hown key kl hx hkey hr hK
/-- m[k] = v -/
theorem wp_mput (hg : o.guard = none) (m x v : Operand) (hop : o.op = Op.mapUpdate t m x v) (K : Keyed P k) (ht : P.underlying t = some (.map k e)) (h0 : Ext w0 w) (hb : w0.heap.size ≤ b)
    (hm : a.eval m = .map (some b)) (hown : MapV P k b n M w) (hn : n < maxLen) (key val : Value) (kl : Lit) (hx : a.eval x = key) (hv : a.eval v = val) (hkey : keyOf P k key = some kl)
    (hK : ∀ w', MapV P k b (n + 1) (updM M kl (some val)) w' → Ext w0 w' → w.grownBy w' (some b) → wpList P ops Q rest (a.put o.dst undef) w') : wpList P ops Q (o :: rest) a w := by
  obtain ⟨D, h1, h2⟩ := hown
  refine wpList_mapUpdate_own w hg m x v t hop k e K ht rV b n D hm h1 hn key val kl hx hv hkey (.held val) [] rfl fun w' hw' hg' => ?_
  exact hK w' ⟨_, hw', h2.put h1.isMap (K.key hkey) val⟩ (Below.grown h0 hg' h0.size fun j hj => by cases hj; exact hb) hg'
/-- delete(m, k) -/
theorem wp_mdel (hg : o.guard = none) (m x : Operand) (hop : o.op = Op.call { callee := Callee.builtin Builtin.delete, args := #[m, x], argTypes := #[t, k] }) (K : Keyed P k) (ht : P.underlying t = some (.map k e)) (h0 : Ext w0 w) (hb : w0.heap.size ≤ b)
    (hm : a.eval m = .map (some b)) (hown : MapV P k b n M w) (key : Value) (kl : Lit) (hx : a.eval x = key) (hkey : keyOf P k key = some kl)
    (hK : ∀ w', MapV P k b n (updM M kl none) w' → Ext w0 w' → w.grownBy w' (some b) → wpList P ops Q rest (a.put o.dst (.tuple #[])) w') : wpList P ops Q (o :: rest) a w := by
  obtain ⟨D, h1, h2⟩ := hown
  refine wpList_delete_own w hg m x t k hop e K ht rV b n D hm h1 key kl hx hkey fun w' hw' hg' => ?_
  exact hK w' ⟨_, hw', h2.del⟩ (Below.grown h0 hg'.grown h0.size fun j hj => by cases hj; exact hb) hg'.grown
end
end Go.Sf

/-! Appends that tell in which block the row lies then. -/
namespace Go.Sf
open Go Go.RowKit
/-- behind an append the row lies where it lay, or in a block that came just then -/
theorem own_block {P : Program} {w w' : World} {t ty e : TypeId} {i : TypeInfo} {z : Value} (ht : P.underlying t = some (.slice e)) (hi : P.info? e = some i) (hz : i.zero = some z)
    {base n : Nat} {v v' : Value} {xs : List Value} (hown : w.ownsRow base e i.size v n xs) (a : Addr) (m c : Nat) (news : List Value) (hl : news.length = m * i.size) (hnews : ∀ j u, news[j]? = some u → w.cell? (a.add j) = some u) (h1 : ∀ u ∈ news, u.oneCell' = true)
    (h63 : n + m ≤ maxLen) (hb : (n + m) * i.bytes ≤ 140737488355328) (hm : 0 < m) (hr : (Builtin.append_ #[t, t] ty #[v, .slice (some a) m c]).run P w = .ok v' w') : v'.ownBlock = v.ownBlock ∨ v'.ownBlock = some w.heap.size := by
  have h63' : n + m ≤ 9223372036854775807 := by unfold maxLen at h63; omega
  rcases hown.2 with ⟨rfl, rfl⟩ | ⟨g, cap, cur, rfl, -, hg, hnc, hcm, hcs, htake⟩
  · have h := run_append_nil (P := P) w t ty e i z ht hi hz a m c news hl hnews hm (by omega) (by rw [Nat.zero_add] at hb; omega)
    rw [hr] at h
    injection h with h _
    exact .inr (by rw [h]; rfl)
  · by_cases hroom : n + m ≤ cap
    · have h := run_append_room (P := P) w t ty e i ht hi g n cap cur hg a m c news hl hnews h1 hroom (by rw [hl, hcs, ← Nat.add_mul]; exact Nat.mul_le_mul_right _ hroom)
      rw [hr] at h
      injection h with h _
      exact .inl (by rw [h]; rfl)
    · have h := run_append_grow (P := P) w t ty e i z ht hi hz ⟨g, 0, none⟩ n cap xs hown.1 (hown.cells (g := g) rfl) a m c news hl hnews (by omega) (by omega) (growslice_fits (by omega) hb)
      rw [hr] at h
      injection h with h _
      exact .inr (by rw [h]; rfl)
section
variable {P : Program} {α : Type} {ops : Array Oper} {rest : List Oper} {o : Oper} {a : Act} {Q : Exit → Act → World → Prop}
theorem wp_apW {W : World} {T t sz B : Nat} {E : World → Array Value → Nat → α → Prop} (hgd : o.guard = none) (s x : Operand)
    (ho : o.op = .call { callee := .builtin .append, args := #[s, x], argTypes := #[T, T] })
    (el : Elem P T t sz) (ok : ElOk t sz E) (hB : B ≤ W.heap.size) (v : Value) (l ys : List α) (hs : a.eval s = v) (hown : OwnS B t sz E W v l)
    (ad : Addr) (m c : Nat) (hm : ys.length = m) (hm0 : 0 < m) (cs : Array Value) (hx : a.eval x = .slice (some ad) m c) (hcs : cs.size = m * sz) (hone : ∀ u ∈ cs.toList, u.oneCell' = true)
    (hc : ∀ j u, cs[j]? = some u → W.cell? (ad.add j) = some u) (hE : ∀ k y, ys[k]? = some y → E W cs (k * sz) y) (hl : l.length + ys.length ≤ lim)
    (h : ∀ v' w', OwnS B t sz E w' v' (l ++ ys) → W.grownBy w' v.ownBlock → KeepsT t W w' → (v'.ownBlock = v.ownBlock ∨ v'.ownBlock = some W.heap.size) → wpList P ops Q rest (a.put o.dst v') w') : wpList P ops Q (o :: rest) a W := by
  obtain ⟨i, z, by_, hi, hz, hsz, hby, hb128, hzs⟩ := el.info
  obtain ⟨xs, hrow, hxs⟩ := hown
  subst hm
  have hlim : (l.length + ys.length) * by_ ≤ 140737488355328 := by
    unfold lim at hl
    have : (l.length + ys.length) * by_ ≤ 4194304 * 128 := Nat.mul_le_mul hl hb128
    omega
  have h63 : l.length + ys.length ≤ maxLen := by unfold lim at hl; unfold maxLen; omega
  have hnews : ∀ j u, cs.toList[j]? = some u → W.cell? (ad.add j) = some u := fun j u hj => hc j u (by simpa using hj)
  obtain ⟨v', w', hr, ho', hg, -⟩ := run_append_own (P := P) W B T o.type t i z sz by_ el.under hi hz hsz hby hzs el.pos v l.length xs hrow ad ys.length c cs.toList (by simpa using hcs) hnews hone h63 hlim hB
  have hblk : v'.ownBlock = v.ownBlock ∨ v'.ownBlock = some W.heap.size := by
    subst hsz; subst hby
    exact own_block (P := P) el.under hi hz hrow ad ys.length c cs.toList (by simpa using hcs) hnews hone h63 hlim hm0 hr
  refine wpList_plain hgd fun K hK => ?_
  unfold Oper.wp
  simp only [execOp, ho, resolve, invoke, builtin, Sem.run_bind, Sem.run_pure, Result.andThen_ok, List.map_toArray, List.map_cons, List.map_nil, hs, hx, hr]
  refine hK _ _ (h v' w' ⟨xs ++ cs.toList, by simpa using ho', ?_⟩ hg (grown_keepsT hrow hg) hblk)
  intro k y hk
  have hxl : xs.length = l.length * sz := hrow.1
  have hkt := grown_keepsT hrow hg
  by_cases hlt : k < l.length
  · rw [List.getElem?_append_left hlt] at hk
    refine ok.loc _ _ _ _ _ _ (fun j hj => ?_) (ok.keepT _ _ _ _ _ hkt (hxs k y hk))
    have : k * sz + j < xs.length := by
      rw [hxl]
      have : (k + 1) * sz ≤ l.length * sz := Nat.mul_le_mul_right _ hlt
      rw [Nat.add_mul, Nat.one_mul] at this
      omega
    rw [List.getElem?_toArray, List.getElem?_toArray, List.getElem?_append_left this]
  · rw [List.getElem?_append_right (by omega)] at hk
    refine ok.loc _ _ _ _ _ _ (fun j hj => ?_) (ok.keepT _ _ _ _ _ hkt (hE _ y hk))
    have e : (k - l.length) * sz + l.length * sz = k * sz := by rw [← Nat.add_mul]; congr 1; omega
    rw [List.getElem?_toArray, List.getElem?_append_right (by omega), Array.getElem?_toList]
    congr 1
    omega
theorem wp_ap1W {W : World} {T t sz B : Nat} {E : World → Array Value → Nat → α → Prop} (hgd : o.guard = none) (s x : Operand)
    (ho : o.op = .call { callee := .builtin .append, args := #[s, x], argTypes := #[T, T] })
    (el : Elem P T t sz) (ok : ElOk t sz E) (hB : B ≤ W.heap.size) (v : Value) (l ys : List α) (hs : a.eval s = v) (hown : OwnS B t sz E W v l)
    (m c : Nat) (hm : ys.length = m) (hm0 : 0 < m) (cs : Array Value) (g : Nat) (hx : a.eval x = .slice (some ⟨g, 0, none⟩) m c) (hg : g = W.heap.size) (hcs : cs.size = m * sz) (hone : ∀ u ∈ cs.toList, u.oneCell' = true)
    (hE : ∀ k y, ys[k]? = some y → E W cs (k * sz) y) (hl : l.length + ys.length ≤ lim)
    (h : ∀ v' w', OwnS B t sz E w' v' (l ++ ys) → (W.alloc (.cells cs t)).grownBy w' v.ownBlock → KeepsT t W w' → (v'.ownBlock = v.ownBlock ∨ v'.ownBlock = some (W.heap.size + 1)) → wpList P ops Q rest (a.put o.dst v') w') :
    wpList P ops Q (o :: rest) a (W.alloc (.cells cs t)) := by
  subst hg
  refine wp_apW hgd s x ho el ok (by simp; omega) v l ys hs (hown.ext ok ((Ext.refl W).alloc _)) _ m c hm hm0 cs hx hcs hone (fun j u hj => ?_)
    (fun k y hk => ok.keepT _ _ _ _ _ (((Ext.refl W).alloc _).keepsT _) (hE k y hk)) hl (fun v' w' h1 h2 h3 h4 => h v' w' h1 h2 ((((Ext.refl W).alloc _).keepsT t).trans h3) (by simpa using h4))
  have : (⟨W.heap.size, 0, none⟩ : Addr).add j = ⟨W.heap.size, j, none⟩ := by
    unfold Addr.add; split
    · next h => subst h; rfl
    · simp
  rw [this, (Blk.new W t cs).cell, hj]
end
end Go.Sf

/-! Regions that draw their order: what only reads is taken first, then every order of the rest is walked. -/
namespace Go.Sf
open Go
section
variable {P : Program} {ops : Array Oper} {Q : Exit → Act → World → Prop} {md : Region.Mode} {S : World → Prop}
def brGo (md : Region.Mode) (ops : Array Oper) : List Nat → Array Bool → Bool
  | [], _ => true
  | k :: r, listed => decide (k < ops.size) && (Region.ready md ops listed).contains k && Region.free md ops listed k && brGo md ops r (listed.setIfInBounds k true)
def listAll (listed : Array Bool) (ks : List Nat) : Array Bool := ks.foldl (fun l k => l.setIfInBounds k true) listed
def wpReads (P : Program) (ops : Array Oper) (T : Act → World → Prop) (S : World → Prop) : List Nat → Act → World → Prop
  | [], a, w => T a w
  | k :: r, a, w => ∃ o, ops[k]? = some o ∧ ∃ v, YieldsIf P ops S o v a ∧ wpReads P ops T S r (a.put o.dst v) w
theorem br_M (hsel : Region.noSelect ops = true) (hQ : ∀ c a d v w, Q (.panic c) (Act.put a d v) w → Q (.panic c) a w) (fuel : Nat) :
    ∀ (ks : List Nat) (listed : Array Bool) (a : Act) (w : World), HeadInv md ops ops.size listed → brGo md ops ks listed = true → S w →
      wpReads P ops (wpAnyM P md ops Q S ops.size fuel (listAll listed ks)) S ks a w → wpAnyM P md ops Q S ops.size (ks.length + fuel) listed a w
  | [], listed, a, w, _, _, _, h => by
    rw [List.length_nil, Nat.zero_add]; exact h
  | k :: r, listed, a, w, inv, hB, hS, h => by
    obtain ⟨o, ho, v, hy, h⟩ := h
    simp only [brGo, Bool.and_eq_true, decide_eq_true_eq] at hB
    obtain ⟨⟨⟨h1, h2⟩, h3⟩, h4⟩ := hB
    have hr : k ∈ Region.ready md ops listed := by simpa using h2
    rw [List.length_cons, show r.length + 1 + fuel = (r.length + fuel) + 1 by omega]
    exact wpAnyM_first ho (Region.noSelect_spec hsel) (fun c a w => hQ c a _ _ w) (by simp [tailB]) h1 _ listed a w inv (Region.free_spec ho h3) hr hy hS
      (br_M hsel hQ fuel r _ _ w (inv.set hr h1) h4 hS h)
/-- every order of what is left, as a word that no tactic looks into -/
@[irreducible] def BR (P : Program) (ops : Array Oper) (Q : Exit → Act → World → Prop) (S : World → Prop) (fuel : Nat) (listed : Array Bool) (a : Act) (w : World) : Prop := wpAnyM P .any ops Q S ops.size fuel listed a w
/-- the reads ahead of it -/
@[irreducible] def RB (P : Program) (ops : Array Oper) (Q : Exit → Act → World → Prop) (S : World → Prop) (fuel : Nat) (ks rest : List Nat) (a : Act) (w : World) : Prop :=
  wpReads P ops (BR P ops Q S fuel (listAll (Array.replicate ops.size false) ks)) S rest a w
end
section
variable {P : Program} {Q : Exit → Act → World → Prop} {S : World → Prop} {a : Act} {w : World} {ol : List Oper} {ks r : List Nat} {k fuel : Nat} {o : Oper} {u : Value} {listed : Array Bool}
theorem wp_region_br {id : Nat} {l : List Oper} (S : World → Prop) (ks : List Nat) (fuel : Nat) (hm : P.follows .mixedOrders = true)
    (hB : (Region.noSelect l.toArray && (brGo .any l.toArray ks (Array.replicate l.toArray.size false) && (ks.length + fuel == l.toArray.size))) = true) (hS : S w.drew)
    (h : RB P l.toArray (NoPanic Q) S fuel ks ks a w.drew) : (Code.region id l.toArray true).wp P Q a w := by
  simp only [Bool.and_eq_true, beq_iff_eq] at hB
  obtain ⟨hsel, hgo, hlen⟩ := hB
  refine wp_region_noPanic (wp_region_any hm (wpAny_of_M (S := S) (m := l.toArray.size) _ _ _ _ ?_))
  have inv0 : HeadInv .any l.toArray l.toArray.size (Array.replicate l.toArray.size false) :=
    ⟨by simp, fun j oj _ hl => (by rw [getD_replicate_false] at hl; cases hl), fun t _ ht => getD_in (by simpa using ht) (getD_replicate_false _ _)⟩
  unfold RB BR at h
  have := br_M (md := .any) (P := P) (Q := NoPanic Q) (S := S) hsel (fun _ _ _ _ _ h => h) fuel ks _ a _ inv0 hgo hS h
  rwa [hlen] at this
theorem rb_nil (h : BR P ol.toArray Q S fuel (listAll (Array.replicate ol.toArray.size false) ks) a w) : RB P ol.toArray Q S fuel ks [] a w := by unfold RB; exact h
theorem rb_read (ho : ol[k]? = some o) (hg : Region.wanted o (yielded ol.toArray a.tmps) = true) (hv : ∀ W, S W → (execOp a.eval o).run P W = .ok (.value u) W)
    (h : RB P ol.toArray Q S fuel ks r (a.put o.dst u) w) : RB P ol.toArray Q S fuel ks (k :: r) a w := by
  unfold RB at h ⊢
  exact ⟨o, get_of_list ho, u, .inl ⟨hg, hv⟩, h⟩
theorem br_nil (hr : Region.ready .any ol.toArray listed = []) (h : Q .normal a w) : BR P ol.toArray Q S fuel listed a w := by
  unfold BR
  cases fuel with
  | zero => exact ⟨hr, h⟩
  | succ f => exact ⟨fun _ => h, fun i hi => by rw [hr] at hi; cases hi⟩
theorem br_step (l : List Nat) (hr : Region.ready .any ol.toArray listed = l) (hne : l ≠ [])
    (h : ∀ i, i ∈ l → ∃ o, ol[i]? = some o ∧ wpList P ol.toArray (Exit.then (fun a' w' => S w' ∧ BR P ol.toArray Q S fuel (listed.setIfInBounds i true) a' w') Q) [o] a w) : BR P ol.toArray Q S (fuel + 1) listed a w := by
  unfold BR at h ⊢
  refine ⟨fun h0 => absurd (hr.symm.trans h0) hne, fun i hi => ?_⟩
  rw [hr] at hi
  obtain ⟨o, ho, h1⟩ := h i hi
  exact wpOp_mono (fun a' w' h' => ⟨fun _ => h'.1, h'.2⟩) (wpOp_of_one (get_of_list ho) h1)
theorem br_one (i : Nat) (hr : Region.ready .any ol.toArray listed = [i]) (ho : ol[i]? = some o)
    (h : wpList P ol.toArray (Exit.then (fun a' w' => S w' ∧ BR P ol.toArray Q S fuel (listed.setIfInBounds i true) a' w') Q) [o] a w) : BR P ol.toArray Q S (fuel + 1) listed a w :=
  br_step [i] hr (by simp) fun j hj => by
    simp only [List.mem_singleton] at hj
    subst hj
    exact ⟨o, ho, h⟩
theorem br_two (i j : Nat) {o o' : Oper} (hr : Region.ready .any ol.toArray listed = [i, j]) (ho : ol[i]? = some o) (ho' : ol[j]? = some o')
    (h : wpList P ol.toArray (Exit.then (fun a' w' => S w' ∧ BR P ol.toArray Q S fuel (listed.setIfInBounds i true) a' w') Q) [o] a w)
    (h' : wpList P ol.toArray (Exit.then (fun a' w' => S w' ∧ BR P ol.toArray Q S fuel (listed.setIfInBounds j true) a' w') Q) [o'] a w) : BR P ol.toArray Q S (fuel + 1) listed a w :=
  br_step [i, j] hr (by simp) fun q hq => by
    simp only [List.mem_cons, List.mem_nil_iff, or_false] at hq
    rcases hq with rfl | rfl
    · exact ⟨o, ho, h⟩
    · exact ⟨o', ho', h'⟩
end
end Go.Sf

/-! The program holds the library's lock. -/
namespace Go.Sf
open Go Go.RowKit Go.Proofs Go.Conc.Locks
abbrev muLink : MuLink := { lock := 93, unlock := 94, ilock := 134, iunlock := 135, lockSlow := 172, unlockSlow := 175, disable := 168, enable := 170, acquire := 171, relMerge := 173, cas32 := 169, add32 := 174, tMutex := 78, tIMutex := 76, tPMutex := 184, tPIMutex := 228, tPI32 := 230, tUP := 232, tNoCopy := 73, tU32 := 74 }
theorem muLib : MuLib Tryz.prog muLink := {
  f_lock := Tryz.func93.trans (congrArg some (by kernel_rfl))
  f_unlock := Tryz.func94.trans (congrArg some (by kernel_rfl))
  f_ilock := Tryz.func134.trans (congrArg some (by kernel_rfl))
  f_iunlock := Tryz.func135.trans (congrArg some (by kernel_rfl))
  f_disable := Tryz.func168.trans (congrArg some (by kernel_rfl))
  f_enable := Tryz.func170.trans (congrArg some (by kernel_rfl))
  f_acquire := Tryz.func171.trans (congrArg some (by kernel_rfl))
  f_relMerge := Tryz.func173.trans (congrArg some (by kernel_rfl))
  f_cas32 := Tryz.func169.trans (congrArg some (by kernel_rfl))
  f_add32 := Tryz.func174.trans (congrArg some (by kernel_rfl))
  underlying_tMutex := Tryz.underlying78
  runUnderlying_tMutex := run_underlying Tryz.underlying78
  sizeOf_tMutex := Tryz.sizeOf78
  isAgg_tMutex := Tryz.isAgg78
  zeroValue_tMutex := Tryz.zeroValue78
  underlying_tIMutex := Tryz.underlying76
  runUnderlying_tIMutex := run_underlying Tryz.underlying76
  sizeOf_tIMutex := Tryz.sizeOf76
  isAgg_tIMutex := Tryz.isAgg76
  zeroValue_tIMutex := Tryz.zeroValue76
  underlying_tPMutex := Tryz.underlying184
  runUnderlying_tPMutex := run_underlying Tryz.underlying184
  sizeOf_tPMutex := Tryz.sizeOf184
  isAgg_tPMutex := Tryz.isAgg184
  zeroValue_tPMutex := Tryz.zeroValue184
  underlying_tPIMutex := Tryz.underlying228
  runUnderlying_tPIMutex := run_underlying Tryz.underlying228
  sizeOf_tPIMutex := Tryz.sizeOf228
  isAgg_tPIMutex := Tryz.isAgg228
  zeroValue_tPIMutex := Tryz.zeroValue228
  underlying_tPI32 := Tryz.underlying230
  runUnderlying_tPI32 := run_underlying Tryz.underlying230
  sizeOf_tPI32 := Tryz.sizeOf230
  isAgg_tPI32 := Tryz.isAgg230
  zeroValue_tPI32 := Tryz.zeroValue230
  underlying_tUP := Tryz.underlying232
  runUnderlying_tUP := run_underlying Tryz.underlying232
  sizeOf_tUP := Tryz.sizeOf232
  isAgg_tUP := Tryz.isAgg232
  zeroValue_tUP := Tryz.zeroValue232
  underlying_tNoCopy := Tryz.underlying73
  runUnderlying_tNoCopy := run_underlying Tryz.underlying73
  sizeOf_tNoCopy := Tryz.sizeOf73
  isAgg_tNoCopy := Tryz.isAgg73
  zeroValue_tNoCopy := Tryz.zeroValue73
  underlying_t21 := Tryz.underlying21
  runUnderlying_t21 := run_underlying Tryz.underlying21
  sizeOf_t21 := Tryz.sizeOf21
  isAgg_t21 := Tryz.isAgg21
  zeroValue_t21 := Tryz.zeroValue21
  room_tIMutex := by kernel_rfl }
/-- the lock is taken -/
theorem lock_c (a : Addr) (w : World) (hc : w.cell? a = some (.int .i32 0)) (hz : w.frozen? a = false) :
    Calls Tryz.prog 93 #[.pointer (some a)] w fun e w' => e = .returned (.tuple #[]) ∧ w' = w.setCell a (.int .i32 1) := Go.MuLone.lock_free muLib a w hc hz
/-- .. and let go, by a deferred call -/
theorem unlock_d (a : Addr) (u : FrameMode) (w : World) (hc : w.cell? a = some (.int .i32 1)) (hz : w.frozen? a = false) :
    CallsD Tryz.prog 94 #[.pointer (some a)] u w fun e u' w' => u' = u ∧ (e = .returned (.tuple #[]) ∧ w' = w.setCell a (.int .i32 0)) := Go.MuLone.unlock_deferred muLib a u w hc hz
end Go.Sf

/-! errors.Is at one sentinel: the same, or nil. -/
namespace Go.Sf
open Go Go.RowKit Go.Proofs Go.Extern.Stop Go.Stop Go.Extern
theorem isTypeOf (v : Value) (w : World) : (Extern.ReflectliteType.typeOf #[.iface 299 v]).run Tryz.prog w = .ok (.iface 190 (.agg #[.pointer (some ⟨7, 299, none⟩)])) w := by kernel_rfl
def cmpX : Array Value → Sem Value := Extern.ReflectliteType.method fun t => do Extern.Rtype.noPackHeld "Comparable" t; pure (.bool (← typeInfo t).comparable)
theorem isComparable (w : World) : (cmpX #[.agg #[.pointer (some ⟨7, 299, none⟩)]]).run Tryz.prog w = .ok (.bool true) w := by kernel_rfl
theorem isMethodComparable (v : Value) (w : World) : (Go.method 432 190 v "Comparable").run Tryz.prog w = .ok (273, v) w := by kernel_rfl
theorem isComp : (Tryz.prog.info? 299).map (·.comparable) = some true := by kernel_rfl
theorem isSize : (Tryz.prog.info? 321).map (·.size) = some 1 := by kernel_rfl
set_option maxRecDepth 20000 in
set_option maxHeartbeats 1000000 in
/-- errors.Is(x, x), x a pointer to an errors.errorString -/
theorem is_same (a : Addr) (w : World) :
    Calls Tryz.prog 49 #[.iface 299 (.pointer (some a)), .iface 299 (.pointer (some a))] w fun e w' => e = .returned (.bool true) ∧ w' = w := by
  obtain ⟨i, hi, hcmp⟩ := Option.map_eq_some_iff.1 isComp
  obtain ⟨j, hj, hjs⟩ := Option.map_eq_some_iff.1 isSize
  have h8 := @run_callFunc_extern Tryz.prog 97 _ Extern.ReflectliteType.typeOf Tryz.func97 (by kernel_rfl) (by kernel_rfl) (by kernel_rfl) (by kernel_rfl)
  have h32 := @run_callFunc_extern Tryz.prog 273 _ cmpX Tryz.func273 (by kernel_rfl) (by kernel_rfl) (by kernel_rfl) (by kernel_rfl)
  have tT := isTypeOf
  have cT := isComparable
  have mR := isMethodComparable
  have heq := run_eql_iface_ptr_same (P := Tryz.prog) w a Tryz.underlying100 Tryz.underlying299 hi hcmp hj
  go_enter Tryz.func49, Tryz.ntmps49
  go_wp2
  refine wp_loop_rounds 1 ?_
  rw [rounds_succ]
  go_wp2
  go_ret
  exact ⟨rfl, rfl⟩
/-- errors.Is(nil, x) -/
theorem is_nil (b : Addr) (w : World) :
    Calls Tryz.prog 49 #[.nilIface, .iface 299 (.pointer (some b))] w fun e w' => e = .returned (.bool false) ∧ w' = w := by
  have hn := run_eql_iface_nil_left (P := Tryz.prog) w 299 (.pointer (some b)) Tryz.underlying100
  go_enter Tryz.func49, Tryz.ntmps49
  go_wp2
  go_ret
  exact ⟨rfl, rfl⟩
end Go.Sf
