/- The program counts the uses of blocks. -/
import Derived.Test.YtfbmcfkghihfnaaDoorT84
import Derived.Test.YtfbmcfkghihfnaaDoorT30
import Derived.Test.YtfbmcfkghihfnaaDoorGF
import Derived.Maps.RangeWalk
namespace Go.Sf
open Go Go.RowKit Go.Proofs Go.Maps Go.WideShapes
theorem zeroInt (w : World) : (zeroValue 3).run Tryd.prog w = .ok (.int .i64 0) w := by kernel_rfl
theorem underUses : Tryd.prog.underlying 135 = some (.map 3 3) := Tryd.underlying135
/-- block b is a map that tells numbers U by ids -/
def UsesAt (b N : Nat) (U : Int → Nat) (w : World) : Prop := ∃ n M, n ≤ N ∧ MapV Tryd.prog 3 b n M w ∧ ∀ i, (M (kI i)).getD (.int .i64 0) = .int .i64 (U i : Nat)
theorem UsesAt.ext {b N : Nat} {U : Int → Nat} {w w' : World} (h : UsesAt b N U w) (e : Ext w w') : UsesAt b N U w' := let ⟨n, M, h1, h2, h3⟩ := h; ⟨n, M, h1, h2.ext e, h3⟩
theorem UsesAt.mono {b N N' : Nat} {U : Int → Nat} {w : World} (h : UsesAt b N U w) (e : N ≤ N') : UsesAt b N' U w := let ⟨n, M, h1, h2, h3⟩ := h; ⟨n, M, Nat.le_trans h1 e, h2, h3⟩
theorem UsesAt.eq {b N : Nat} {U U' : Int → Nat} {w : World} (h : UsesAt b N U w) (e : U = U') : UsesAt b N U' w := e ▸ h
theorem UsesAt.made (w : World) : UsesAt w.heap.size 0 (fun _ => 0) (w.alloc (.map #[] 0)) := ⟨0, _, Nat.le_refl _, MapV.made w, fun _ => rfl⟩
/-- how often trees have an id -/
def cntTs (i : Int) (ts : List (List It)) : Nat := (ts.map (cntT i)).sum
theorem cntTs_take {i : Int} {ts : List (List It)} {k : Nat} {t : List It} (h : ts[k]? = some t) : cntTs i (ts.take (k + 1)) = cntTs i (ts.take k) + cntT i t := by
  unfold cntTs
  rw [List.take_add_one, h, Option.toList_some, List.map_append, List.sum_append]; simp
noncomputable def usedOk (s : List Hd) (ts : List (List It)) : Bool := (ts.all fun t => filesFit s t) && s.all fun h => eqb (cntTs h.id ts : Int) h.uses
/-- a row of pointers to trees -/
def TreesAt (B : Nat) (w : World) (A : Option Addr) (c : Nat) (ts : List (List It)) : Prop :=
  ts.length ≤ c ∧ ts.length ≤ lim ∧ ∀ k t, ts[k]? = some t → ∃ b o adr kv, A = some ⟨b, o, none⟩ ∧ w.cell? ⟨b, o + k, none⟩ = some (.pointer (some ⟨adr [], 0, none⟩)) ∧ TreeAt B w t adr kv ∧ treeOk t = true
theorem sameK (i j : Int) : (kI i).sameKey (kI j) = decide (i = j) := by
  unfold kI
  by_cases h : i = j
  · subst h; simp [Lit.sameKey]
  · simp [Lit.sameKey, h]
section
variable {B b n r cnt : Nat} {l : List Hd} {D : DataW Value} {M : Lit → Option Value} {left : Lit → Bool} {w w0 : World} {ops : Array Oper} {rest : List Oper} {o : Oper} {a : Act} {Q : Exit → Act → World → Prop}
/-- the step of a range over a store -/
theorem wp_next_hd (hg : o.guard = none) (it : Operand) (hop : o.op = Op.next it false) (hit : a.eval it = .pointer (some ⟨r, 0, none⟩)) (h : w.ranges Tryd.prog 3 rV b r n D left cnt) (hD : MapD D M) (hM : MapHd B w0 l M)
    (hDone : (∀ kl, left kl = false) → wpList Tryd.prog ops Q rest (a.put o.dst (.tuple #[.bool false])) w)
    (hMore : ∀ (x : Hd) (u : Value) (w' : World) (cnt' : Nat), findH l x.id = some x → inI x.id → Ints B w0 u x.bytes → w'.ranges Tryd.prog 3 rV b r n D (fun z => left z && !z.sameKey (kI x.id)) cnt' → cnt' < cnt → w.grownBy w' (some r) →
      (Instr.entry (.pointer (some ⟨r, 0, none⟩))).run Tryd.prog w' = .ok (.tuple #[.int .i64 x.id, .agg #[.int .i64 x.id, u, .int .i64 x.uses]]) w' → wpList Tryd.prog ops Q rest (a.put o.dst (.tuple #[.bool true, .int .i64 x.id, .agg #[.int .i64 x.id, u, .int .i64 x.uses]])) w') :
    wpList Tryd.prog ops Q (o :: rest) a w := by
  refine wpList_next_ranges (α := Int) (β := Value) w hg it hop 3 lawI rV (Value.int .i64) id (fun key kl hkey => by obtain ⟨x, rfl, _⟩ := Maps.keyOf_int_inv Tryd.underlying3 hkey; exact ⟨x, rfl⟩) (fun v y hv => ⟨v, rfl⟩) b r n D left cnt hit h (fun _ => hDone) ?_
  intro x c kl y w' cnt' hkey hlk hv hat hrg hlt hgr hsz hen
  obtain ⟨x', ex, rfl, hwx⟩ := Maps.keyOf_int_inv Tryd.underlying3 hkey
  cases ex
  simp only [rV, id, Option.some.injEq] at hv
  subst hv
  have hk : WideAt.IsKeyLit (Lit.int .i64 x) := lawI.key hkey
  have hxi : inI x := by
    simp [Lit.wf, IntKind.min, IntKind.max, IntKind.signed, IntKind.bits] at hwx
    unfold inI; omega
  have hMx : M (kI x) = some c := by
    cases hm : M (kI x) with
    | none =>
      have h1 := (hD (kI x) hk).1
      rw [hm] at h1
      have h2 := atKey_of_not_has (by simpa using h1) (.nil : DataW Value)
      have h3 := hat (.nil)
      rw [show (Lit.int .i64 x) = kI x from rfl, h2] at h3
      cases h3
    | some v =>
      have h2 := (hD (kI x) hk).2 v hm .nil
      have h3 := hat .nil
      rw [show (Lit.int .i64 x) = kI x from rfl, h2] at h3
      cases h3; rfl
  cases hf : findH l x with
  | none => rw [(hM x).1 hf] at hMx; cases hMx
  | some hd =>
    obtain ⟨u, h1, h2⟩ := (hM x).2 hd hf
    rw [h1] at hMx
    have e := (findH_some hf).2
    subst e
    cases hMx
    exact hMore hd u w' cnt' hf hxi h2 hrg hlt hgr hen
end
end Go.Sf
