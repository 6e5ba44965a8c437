/- The phase, part 12: a worker's sums, in company: bytesValid, BlockValid, BlockSum -/
import Derived.Test.YtphgnbjikgglmaaKA
import Derived.Conc.CompanyMem
import Derived.RowKit
import Derived.Conc.WgGenN3
import Derived.Conc.CompanyWords
import Derived.Test.YtphgnbjikgglmaaKB
set_option linter.all false
/-! The phase, part 12: a worker's sums, in company: bytesValid, BlockValid, BlockSum -/
namespace Go.Sf
open Go Go.Conc Go.Proofs
open Go.ConcN (ShN WgLive PayAt Has)
open Go.ConcR (KK WgAt stA smA rd wr mk Payload)
/-- a block's bytes are well -/
def bytesOk (l : List Int) : Bool := l.all fun x => decide (0 ≤ x) && decide (x ≤ 255)
def blkOk (l : List Int) : Bool := decide (1 ≤ l.length) && decide (l.length ≤ 8) && bytesOk l
theorem bytesOk_take {l : List Int} (h : bytesOk l = true) (k : Nat) : bytesOk (l.take k) = true := by
  unfold bytesOk at *
  rw [List.all_eq_true] at *
  exact fun x hx => h x (List.mem_of_mem_take hx)
def sumStep (s x : Int) : Int := (263 * s + x) % 9973
def blkSum (l : List Int) : Int := if blkOk l then l.foldl sumStep 7 else -1
/-- the ints of a slice lie in blocks that stand still -/
structure HB (o : Nat → Nat) (base : Option Addr) (l : List Int) (w : World) : Prop where
  get : ∀ k (h : k < l.length), ∃ b off, base = some ⟨b, off, none⟩ ∧ o b ≠ 0 ∧ w.cell? ⟨b, off + k, none⟩ = some (.int .i64 l[k])
section
variable {ty : TypeId} {Wg C n : Nat} [Payload] {ci : Option Nat} {s : OSt} {base : Option Addr} {l : List Int} {w w₁ : World}
theorem cell_keep {a : Addr} (h : w₁.heap[a.block]? = w.heap[a.block]?) : w₁.cell? a = w.cell? a := by
  unfold World.cell?
  rw [h]
theorem HB.rely (h : HB s.o base l w) (r : RO ty Wg C n ci s.o w w₁) : HB s.o base l w₁ := ⟨fun k hk => by
  obtain ⟨b, off, h1, h2, h3⟩ := h.get k hk
  exact ⟨b, off, h1, h2, (cell_keep (r.keep b h2)).trans h3⟩⟩
/-- .. and what else is known -/
structure HBF (F : World → Prop) (o : Nat → Nat) (base : Option Addr) (l : List Int) (w : World) : Prop extends HB o base l w where
  fr : F w
theorem HBF.rely {F : World → Prop} (hS : ∀ w w₁, F w → RO ty Wg C n ci s.o w w₁ → F w₁) (h : HBF F s.o base l w) (r : RO ty Wg C n ci s.o w w₁) : HBF F s.o base l w₁ := ⟨h.toHB.rely r, hS _ _ h.fr r⟩
/-- what is guaranteed: nothing is turned -/
abbrev DD (ty : TypeId) (Wg C n : Nat) (ci : Option Nat) (s : OSt) (w w' : World) (es : Array Event) : Prop := GO Wg C n ci s s w w' es
theorem termsO : Terms (RO ty Wg C n ci s.o) (DD ty Wg C n ci s) := ⟨fun _ _ _ h k => h.trans k, fun _ => GO.idle fun e he => by simp at he⟩
theorem HB.cell {b off : Nat} {o : Nat → Nat} (h : HB o (some ⟨b, off, none⟩) l w) {k : Nat} (hk : k < l.length) : w.cell? ⟨b, off + k, none⟩ = some (.int .i64 l[k]) := by
  obtain ⟨b', off', hb, _, hc⟩ := h.get k hk
  cases hb
  exact hc
/-- a load from a block that stands still -/
theorem DD.load {a : Addr} {x : Value} (h : w.cell? a = some x) (ho : s.o a.block ≠ 0) {es : Array Event} (he : ∀ e ∈ es, e = ⟨.cell a, false, false⟩) : DD ty Wg C n ci s w w es := GO.idle fun e hm => by
  rw [he e hm]
  refine ⟨?_, .inr (.inl ⟨a.block, rfl, ho, rfl⟩)⟩
  unfold World.cell? at h
  cases hb : w.heap[a.block]? with
  | none => rw [hb] at h; cases h
  | some x => exact (Array.getElem?_eq_some_iff.1 hb).1
end
theorem opsC_callV {P : Program} {main : Bool} {R : World → World → Prop} {D : World → World → Array Event → Prop} (T : Terms R D) {fn : FuncId} {Q : Exit → Act → World → Prop} {a : Act} {w : World} {ops : Array Oper} {i : Nat} {rest : List Nat} {o : Oper} {f : FuncId} {args : Array Operand} {ats : Array TypeId} {nf n : Nat} {Post : Value → World → Prop} {vs : Array Value}
    (ho : ops[i]? = some o) (hw : Region.wanted o (yielded ops a.tmps) = true) (hop : o.op = .call { callee := .value (.func f), args, argTypes := ats }) (hvs : args.map a.eval = vs)
    (hcall : CallsC P main R D f vs nf w Post) (hnext : ∀ v w', Post v w' → OpsC P main R D fn ops rest n Q (a.put o.dst v) w') : OpsC P main R D fn ops (i :: rest) (n + nf + 3) Q a w := opsC_call T ho hw hop (hvs ▸ hcall) hnext
section
variable {ty : TypeId} {Wg C n : Nat} [Payload] {ci : Option Nat} {s : OSt}
/-- the loop of bytesValid -/
def InvB (F : World → Prop) (s : OSt) (base : Option Addr) (cap : Nat) (l : List Int) (a : Act) (w : World) : Prop :=
  ∃ (j : Nat) (v1 v3 v4 v8 v9 v10 v11 v12 v13 v14 v15 v16 v17 : Value), j ≤ l.length ∧ bytesOk (l.take j) = true ∧ HBF F s.o base l w ∧
    a = { tmps := #[.slice base l.length cap, v1, .bool false, v3, v4, .slice base l.length cap, .int .i64 l.length, .int .i64 j, v8, v9, v10, v11, v12, v13, v14, v15, v16, v17], defers := [] }
def MuB (n : Nat) (a : Act) (_ : World) : Nat := match a.tmps.getD 7 undef with | .int _ j => n - j.toNat | _ => 0
set_option maxRecDepth 100000 in
set_option maxHeartbeats 2000000 in
theorem coBytesValid_c : ∃ N, ∀ (F : World → Prop) (s : OSt), (∀ w w₁, F w → RO ty Wg C n ci s.o w w₁ → F w₁) → ∀ (base : Option Addr) (cap : Nat) (l : List Int) (w : World), l.length ≤ 8 → HBF F s.o base l w → CallsC Try.prog false (RO ty Wg C n ci s.o) (DD ty Wg C n ci s) 62 #[.slice base l.length cap] N w fun v w' => v = .bool (bytesOk l) ∧ HBF F s.o base l w' := by
  co_apply Exists.intro
  intro F s hS base cap l w hl hF
  have T : Terms (RO ty Wg C n ci s.o) (DD ty Wg C n ci s) := termsO
  co_apply callsC_of_wpC Try.func62 (by rfl) rfl
  simp only [Try.ntmps62, List.size_toArray, List.length_cons, List.length_nil, Nat.reduceAdd, Nat.reduceSub, Array.replicate_succ, Array.replicate_zero, List.push_toArray, List.append_toArray, List.nil_append, List.cons_append]
  co_go T (HBF.rely hS) hF (co_quiet T)
  co_apply wpC_loop T (InvB F s base cap l) (MuB l.length) _ 8
  · exact ⟨0, _, _, _, _, _, _, _, _, _, _, _, _, _, by omega, by simp [bytesOk], hF, rfl⟩
  · simpa [MuB] using hl
  · rintro a w ⟨j, v1, v3, v4, v8, v9, v10, v11, v12, v13, v14, v15, v16, v17, hj, hok, hF, rfl⟩
    co_go T (HBF.rely hS) hF (co_quiet T)
    co_split T (decide ((j : Int) < (l.length : Int)))
    · intro hj0
      have hlt : j < l.length := by have := of_decide_eq_true hj0; omega
      obtain ⟨b, off, rfl, ho, _⟩ := hF.get j hlt
      have hlt' : (j : Int) < (l.length : Int) := by omega
      co_ctl T
      co_then
      co_ctl T
      co_ctl T
      co_ctl T
      co_reg T
      co_opw (HBF.rely hS) hF (skip) (co_still T)
      co_opw (HBF.rely hS) hF (have hc := hF.cell hlt) (refine DD.load (hF.cell hlt) ho ?_; co_evs (simp))
      co_op (HBF.rely hS) hF (co_quiet T)
      co_ctl T
      co_then
      have hx : bytesOk (l.take (j + 1)) = (decide (0 ≤ l[j]) && decide (l[j] ≤ 255)) := by
        rw [List.take_succ_eq_append_getElem hlt]
        unfold bytesOk at hok ⊢
        rw [List.all_append, hok]
        simp
      generalize l[j] = x at hx
      co_apply wpC_seq_mid (n₁ := 20) T (fun a' w' => ∃ v8 v9 v10 v11 v12 v13 v14 v15, HBF F s.o (some ⟨b, off, none⟩) l w' ∧ a' = { tmps := #[.slice (some ⟨b, off, none⟩) l.length cap, v1, .bool false, v3, .int .i64 x, .slice (some ⟨b, off, none⟩) l.length cap, .int .i64 l.length, .int .i64 j, v8, v9, v10, v11, v12, v13, v14, v15, .bool (decide (x < 0) || decide (255 < x)), v17], defers := [] })
      · cases hb : decide (x < 0) with
        | true =>
          have hneg : x < 0 := of_decide_eq_true hb
          co_apply wpC_more
          co_reg T
          co_op (HBF.rely hS) hF (co_quiet T)
          co_op (HBF.rely hS) hF (co_quiet T)
          co_op (HBF.rely hS) hF (co_quiet T)
          co_apply opsC_unwanted T rfl (by rfl)
          co_apply opsC_unwanted T rfl (by rfl)
          co_op (HBF.rely hS) hF (co_quiet T)
          co_apply opsC_nil T
          exact ⟨_, _, _, _, _, _, _, _, hF, rfl⟩
          decide
        | false =>
          have hneg : ¬ x < 0 := of_decide_eq_false hb
          co_apply wpC_more
          co_reg T
          repeat (co_op (HBF.rely hS) hF (co_quiet T))
          co_apply opsC_nil T
          exact ⟨_, _, _, _, _, _, _, _, hF, rfl⟩
          decide
      · rintro a' w' ⟨v8, v9, v10, v11, v12, v13, v14, v15, hF, rfl⟩
        co_split T (decide (x < 0) || decide (255 < x))
        · intro hx0
          co_go T (HBF.rely hS) hF (co_quiet T)
          refine ⟨rfl, _, resultsC_tmp (by rfl) _, ?_, hF⟩
          cases hbo : bytesOk l with
          | false => rfl
          | true =>
            have := bytesOk_take hbo (j + 1)
            rw [hx] at this
            simp at this hx0
            omega
        · intro hx0
          co_go T (HBF.rely hS) hF (co_quiet T)
          have e : IntKind.i64.wrap ((j : Int) + 1) = ((j + 1 : Nat) : Int) := by rw [IntKind.wrap_i64]; omega
          simp only [e]
          refine ⟨⟨j + 1, _, _, _, _, _, _, _, _, _, _, _, _, _, by omega, ?_, hF, rfl⟩, ?_⟩
          · rw [hx]
            simp at hx0 ⊢
            omega
          · simp [MuB]
            omega
    · intro hj0
      obtain rfl : j = l.length := by have := of_decide_eq_false hj0; omega
      co_go T (HBF.rely hS) hF (co_quiet T)
      exact ⟨rfl, _, resultsC_tmp (by rfl) _, by simpa using hok, hF⟩
set_option maxRecDepth 100000 in
set_option maxHeartbeats 2000000 in
theorem blockValid_c : ∃ N, ∀ (F : World → Prop) (s : OSt), (∀ w w₁, F w → RO ty Wg C n ci s.o w w₁ → F w₁) → ∀ (base : Option Addr) (cap : Nat) (l : List Int) (w : World), HBF F s.o base l w → CallsC Try.prog false (RO ty Wg C n ci s.o) (DD ty Wg C n ci s) 41 #[.slice base l.length cap] N w fun v w' => v = .bool (blkOk l) ∧ HBF F s.o base l w' := by
  obtain ⟨Nv, hv⟩ := coBytesValid_c (ty := ty) (Wg := Wg) (C := C) (n := n) (ci := ci)
  co_apply Exists.intro
  intro F s hS base cap l w hF
  have T : Terms (RO ty Wg C n ci s.o) (DD ty Wg C n ci s) := termsO
  co_apply callsC_of_wpC Try.func41 (by rfl) rfl
  simp only [Try.ntmps41, List.size_toArray, List.length_cons, List.length_nil, Nat.reduceAdd, Nat.reduceSub, Array.replicate_succ, Array.replicate_zero, List.push_toArray, List.append_toArray, List.nil_append, List.cons_append]
  co_stmt T (HBF.rely hS) hF (co_quiet T)
  co_apply wpC_seq_mid (n₁ := 40 + Nv) T (fun a' w' => a'.defers = [] ∧ a'.tmps.getD 2 undef = .bool (blkOk l) ∧ HBF F s.o base l w')
  · by_cases h1 : 1 ≤ l.length
    · have h1' : (1 : Int) ≤ (l.length : Int) := by omega
      by_cases h8 : l.length ≤ 8
      · have h8' : (l.length : Int) ≤ 8 := by omega
        co_apply wpC_more
        co_reg T
        co_op (HBF.rely hS) hF (co_quiet T)
        co_op (HBF.rely hS) hF (co_quiet T)
        co_op (HBF.rely hS) hF (co_quiet T)
        co_op (HBF.rely hS) hF (co_quiet T)
        co_op (HBF.rely hS) hF (co_quiet T)
        co_op (HBF.rely hS) hF (co_quiet T)
        co_op (HBF.rely hS) hF (co_quiet T)
        co_op (HBF.rely hS) hF (co_quiet T)
        co_op (HBF.rely hS) hF (co_quiet T)
        co_op (HBF.rely hS) hF (co_quiet T)
        co_apply opsC_callV T rfl (by rfl) rfl (by simp [Act.eval]) (hv F s hS base cap l _ h8 hF)
        rintro v w' ⟨rfl, hF⟩
        co_op (HBF.rely hS) hF (co_quiet T)
        co_op (HBF.rely hS) hF (co_quiet T)
        co_apply opsC_nil T
        exact ⟨rfl, by simp [blkOk, h1, h8], hF⟩
        omega
      · have h8' : ¬ (l.length : Int) ≤ 8 := by omega
        co_apply wpC_more
        co_reg T
        co_op (HBF.rely hS) hF (co_quiet T)
        co_op (HBF.rely hS) hF (co_quiet T)
        co_op (HBF.rely hS) hF (co_quiet T)
        co_op (HBF.rely hS) hF (co_quiet T)
        co_op (HBF.rely hS) hF (co_quiet T)
        co_op (HBF.rely hS) hF (co_quiet T)
        co_op (HBF.rely hS) hF (co_quiet T)
        co_op (HBF.rely hS) hF (co_quiet T)
        co_op (HBF.rely hS) hF (co_quiet T)
        co_apply opsC_unwanted T rfl (by rfl)
        co_apply opsC_unwanted T rfl (by rfl)
        co_op (HBF.rely hS) hF (co_quiet T)
        co_op (HBF.rely hS) hF (co_quiet T)
        co_apply opsC_nil T
        exact ⟨rfl, by simp [blkOk, h1, h8], hF⟩
        omega
    · have h1' : ¬ (1 : Int) ≤ (l.length : Int) := by omega
      co_apply wpC_more
      co_reg T
      co_op (HBF.rely hS) hF (co_quiet T)
      co_op (HBF.rely hS) hF (co_quiet T)
      co_op (HBF.rely hS) hF (co_quiet T)
      co_op (HBF.rely hS) hF (co_quiet T)
      co_apply opsC_unwanted T rfl (by rfl)
      co_apply opsC_unwanted T rfl (by rfl)
      co_apply opsC_unwanted T rfl (by rfl)
      co_op (HBF.rely hS) hF (co_quiet T)
      co_op (HBF.rely hS) hF (co_quiet T)
      co_apply opsC_unwanted T rfl (by rfl)
      co_apply opsC_unwanted T rfl (by rfl)
      co_op (HBF.rely hS) hF (co_quiet T)
      co_op (HBF.rely hS) hF (co_quiet T)
      co_apply opsC_nil T
      exact ⟨rfl, by simp [blkOk, h1], hF⟩
      omega
  · rintro a' w' ⟨h1, h2, hF⟩
    co_ctl T
    exact ⟨h1, _, resultsC_tmp (by rfl) _, h2, hF⟩
end
end Go.Sf

/-! The phase, part 13: BlockSum in company -/
namespace Go.Sf
open Go Go.Conc Go.Proofs
open Go.ConcN (ShN WgLive PayAt Has)
open Go.ConcR (KK WgAt stA smA rd wr mk Payload)
section
variable {ty : TypeId} {Wg C n : Nat} [Payload] {ci : Option Nat} {s : OSt}
def InvS (F : World → Prop) (s : OSt) (base : Option Addr) (cap : Nat) (l : List Int) (a : Act) (w : World) : Prop :=
  ∃ (j : Nat) (x : Int) (v1 v4 v5 v12 v13 v14 v15 v16 v17 v18 v19 v20 v21 : Value), j ≤ l.length ∧ x = (l.take j).foldl sumStep 7 ∧ 0 ≤ x ∧ x < 9973 ∧ HBF F s.o base l w ∧
    a = { tmps := #[.slice base l.length cap, v1, .int .i64 0, .int .i64 x, v4, v5, .slice base l.length cap, .bool true, .bool false, .slice base l.length cap, .int .i64 l.length, .int .i64 j, v12, v13, v14, v15, v16, v17, v18, v19, v20, v21], defers := [] }
def MuS (n : Nat) (a : Act) (_ : World) : Nat := match a.tmps.getD 11 undef with | .int _ j => n - j.toNat | _ => 0
set_option maxRecDepth 100000 in
set_option maxHeartbeats 2000000 in
theorem blockSum_c : ∃ N, ∀ (F : World → Prop) (s : OSt), (∀ w w₁, F w → RO ty Wg C n ci s.o w w₁ → F w₁) → ∀ (base : Option Addr) (cap : Nat) (l : List Int) (w : World), HBF F s.o base l w → CallsC Try.prog false (RO ty Wg C n ci s.o) (DD ty Wg C n ci s) 54 #[.slice base l.length cap] N w fun v w' => v = .int .i64 (blkSum l) ∧ HBF F s.o base l w' := by
  obtain ⟨Nv, hv⟩ := blockValid_c (ty := ty) (Wg := Wg) (C := C) (n := n) (ci := ci)
  co_apply Exists.intro
  intro F s hS base cap l w hF
  have T : Terms (RO ty Wg C n ci s.o) (DD ty Wg C n ci s) := termsO
  co_apply callsC_of_wpC Try.func54 (by rfl) rfl
  simp only [Try.ntmps54, List.size_toArray, List.length_cons, List.length_nil, Nat.reduceAdd, Nat.reduceSub, Array.replicate_succ, Array.replicate_zero, List.push_toArray, List.append_toArray, List.nil_append, List.cons_append]
  co_stmt T (HBF.rely hS) hF (co_quiet T)
  co_apply wpC_seq_mid T (fun a' w' => blkOk l = true ∧ HBF F s.o base l w' ∧ a' = { tmps := #[.slice base l.length cap, undef, .int .i64 0, undef, undef, undef, .slice base l.length cap, .bool true, .bool false, undef, undef, undef, undef, undef, undef, undef, undef, undef, undef, undef, undef, undef], defers := [] })
  · co_ctl T
    co_reg T
    co_op (HBF.rely hS) hF (co_quiet T)
    co_apply opsC_callV T rfl (by rfl) rfl (by simp [Act.eval]) (hv F s hS base cap l _ hF)
    rintro v w' ⟨rfl, hF⟩
    co_op (HBF.rely hS) hF (co_quiet T)
    co_ctl T
    co_then
    co_split T (!blkOk l)
    · intro hb
      co_go T (HBF.rely hS) hF (co_quiet T)
      refine ⟨rfl, _, resultsC_tmp (by rfl) _, ?_, hF⟩
      simp at hb
      simp [blkSum, hb]
    · intro hb
      co_go T (HBF.rely hS) hF (co_quiet T)
      simp at hb
      exact ⟨hb, hF, by rw [hb]; rfl⟩
  · rintro a' w' ⟨hb, hF, rfl⟩
    have hl : l.length ≤ 8 := by unfold blkOk at hb; simp at hb; omega
    have hbytes : bytesOk l = true := by unfold blkOk at hb; simp at hb; exact hb.2
    co_go T (HBF.rely hS) hF (co_quiet T)
    co_apply wpC_loop T (InvS F s base cap l) (MuS l.length) _ 8
    · exact ⟨0, 7, _, _, _, _, _, _, _, _, _, _, _, _, _, by omega, by simp, by omega, by omega, hF, rfl⟩
    · simpa [MuS] using hl
    · rintro a w ⟨j, x, v1, v4, v5, v12, v13, v14, v15, v16, v17, v18, v19, v20, v21, hj, hx, hx0, hx1, hF, rfl⟩
      co_go T (HBF.rely hS) hF (co_quiet T)
      co_split T (decide ((j : Int) < (l.length : Int)))
      · intro hj0
        have hlt : j < l.length := by have := of_decide_eq_true hj0; omega
        obtain ⟨b, off, rfl, ho, _⟩ := hF.get j hlt
        have hlt' : (j : Int) < (l.length : Int) := by omega
        co_ctl T
        co_then
        co_ctl T
        co_ctl T
        co_ctl T
        co_reg T
        co_opw (HBF.rely hS) hF (skip) (co_still T)
        co_opw (HBF.rely hS) hF (have hc := hF.cell hlt) (refine DD.load (hF.cell hlt) ho ?_; co_evs (simp))
        co_op (HBF.rely hS) hF (co_quiet T)
        co_ctl T
        co_then
        have hst : sumStep x l[j] = (l.take (j + 1)).foldl sumStep 7 := by
          rw [List.take_succ_eq_append_getElem hlt, List.foldl_append, ← hx]
          rfl
        have hy : 0 ≤ l[j] ∧ l[j] ≤ 255 := by
          unfold bytesOk at hbytes
          rw [List.all_eq_true] at hbytes
          simpa using hbytes l[j] (List.getElem_mem hlt)
        generalize l[j] = y at hst hy
        have e1 : IntKind.i64.wrap (263 * x) = 263 * x := by rw [IntKind.wrap_i64]; omega
        have e2 : IntKind.i64.wrap (263 * x + y) = 263 * x + y := by rw [IntKind.wrap_i64]; omega
        have e3 : (263 * x + y).tmod 9973 = sumStep x y := by rw [Int.tmod_eq_emod_of_nonneg (by omega)]; rfl
        co_go T (HBF.rely hS) hF (co_quiet T)
        have e : IntKind.i64.wrap ((j : Int) + 1) = ((j + 1 : Nat) : Int) := by rw [IntKind.wrap_i64]; omega
        simp only [← hx, e, e1, e2, e3]
        have hr : 0 ≤ sumStep x y ∧ sumStep x y < 9973 := by unfold sumStep; omega
        refine ⟨⟨j + 1, sumStep x y, _, _, _, _, _, _, _, _, _, _, _, _, _, by omega, hst, hr.1, hr.2, hF, rfl⟩, ?_⟩
        simp [MuS]
        omega
      · intro hj0
        obtain rfl : j = l.length := by have := of_decide_eq_false hj0; omega
        co_go T (HBF.rely hS) hF (co_quiet T)
        exact ⟨rfl, _, resultsC_tmp (by rfl) _, by simp [blkSum, hb, hx], hF⟩
end
end Go.Sf

/-! The phase, part 14: Done, walked for a worker, whoever else runs. The kit's own walk is followed, step by step -/
namespace Go.Sf
open Go Go.Conc Go.Conc.Lib
open Go.ConcN (ShN WgLive PayAt Has RW DWs AtR0)
open Go.RowKit Go.ConcR.Gen Go.ConcN.Gen
open Go.ConcR (KK WgAt stA smA rd wr mk Payload DC0)
variable [Payload] {L : WgLink}
section
variable (P : Program) (ty : TypeId) (Wg C n i : Nat) (val : Value)
/-- what a worker knows that is done -/
def KnD (w : World) : Prop := WgLive ty Wg w ∧ Has C i val w
/-- where the kit's walk leads, within m steps, in whatever world -/
def Fol (m : Nat) (g : Goroutine) : Prop := ∀ w, KnD ty Wg C i val w → Goes P false (RW ty Wg C n 0 i) (DWs Wg (fun _ _ => False) (fun _ _ => False) C n (i + 1)) (AtR0 P ty Wg C n 0 (i + 1) val) m g w
end
section
variable {P : Program} {ty : TypeId} {Wg C n i : Nat} {val : Value} {w w₁ : World} {s : OSt} {m k : Nat} {g g' : Goroutine}
theorem KnD.rely {o : Nat → Nat} (h : KnD ty Wg C i val w) (r : RO ty Wg C n (some i) o w w₁) : KnD ty Wg C i val w₁ := ⟨r.live h.1, (r.cell i rfl).trans h.2⟩
theorem Fol.step {es : Array Event} (h : Fol P ty Wg C n i val (m + 1) g) (hs : ∀ w, KnD ty Wg C i val w → stepG P false g w = .go g' w es) (hne : es ≠ #[mk (.releaseMerge (stA Wg))]) : Fol P ty Wg C n i val m g' := by
  intro w hk
  rcases h w hk with h1 | ⟨_, h1⟩
  · obtain ⟨_, _, g₂, h2, _⟩ := h1 w (RW.of_RO (o := fun _ => 0) RO.refl)
    rw [hs w hk] at h2
    cases h2
    exact (hne rfl).elim
  · have h2 := h1 w (RW.of_RO (o := fun _ => 0) RO.refl)
    rw [hs w hk] at h2
    exact h2.2
/-- .. and I with it -/
theorem Fol.go (hr : g.status = .running) (hs : ∀ w, KnD ty Wg C i val w → stepG P false g w = .go g' w #[]) (next : Fol P ty Wg C n i val m g' → ∀ w, KnD ty Wg C i val w → GoesO ty Wg C n P false (some i) (AtRel P ty Wg C n i val) k s g' w) :
    Fol P ty Wg C n i val (m + 1) g → ∀ w, KnD ty Wg C i val w → GoesO ty Wg C n P false (some i) (AtRel P ty Wg C n i val) (k + 1) s g w := by
  intro hf w hk
  have hf' := hf.step hs (by intro e; have := congrArg Array.size e; simp at this)
  refine GoesO.step hr fun w₁ h₁ => ?_
  rw [hs w₁ (hk.rely h₁)]
  exact ⟨s, GO.idle (by simp), next hf' w₁ (hk.rely h₁)⟩
theorem fol_first {es : Array Event} (h : Goes P false (RW ty Wg C n 0 i) (DWs Wg (fun _ _ => False) (fun _ _ => False) C n (i + 1)) (AtR0 P ty Wg C n 0 (i + 1) val) (m + 1) g w) (hs : stepG P false g w = .go g' w es) :
    AtR0 P ty Wg C n 0 (i + 1) val g w ∨ Goes P false (RW ty Wg C n 0 i) (DWs Wg (fun _ _ => False) (fun _ _ => False) C n (i + 1)) (AtR0 P ty Wg C n 0 (i + 1) val) m g' w := by
  rcases h with h1 | ⟨_, h1⟩
  · exact .inl (h1 w (RW.of_RO (o := fun _ => 0) RO.refl))
  · have h2 := h1 w (RW.of_RO (o := fun _ => 0) RO.refl)
    rw [hs] at h2
    exact .inr h2.2
/-- .. in one world -/
theorem fol_step {es : Array Event} (h : Goes P false (RW ty Wg C n 0 i) (DWs Wg (fun _ _ => False) (fun _ _ => False) C n (i + 1)) (AtR0 P ty Wg C n 0 (i + 1) val) (m + 1) g w) (hs : stepG P false g w = .go g' w es) (hne : es ≠ #[mk (.releaseMerge (stA Wg))]) :
    Goes P false (RW ty Wg C n 0 i) (DWs Wg (fun _ _ => False) (fun _ _ => False) C n (i + 1)) (AtR0 P ty Wg C n 0 (i + 1) val) m g' w := by
  rcases h with h1 | ⟨_, h1⟩
  · obtain ⟨_, _, g₂, h2, _⟩ := h1 w (RW.of_RO (o := fun _ => 0) RO.refl)
    rw [hs] at h2
    cases h2
    exact (hne rfl).elim
  · have h2 := h1 w (RW.of_RO (o := fun _ => 0) RO.refl)
    rw [hs] at h2
    exact h2.2
theorem fol_never {es : Array Event} (h : Goes P false (RW ty Wg C n 0 i) (DWs Wg (fun _ _ => False) (fun _ _ => False) C n (i + 1)) (AtR0 P ty Wg C n 0 (i + 1) val) 0 g w) (hs : stepG P false g w = .go g' w es) (hne : es ≠ #[mk (.releaseMerge (stA Wg))]) : False := by
  obtain ⟨_, _, g₂, h2, _⟩ := h w (RW.of_RO (o := fun _ => 0) RO.refl)
  rw [hs] at h2
  cases h2
  exact hne rfl
theorem go_of_goes {r : GStep} {X : Goroutine} {W : World} {E : Array Event} (h : r.goes fun g' w' es => g' = X ∧ w' = W ∧ es = E) : r = .go X W E := by
  obtain ⟨g, w, es, rfl, rfl, rfl, rfl⟩ := goes_cases h
  rfl
end
set_option maxRecDepth 100000 in
set_option maxHeartbeats 8000000 in
theorem doneO {P : Program} (H : WgLib P L) {Wg C n i : Nat} {val : Value} {c : Frame} {cs : List Frame} {qt : Nat} {s : OSt} (h1 : s.c = 1)
    (hcm : c.mode = .returning) (hT : QuitsD P qt 0 (G c cs)) (w : World) (hK : WgLive L.tWg Wg w ∧ Has C i val w) :
    GoesO L.tWg Wg C n P false (some i) (AtRel P L.tWg Wg C n i val) 15 s (G ((baseD L.done).at ⟨#[.pointer (some ⟨Wg, 0, none⟩), undef, undef, undef], []⟩ [.code (body_done L)]) (c :: cs)) w := by
  have hf : Fol P L.tWg Wg C n i val 23 (G ((baseD L.done).at ⟨#[.pointer (some ⟨Wg, 0, none⟩), undef, undef, undef], []⟩ [.code (body_done L)]) (c :: cs)) := fun w hk => doneN (k := i + 1) (val := val) (C := C) (n := n) (Low := 0) (Own := fun _ _ => False) (Rd := fun _ _ => False) H hcm hT w hk
  revert hK
  revert w
  revert hf
  show Fol P L.tWg Wg C n i val 23 _ → ∀ w, KnD L.tWg Wg C i val w → _
  lib_facts
  simp only [body_done, doneFn, Option.getD_some]
  refine Fol.go rfl (fun w hk => by rw [stepG_region]) ?_
  simp only [List.size_toArray, List.length_cons, List.length_nil, Nat.reduceAdd, Nat.zero_add, List.range, List.range.loop]
  refine Fol.go rfl (fun w hk => go_of_goes (goes_oper_k rfl rfl (by k_ne) (fun K hK => by go_simp; refine hK _ _ ⟨rfl, rfl, ?_⟩; exact listed_nil (by simp [go_sem])))) ?_
  refine Fol.go rfl (fun w hk => go_of_goes (goes_call rfl rfl (by k_ne) rfl H.f_add (nm_add L) rfl ⟨rfl, rfl, rfl⟩)) ?_
  walk_nrmf addFn
  refine Fol.go rfl (fun w hk => by rw [stepG_seq]) ?_
  refine Fol.go rfl (fun w hk => by rw [stepG_cond (t := true) rfl]) ?_
  simp only [if_true, if_false, Bool.false_eq_true, ↓reduceIte]
  refine Fol.go rfl (fun w hk => by rw [stepG_seq]) ?_
  refine Fol.go rfl (fun w hk => by rw [stepG_seq]) ?_
  refine Fol.go rfl (fun w hk => by rw [stepG_region]) ?_
  simp only [List.size_toArray, List.length_cons, List.length_nil, Nat.reduceAdd, Nat.zero_add, List.range, List.range.loop]
  refine Fol.go rfl (fun w hk => go_of_goes (goes_oper_k rfl rfl (by k_ne) (fun K hK => by go_simp; refine hK _ _ ⟨rfl, rfl, ?_⟩; exact listed_nil (by simp [go_sem])))) ?_
  refine Fol.go rfl (fun w hk => go_of_goes (goes_oper_k rfl rfl (by k_ne) (fun K hK => by go_simp; refine hK _ _ ⟨rfl, rfl, ?_⟩; exact listed_nil (by simp [go_sem])))) ?_
  refine Fol.go rfl (fun w hk => by rw [stepG_region_end]) ?_
  refine Fol.go rfl (fun w hk => by rw [stepG_cond (t := true) rfl]) ?_
  simp only [if_true, if_false, Bool.false_eq_true, ↓reduceIte]
  refine Fol.go rfl (fun w hk => by rw [stepG_region]) ?_
  simp only [List.size_toArray, List.length_cons, List.length_nil, Nat.reduceAdd, Nat.zero_add, List.range, List.range.loop]
  refine Fol.go rfl (fun w hk => go_of_goes (goes_oper_k rfl rfl (by k_ne) (fun K hK => by go_simp; refine hK _ _ ⟨rfl, rfl, ?_⟩; exact listed_nil (by simp [go_sem])))) ?_
  refine Fol.go rfl (fun w hk => go_of_goes (goes_oper_k rfl rfl (by k_ne) (fun K hK => by have hcv := run_convert_to_unsafe (P := P) H.underlying_tWgP H.underlying_tUP H.room_tWg (WgLive.cell0 hk.1).choose_spec; have hce := fun es => events_convert_to_unsafe (P := P) H.underlying_tWgP H.underlying_tUP H.room_tWg (WgLive.cell0 hk.1).choose_spec es; go_simp; refine hK _ _ ⟨rfl, rfl, ?_⟩; exact listed_nil (by simp [go_sem, hce])))) ?_
  intro hf w hk
  refine GoesO.stop fun w₁ h₁ => ⟨h1, ?_⟩
  replace hk := hk.rely h₁
  clear h₁
  rcases fol_first (hf w₁ hk) (stepG_markAt (ad := stA Wg) .releaseMerge (by simp) rfl rfl (by k_ne) rfl H.f_relMerge (x_relMerge_n L) (x_relMerge_b L) (x_relMerge_x L) (x_relMerge_f L) (by simp [Act.eval, stA])) with h | h
  · exact h
  · exfalso
    clear hf
    revert h
    walk_nrm
    intro h
    have n0 : ∀ {es : Array Event}, es = #[] → es ≠ #[mk (.releaseMerge (stA Wg))] := by rintro es rfl e; have := congrArg Array.size e; simp at this
    have n1 : #[mk .disable] ≠ #[mk (.releaseMerge (stA Wg))] := by intro e; have := congrArg Array.toList e; simp [mk] at this
    replace h := fol_step h stepG_region_end (n0 rfl)
    replace h := fol_step h stepG_seq (n0 rfl)
    replace h := fol_step h stepG_region (n0 rfl)
    simp only [List.size_toArray, List.length_cons, List.length_nil, Nat.reduceAdd, Nat.zero_add, List.range, List.range.loop] at h
    replace h := fol_step h (stepG_mark0 .disable (by simp) rfl rfl (by k_ne) rfl H.f_disable (x_disable_n L) (x_disable_b L) (x_disable_x L) (x_disable_f L)) n1
    revert h
    walk_nrm
    intro h
    replace h := fol_step h stepG_region_end (n0 rfl)
    replace h := fol_step h stepG_region (n0 rfl)
    simp only [List.size_toArray, List.length_cons, List.length_nil, Nat.reduceAdd, Nat.zero_add, List.range, List.range.loop] at h
    replace h := fol_step h (stepG_defer rfl rfl (by k_ne) rfl) (n0 rfl)
    exact fol_never h stepG_region_end (n0 rfl)
end Go.Sf

/-! The phase, part 15: a worker -/
namespace Go.Sf
open Go Go.Conc Go.Proofs
open Go.ConcN (ShN WgLive PayAt Has)
open Go.ConcR (KK WgAt stA smA rd wr mk Payload)
theorem alloc_size (w : World) (x : Obj) : (w.alloc x).heap.size = w.heap.size + 1 := by
  show (w.heap.push x).size = _
  simp
theorem alloc_lt (w : World) (x : Obj) {b : Nat} (hb : b < w.heap.size) : (w.alloc x).heap[b]? = w.heap[b]? := by
  show (w.heap.push x)[b]? = _
  rw [Array.getElem?_push_lt hb, Array.getElem?_eq_getElem hb]
theorem alloc_last (w : World) (x : Obj) : (w.alloc x).heap[w.heap.size]? = some x := by
  show (w.heap.push x)[w.heap.size]? = _
  simp
theorem set_row {w : World} {nb k : Nat} {cs : Array Value} {e : TypeId} (v : Value) (hN : w.heap[nb]? = some (.cells cs e)) : (w.setCell ⟨nb, k, none⟩ v).heap[nb]? = some (.cells (cs.setIfInBounds k v) e) := by
  rw [setCell_eq_setRow w nb k cs _ (0, 0) _ hN, setRow_heap w nb _ _ _ _ hN]
theorem row_cell {w : World} {nb k : Nat} {cs : Array Value} {e : TypeId} (hN : w.heap[nb]? = some (.cells cs e)) : w.cell? ⟨nb, k, none⟩ = cs[k]? := by simp [World.cell?, hN]
theorem row_free {w : World} {nb k : Nat} {cs : Array Value} {e : TypeId} (hN : w.heap[nb]? = some (.cells cs e)) : w.frozen? ⟨nb, k, none⟩ = false := by simp [World.frozen?, hN]
section
variable {P : Program} {main : Bool} {R : World → World → Prop} {D : World → World → Array Event → Prop} {fn : FuncId} {ops : Array Oper} {nf : Nat}
theorem OpX_call (T : Terms R D) {i : Nat} {a : Act} {w : World} {K : Act → World → Prop} {o : Oper} {f : FuncId} {args : Array Operand} {ats : Array TypeId} {vs : Array Value} {Post : Value → World → Prop}
    (ho : ops[i]? = some o) (hw : Region.wanted o (yielded ops a.tmps) = true) (hop : o.op = .call { callee := .value (.func f), args, argTypes := ats }) (hvs : args.map a.eval = vs)
    (hcall : ∀ w₁, R w w₁ → CallsC P main R D f vs nf w₁ Post) (hnext : ∀ v w'', Post v w'' → K (a.put o.dst v) w'') : OpX P main R D fn nf ops i K a w := by
  unfold OpX
  simp only [ho, hw, if_true]
  intro w₁ h₁
  have hc := hcall w₁ h₁
  obtain ⟨fc, c, hf, hname, hb, hwp⟩ := hc
  have hb' : fc.body.isNone = false := by rw [hb]; rfl
  rw [run_call_body hop hf hname hb', hvs]
  refine ⟨?_, Post, ⟨fc, c, hf, hname, hb, hwp⟩, hnext⟩
  have : listed P fn a o w₁ = #[] := by unfold listed; rw [events_call_body hop hf hname hb']; exact seen_none P _
  rw [this]
  exact T.idle _
theorem OpX_step {i : Nat} {a : Act} {w : World} {K : Act → World → Prop} {o : Oper} (ho : ops[i]? = some o) (hw : Region.wanted o (yielded ops a.tmps) = true)
    (h : ∀ w₁, R w w₁ → ∀ K' : Act → World → Prop, (∀ a' w', D w₁ w' (listed P fn a o w₁) ∧ K a' w' → K' a' w') → uponK o a K' ((execOp a.eval o).run P w₁)) : OpX P main R D fn nf ops i K a w := by
  unfold OpX
  simp only [ho, hw, if_true]
  intro w₁ h₁
  have := h w₁ h₁ (fun a' w' => D w₁ w' (listed P fn a o w₁) ∧ K a' w') (fun _ _ x => x)
  revert this
  generalize (execOp a.eval o).run P w₁ = r
  cases r with
  | ok n w' => cases n <;> first | exact id | exact False.elim
  | halt x w' => exact id
end
/-- what the map answers -/
def Looks (o : Nat → Nat) (x : Value) (id : Int) (hv : Value) (fnd : Bool) (w : World) : Prop :=
  ∀ w₁ : World, w.heap.size ≤ w₁.heap.size → (∀ b, o b ≠ 0 → w₁.heap[b]? = w.heap[b]?) → (Instr.lookup 56 x (.int .i64 id) true).run Try.prog w₁ = .ok (.tuple #[hv, .bool fnd]) w₁ ∧
    ∀ e ∈ (Instr.lookup 56 x (.int .i64 id) true).events Try.prog w₁ #[], ∃ r sy, e = ⟨.obj r, false, sy⟩ ∧ r < w₁.heap.size ∧ o r ≠ 0
theorem Looks.keep {o o' : Nat → Nat} {x hv : Value} {id : Int} {fnd : Bool} {w w₁ : World} (h : Looks o x id hv fnd w) (hs : w.heap.size ≤ w₁.heap.size) (hb : ∀ b, o b ≠ 0 → w₁.heap[b]? = w.heap[b]?) (ho : ∀ b, o b ≠ 0 → o' b ≠ 0) : Looks o' x id hv fnd w₁ := fun w₂ h1 h2 => by
  obtain ⟨h3, h4⟩ := h w₂ (Nat.le_trans hs h1) fun b hb' => (h2 b (ho b hb')).trans (hb b hb')
  exact ⟨h3, fun e he => let ⟨r, sy, e1, e2, e3⟩ := h4 e he; ⟨r, sy, e1, e2, ho r e3⟩⟩
section
variable (ty : TypeId) (Wg C n i bm bs bi bc : Nat) (x : Value) (id sum u q : Int) (base : Option Addr) (cap : Nat) (l : List Int) (fnd : Bool) [Payload]
/-- what a worker knows -/
structure WKm (o : Nat → Nat) (w : World) : Prop where
  om : o bm ≠ 0
  os : o bs ≠ 0
  oi : o bi ≠ 0
  oc : o bc ≠ 0
  low : ∀ b, o b ≠ 0 → b < w.heap.size
  nc : o C = 0
  cw : C ≠ Wg
  mapb : w.cell? ⟨bm, 0, none⟩ = some x
  row : w.cell? ⟨bs, 0, none⟩ = some (.slice (some ⟨C, 0, none⟩) n n)
  ib : w.cell? ⟨bi, 0, none⟩ = some (.int .i64 i)
  c0 : w.cell? ⟨bc, 0, none⟩ = some (.int .i64 id)
  c1 : w.cell? ⟨bc, 1, none⟩ = some (.int .i64 sum)
  look : Looks o x id (.agg #[.int .i64 u, .slice base l.length cap, .int .i64 q]) fnd w
  hb : HB o base l w
  live : WgLive ty Wg w
  pay : PayAt C n w
structure WKn (nb : Nat) (cs0 : Array Value) (o : Nat → Nat) (w : World) : Prop extends WKm ty Wg C n i bm bs bi bc x id sum u q base cap l fnd o w where
  hN : w.heap[nb]? = some (.cells cs0 35)
  nC : nb ≠ C
  nW : nb ≠ Wg
  fresh : o nb = 0
/-- the worker's answer -/
def bad1 : Value := .bool (!fnd || blkSum l != sum)
end
section
variable {ty : TypeId} {Wg C n i bm bs bi bc nb : Nat} {x : Value} {id sum u q : Int} {base : Option Addr} {cap : Nat} {l : List Int} {fnd : Bool} [Payload] {o o' : Nat → Nat} {w w₁ : World}
theorem WKm.keep (h : WKm ty Wg C n i bm bs bi bc x id sum u q base cap l fnd o w) (hs : w.heap.size ≤ w₁.heap.size) (hb : ∀ b, o b ≠ 0 → w₁.heap[b]? = w.heap[b]?) (hl : WgLive ty Wg w₁) (hp : PayAt C n w₁) : WKm ty Wg C n i bm bs bi bc x id sum u q base cap l fnd o w₁ :=
  ⟨h.om, h.os, h.oi, h.oc, fun b hb' => Nat.lt_of_lt_of_le (h.low b hb') hs, h.nc, h.cw, (cell_keep (hb _ h.om)).trans h.mapb, (cell_keep (hb _ h.os)).trans h.row, (cell_keep (hb _ h.oi)).trans h.ib, (cell_keep (hb _ h.oc)).trans h.c0, (cell_keep (hb _ h.oc)).trans h.c1,
    h.look.keep hs hb (fun _ => _root_.id), ⟨fun k hk => let ⟨b, off, e1, e2, e3⟩ := h.hb.get k hk; ⟨b, off, e1, e2, (cell_keep (hb b e2)).trans e3⟩⟩, hl, hp⟩
theorem WKm.rely {ci : Option Nat} (h : WKm ty Wg C n i bm bs bi bc x id sum u q base cap l fnd o w) (r : RO ty Wg C n ci o w w₁) : WKm ty Wg C n i bm bs bi bc x id sum u q base cap l fnd o w₁ := h.keep r.size r.keep (r.live h.live) (r.pay h.pay)
/-- the parts with a new block -/
def own1 (o : Nat → Nat) (nb b : Nat) : Nat := if b = nb then 2 else o b
theorem own1_self : own1 o nb nb = 2 := if_pos rfl
theorem own1_ne {b : Nat} (h : o b ≠ 0) : own1 o nb b ≠ 0 := by unfold own1; split <;> omega
theorem WKn.rely {ci : Option Nat} {row : Array Value} (h : WKn ty Wg C n i bm bs bi bc x id sum u q base cap l fnd nb row o w) (r : RO ty Wg C n ci (own1 o nb) w w₁) : WKn ty Wg C n i bm bs bi bc x id sum u q base cap l fnd nb row o w₁ :=
  ⟨h.toWKm.rely (r.less fun b hb => own1_ne hb), (r.keep nb (by rw [own1_self]; omega)).trans h.hN, h.nC, h.nW, h.fresh⟩
/-- a new block -/
theorem GO.alloc {ci : Option Nat} {s : OSt} {cs : Array Value} {e : TypeId} {es : Array Event} (hp : PayAt C n w) (he : es = #[]) : GO Wg C n ci s ⟨own1 s.o w.heap.size, s.c + 1⟩ w (w.alloc (.cells cs e)) es := by
  subst he
  have hs := alloc_size w (.cells cs e)
  have hk : ∀ b, b < w.heap.size → (w.alloc (.cells cs e)).heap[b]? = w.heap[b]? := fun b hb => alloc_lt w _ hb
  have hC : C < w.heap.size := by obtain ⟨c, h1, _⟩ := hp; exact (Array.getElem?_eq_some_iff.1 h1).1
  refine ⟨rfl, rfl, rfl, by rw [hs]; simp only []; omega, by omega, fun b hb _ _ => hk b hb, fun ⟨c, h1, h2⟩ => ⟨c, (hk C hC).trans h1, h2⟩, fun i _ => cell_keep (hk C hC), fun b h1 h2 => ?_, fun b => ⟨fun h => ?_, fun h => ?_⟩, by simp⟩
  · rcases Nat.lt_or_ge b w.heap.size with h | h
    · rcases h2 with h2 | ⟨c, e', fr, h2⟩
      · omega
      · exact ⟨c, e', fr, (hk b h).trans h2⟩
    · obtain rfl : b = w.heap.size := by omega
      exact ⟨cs, e, (0, 0), alloc_last w _⟩
  · simp only [own1] at h
    split at h
    · exact .inr ⟨by omega, by omega⟩
    · exact .inl h
  · simp only [own1] at h
    split at h
    · exact .inr ⟨by omega, by omega⟩
    · exact .inl h
/-- a write into a block of one's own -/
theorem GO.mine {ci : Option Nat} {s : OSt} {es : Array Event} (hA : Aside nb w w₁) (ho : s.o nb = 2) (hC : nb ≠ C) {cs : Array Value} {e : TypeId} {fr : Nat × Nat} (hN : w₁.heap[nb]? = some (.cells cs e fr)) (he : ∀ e ∈ es, EvO Wg C ci s.o w.heap.size e) : GO Wg C n ci s s w w₁ es := by
  have hk := fun b (hb : b ≠ nb) => hA.block b hb
  refine ⟨hA.tape, hA.os, hA.output, by rw [hA.size], by rw [hA.size]; exact Nat.le_refl _, fun b _ h2 _ => hk b fun e => h2 (e ▸ ho), fun ⟨c, h1, h2⟩ => ⟨c, (hk C (Ne.symm hC)).trans h1, h2⟩, fun i _ => cell_keep (hk C (Ne.symm hC)), fun b h1 h2 => ?_, fun b => ⟨.inl, .inl⟩, fun e hm => ?_⟩
  · by_cases hb : b = nb
    · subst hb; exact ⟨_, _, _, hN⟩
    · rw [hA.size] at h1
      rcases h2 with h2 | ⟨c, e', fr', h2⟩
      · omega
      · exact ⟨c, e', fr', (hk b hb).trans h2⟩
  · rw [hA.size]; exact he e hm
variable {P : Program} {main : Bool} {ci : Option Nat} {Stop : OSt → Goroutine → World → Prop} {m : Nat} {s : OSt}
theorem WKm.alloc (h : WKm ty Wg C n i bm bs bi bc x id sum u q base cap l fnd o w) {cs : Array Value} {e : TypeId} : WKm ty Wg C n i bm bs bi bc x id sum u q base cap l fnd o (w.alloc (.cells cs e)) ∧ o w.heap.size = 0 ∧ w.heap.size ≠ C ∧ w.heap.size ≠ Wg ∧ (w.alloc (.cells cs e)).heap[w.heap.size]? = some (.cells cs e) := by
  have hs := alloc_size w (.cells cs e)
  have hk : ∀ b, b < w.heap.size → (w.alloc (.cells cs e)).heap[b]? = w.heap[b]? := fun b hb => alloc_lt w _ hb
  have hC : C < w.heap.size := by obtain ⟨c, h1, _⟩ := h.pay; exact (Array.getElem?_eq_some_iff.1 h1).1
  have hW : Wg < w.heap.size := by obtain ⟨_, _, h1⟩ := h.live; exact (Array.getElem?_eq_some_iff.1 h1).1
  refine ⟨h.keep (by omega) (fun b hb => hk b (h.low b hb)) (WgLive.of_block h.live (hk _ hW)) (let ⟨c, h1, h2⟩ := h.pay; ⟨c, (hk C hC).trans h1, h2⟩), ?_, by omega, by omega, alloc_last w _⟩
  rcases Nat.eq_zero_or_pos (o w.heap.size) with h1 | h1
  · exact h1
  · have := h.low w.heap.size (by omega)
    omega
theorem WKn.put {row row' : Array Value} (h : WKn ty Wg C n i bm bs bi bc x id sum u q base cap l fnd nb row o w) (hA : Aside nb w w₁) (hN : w₁.heap[nb]? = some (.cells row' 35)) : WKn ty Wg C n i bm bs bi bc x id sum u q base cap l fnd nb row' o w₁ := by
  have hne : ∀ b, o b ≠ 0 → b ≠ nb := fun b hb e => hb (e ▸ h.fresh)
  exact ⟨h.toWKm.keep (by rw [hA.size]; exact Nat.le_refl _) (fun b hb => hA.block b (hne b hb)) (WgLive.of_block h.live (hA.block _ (Ne.symm h.nW))) (let ⟨c, h1, h2⟩ := h.pay; ⟨c, (hA.block C (Ne.symm h.nC)).trans h1, h2⟩), hN, h.nC, h.nW, h.fresh⟩
theorem HB.grow (h : HB o base l w) (ho : ∀ b, o b ≠ 0 → o' b ≠ 0) : HB o' base l w := ⟨fun k hk => let ⟨b, off, e1, e2, e3⟩ := h.get k hk; ⟨b, off, e1, ho b e2, e3⟩⟩
theorem cellAt (h : PayAt C n w) (hi : i < n) : ∃ u, w.cell? ⟨C, i, none⟩ = some u ∧ w.frozen? ⟨C, i, none⟩ = false := by
  obtain ⟨arr, h1, h2⟩ := h
  exact ⟨arr[i]'(by omega), by simp [World.cell?, h1, h2, hi], by simp [World.frozen?, h1]⟩
/-- the write into one's own cell -/
theorem setC (hp : PayAt C n w) (v : Value) : ∃ arr, (w.setCell ⟨C, i, none⟩ v).heap[C]? = some (.cells (arr.setIfInBounds i v) Payload.ety) ∧ w.heap[C]? = some (.cells arr Payload.ety) ∧ arr.size = n := by
  obtain ⟨arr, h1, h2⟩ := hp
  exact ⟨arr, set_row v h1, h1, h2⟩
theorem GO.cell {s : OSt} {es : Array Event} (hp : PayAt C n w) (v : Value) (he : ∀ e ∈ es, e = ⟨.cell ⟨C, i, none⟩, true, false⟩) : GO Wg C n (some i) s s w (w.setCell ⟨C, i, none⟩ v) es := by
  have hA := aside_setCell w ⟨C, i, none⟩ v
  obtain ⟨arr, hb, h1, h2⟩ := setC (i := i) hp v
  refine ⟨hA.tape, hA.os, hA.output, by rw [hA.size], by rw [hA.size]; exact Nat.le_refl _, fun b _ _ h3 => hA.block b fun e => absurd (h3 e) (by simp), fun _ => ⟨_, hb, by simpa using h2⟩, fun i' hi' => ?_, fun b hb1 hb2 => ?_, fun b => ⟨.inl, .inl⟩, fun e hm => ?_⟩
  · have : i' ≠ i := fun e => hi' (by rw [e])
    simp [World.cell?, hb, h1, Array.getElem?_setIfInBounds_ne (Ne.symm this)]
  · by_cases e : b = C
    · subst e; exact ⟨_, _, _, hb⟩
    · rw [hA.size] at hb1
      rcases hb2 with hb2 | ⟨c, e', fr, hb2⟩
      · omega
      · exact ⟨c, e', fr, (hA.block b e).trans hb2⟩
  · rw [he e hm, hA.size]
    exact ⟨(Array.getElem?_eq_some_iff.1 h1).1, .inr (.inr ⟨i, rfl, rfl⟩)⟩
theorem WKn.cell {cs0 : Array Value} (h : WKn ty Wg C n i bm bs bi bc x id sum u q base cap l fnd nb cs0 o w) (hi : i < n) (v : Value) : WKn ty Wg C n i bm bs bi bc x id sum u q base cap l fnd nb cs0 o (w.setCell ⟨C, i, none⟩ v) ∧ Has C i v (w.setCell ⟨C, i, none⟩ v) := by
  have hA := aside_setCell w ⟨C, i, none⟩ v
  obtain ⟨arr, hb, h1, h2⟩ := setC (i := i) h.pay v
  have hne : ∀ b, o b ≠ 0 → b ≠ C := fun b hb e => hb (e ▸ h.nc)
  refine ⟨⟨h.toWKm.keep (by rw [hA.size]; exact Nat.le_refl _) (fun b hb => hA.block b (hne b hb)) (WgLive.of_block h.live (hA.block _ (Ne.symm h.cw))) ⟨_, hb, by simpa using h2⟩, (hA.block _ h.nC).trans h.hN, h.nC, h.nW, h.fresh⟩, ?_⟩
  simp [Has, World.cell?, hb, h2, hi]
/-- a move of control -/
theorem GoesO.ctl {g g' : Goroutine} (hr : g.status = .running) (hs : ∀ w, stepG P main g w = .go g' w #[]) (h : GoesO ty Wg C n P main ci Stop m s g' w) : GoesO ty Wg C n P main ci Stop (m + 1) s g w :=
  GoesO.step hr fun w₁ h₁ => by rw [hs w₁]; exact ⟨s, GO.idle (by simp), h.rely h₁⟩
/-- an operation -/
theorem GoesO.op {b : Frame} {a : Act} {k : List Item} {cs : List Frame} {ops : Array Oper} {j : Nat} {rest : List Nat} {q : Oper} (ho : ops[j]? = some q) (hw : Region.wanted q (yielded ops a.tmps) = true) (hk : b.kind ≠ .early)
    (h : ∀ w₁, RO ty Wg C n ci s.o w w₁ → ∀ K : Act → World → Prop, (∀ a' w', (∃ s', GO Wg C n ci s s' w₁ w' (listed P b.fn a q w₁) ∧ GoesO ty Wg C n P main ci Stop m s' (G (b.at a' (.inRegion ops rest :: k)) cs) w') → K a' w') → uponK q a K ((execOp a.eval q).run P w₁)) :
    GoesO ty Wg C n P main ci Stop (m + 1) s (G (b.at a (.inRegion ops (j :: rest) :: k)) cs) w :=
  GoesO.step rfl fun w₁ h₁ => goes_oper_k ho hw hk fun K hK => h w₁ h₁ K hK
end
/-- the worker's own frames -/
noncomputable def bot : Frame := { (default : Frame) with fn := Try.prog.funcs.size, defers := [], mode := .panicking [goexitEntry] }
def call52 (Wg bm bs bi bc : Nat) : Deferred := { target := .fn (.func 52) #[.pointer (some ⟨Wg, 0, none⟩), .pointer (some ⟨bm, 0, none⟩), .pointer (some ⟨bc, 0, none⟩), .pointer (some ⟨bs, 0, none⟩), .pointer (some ⟨bi, 0, none⟩)], args := #[] }
theorem quitsTail (T : Array Value) : QuitsD Try.prog 2 0 (G { (baseD 52).at ⟨T, []⟩ [] with mode := .returning } [bot]) := by
  refine QuitsD.ctl (g' := G bot []) rfl (fun w => ?_) ?_
  · simp [G, stepG, unwind, doReturn, results, Frame.at, baseD, bot, Try.func52, Try.f52, seen, GStep.after, goexitEntry]
  refine QuitsD.ctl (g' := { G bot [] with status := .finished }) rfl (fun w => ?_) ⟨rfl, rfl⟩
  simp [G, stepG, unwind, bot, goexitEntry, Frame.catches]
  rfl
noncomputable def body52 : Code := Try.f52.body.getD .skip
theorem born_step (main : Bool) (Wg bm bs bi bc : Nat) (w : World) : stepG Try.prog main (born Try.prog (call52 Wg bm bs bi bc)) w =
    .go (G ((baseD 52).at ⟨#[.pointer (some ⟨Wg, 0, none⟩), .pointer (some ⟨bm, 0, none⟩), .pointer (some ⟨bc, 0, none⟩), .pointer (some ⟨bs, 0, none⟩), .pointer (some ⟨bi, 0, none⟩), undef, undef, undef, undef, undef, undef, undef, undef, undef, undef, undef, undef, undef, undef, undef, undef, undef, undef, undef, undef, undef, undef], []⟩ [.code body52]) [bot]) w #[] := by
  simp [born, call52, stepG, unwind, callDeferred, invoke, callFunc, Try.func52, Try.f52, seen, GStep.after, G, Frame.enter, Frame.at, baseD, bot, body52]
section
variable [Payload]
theorem letsO {ty : TypeId} {Wg C n : Nat} {ci : Option Nat} {s : OSt} : LetsDraw (DD ty Wg C n ci s) := fun w => ⟨rfl, rfl, rfl, rfl, Nat.le_refl _, fun _ _ _ _ => rfl, id, fun _ _ => rfl, fun b h1 h2 => h2.elim (fun h => absurd h1 (Nat.not_lt.2 h)) id, fun b => ⟨.inl, .inl⟩, by simp⟩
end
end Go.Sf

/-! The phase, part 16: a worker's drawn region -/
namespace Go.Sf
open Go Go.Conc Go.Proofs
open Go.ConcN (ShN WgLive PayAt Has)
open Go.ConcR (KK WgAt stA smA rd wr mk Payload)
noncomputable def reg52 : Code := match body52 with | .seq _ (.seq _ c) => c | _ => .skip
section
variable [Payload]
set_option maxRecDepth 100000 in
set_option maxHeartbeats 4000000 in
theorem region2 {Wg C n i : Nat} : ∃ N, ∀ {bm bs bi bc nb : Nat} {x : Value} {id sum u q : Int} {base : Option Addr} {cap : Nat} {l : List Int} {fnd : Bool} {s : OSt} {o : Nat → Nat} (_ : s.o = own1 o nb) (_ : i < n) (v7 v8 v9 v10 v11 v12 v13 : Value),
    ∀ w, WKn 91 Wg C n i bm bs bi bc x id sum u q base cap l fnd nb #[.int .i64 u, .slice base l.length cap, .int .i64 q] o w →
      reg52.wpC Try.prog false (RO 91 Wg C n (some i) s.o) (DD 91 Wg C n (some i) s) 52 N (fun e a' w' => e = .normal ∧ a'.defers = [dcall 53 #[.pointer (some ⟨Wg, 0, none⟩)]] ∧ KnD 91 Wg C i (bad1 sum l fnd) w')
        { tmps := #[.pointer (some ⟨Wg, 0, none⟩), .pointer (some ⟨bm, 0, none⟩), .pointer (some ⟨bc, 0, none⟩), .pointer (some ⟨bs, 0, none⟩), .pointer (some ⟨bi, 0, none⟩), .pointer (some ⟨nb, 0, none⟩), .bool fnd, v7, v8, v9, v10, v11, v12, v13, undef, undef, undef, undef, undef, undef, undef, undef, undef, undef, undef, undef, undef], defers := [dcall 53 #[.pointer (some ⟨Wg, 0, none⟩)]] } w := by
  obtain ⟨Nv, hv⟩ := blockSum_c (ty := 91) (Wg := Wg) (C := C) (n := n) (ci := some i)
  refine ⟨14 * (Nv + 3) + 1 + 1, ?_⟩
  intro bm bs bi bc nb x id sum u q base cap l fnd s o ho hi v7 v8 v9 v10 v11 v12 v13 w hF
  have T : Terms (RO 91 Wg C n (some i) s.o) (DD 91 Wg C n (some i) s) := termsO
  have hSR : ∀ w w₁, WKn 91 Wg C n i bm bs bi bc x id sum u q base cap l fnd nb #[.int .i64 u, .slice base l.length cap, .int .i64 q] o w → RO 91 Wg C n (some i) s.o w w₁ → WKn 91 Wg C n i bm bs bi bc x id sum u q base cap l fnd nb #[.int .i64 u, .slice base l.length cap, .int .i64 q] o w₁ := fun w w₁ h r => h.rely (ho ▸ r)
  have hQR : ∀ (a : Act) (x y : World), (Exit.normal = .normal ∧ a.defers = [dcall 53 #[.pointer (some ⟨Wg, 0, none⟩)]] ∧ KnD 91 Wg C i (bad1 sum l fnd) x) → RO 91 Wg C n (some i) s.o x y → (Exit.normal = .normal ∧ a.defers = [dcall 53 #[.pointer (some ⟨Wg, 0, none⟩)]] ∧ KnD 91 Wg C i (bad1 sum l fnd) y) := fun a x y h r => ⟨rfl, h.2.1, h.2.2.rely r⟩
  simp only [reg52, body52, Try.f52, Option.getD_some]
  refine wpC_region_X T letsO (by kernel_rfl) (S := WKn 91 Wg C n i bm bs bi bc x id sum u q base cap l fnd nb #[.int .i64 u, .slice base l.length cap, .int .i64 q] o) fun w₁ h₁ => ?_
  replace hF := hSR _ _ (hSR _ _ hF h₁) (RO.at (w₁.drawn + 1))
  clear h₁
  change WKn 91 Wg C n i bm bs bi bc x id sum u q base cap l fnd nb #[.int .i64 u, .slice base l.length cap, .int .i64 q] o { w₁ with drawn := w₁.drawn + 1 } at hF
  simp only [List.size_toArray, List.length_cons, List.length_nil, Nat.reduceAdd, Nat.zero_add]
  generalize { w₁ with drawn := w₁.drawn + 1 } = w₂ at *
  co_applyP anyX_take T hSR hQR (i := 0) rfl (by kernel_rfl) (by kernel_rfl) (by kernel_rfl) (.inl ⟨by rfl, fun w hw => ⟨run_eq_of ?run1, ?guar1⟩⟩) hF ?rest1
  case run1 =>
    intro K hK
    have hc := hw.row
    go_simp
    exact hK
  case guar1 =>
    have hc := hw.row
    exact DD.load (ty := 91) (hw.row) (by rw [ho]; exact own1_ne hw.os) (by co_evs (simp))
  try walk_nrm
  co_applyP anyX_take T hSR hQR (i := 1) rfl (by kernel_rfl) (by kernel_rfl) (by kernel_rfl) (.inl ⟨by rfl, fun w hw => ⟨run_eq_of ?run2, ?guar2⟩⟩) hF ?rest2
  case run2 =>
    intro K hK
    have hc := hw.ib
    go_simp
    exact hK
  case guar2 =>
    have hc := hw.ib
    exact DD.load (ty := 91) (hw.ib) (by rw [ho]; exact own1_ne hw.oi) (by co_evs (simp))
  try walk_nrm
  co_applyP anyX_take T hSR hQR (i := 2) rfl (by kernel_rfl) (by kernel_rfl) (by kernel_rfl) (.inl ⟨by rfl, fun w hw => ⟨run_eq_of ?run3, ?guar3⟩⟩) hF ?rest3
  case run3 =>
    intro K hK
    go_simp
    exact hK
  case guar3 =>
    rw [listed_nil (by simp [go_sem])]
    exact T.idle _
  try walk_nrm
  co_applyP anyX_take T hSR hQR (i := 3) rfl (by kernel_rfl) (by kernel_rfl) (by kernel_rfl) (.inl ⟨by rfl, fun w hw => ⟨run_eq_of ?run4, ?guar4⟩⟩) hF ?rest4
  case run4 =>
    intro K hK
    go_simp
    exact hK
  case guar4 =>
    rw [listed_nil (by simp [go_sem])]
    exact T.idle _
  try walk_nrm
  co_applyP anyX_take T hSR hQR (i := 4) rfl (by kernel_rfl) (by kernel_rfl) (by kernel_rfl) (.inl ⟨by rfl, fun w hw => ⟨run_eq_of ?run5, ?guar5⟩⟩) hF ?rest5
  case run5 =>
    intro K hK
    go_simp
    exact hK
  case guar5 =>
    rw [listed_nil (by simp [go_sem])]
    exact T.idle _
  try walk_nrm
  cases fnd with
  | true =>
    co_applyP anyX_take T hSR hQR (i := 5) rfl (by kernel_rfl) (by kernel_rfl) (by kernel_rfl) (.inl ⟨by rfl, fun w hw => ⟨run_eq_of ?run7, ?guar7⟩⟩) hF ?rest7
    case run7 =>
      intro K hK
      go_simp
      exact hK
    case guar7 =>
      rw [listed_nil (by simp [go_sem])]
      exact T.idle _
    try walk_nrm
    co_applyP anyX_take T hSR hQR (i := 6) rfl (by kernel_rfl) (by kernel_rfl) (by kernel_rfl) (.inl ⟨by rfl, fun w hw => ⟨run_eq_of ?run8, ?guar8⟩⟩) hF ?rest8
    case run8 =>
      intro K hK
      have hc := row_cell (k := 1) hw.hN
      simp at hc
      go_simp
      exact hK
    case guar8 =>
      have hc := row_cell (k := 1) hw.hN
      simp at hc
      exact DD.load (ty := 91) (row_cell (k := 1) hw.hN) (by rw [ho, own1_self]; decide) (by co_evs (simp))
    try walk_nrm
    co_applyP anyX_take T hSR hQR (i := 8) rfl (by kernel_rfl) (by kernel_rfl) (by kernel_rfl) (.inl ⟨by rfl, fun w hw => ⟨run_eq_of ?run9, ?guar9⟩⟩) hF ?rest9
    case run9 =>
      intro K hK
      go_simp
      exact hK
    case guar9 =>
      rw [listed_nil (by simp [go_sem])]
      exact T.idle _
    try walk_nrm
    co_applyP anyX_take T hSR hQR (i := 9) rfl (by kernel_rfl) (by kernel_rfl) (by kernel_rfl) (.inl ⟨by rfl, fun w hw => ⟨run_eq_of ?run10, ?guar10⟩⟩) hF ?rest10
    case run10 =>
      intro K hK
      have hc := hw.c1
      go_simp
      exact hK
    case guar10 =>
      have hc := hw.c1
      exact DD.load (ty := 91) (hw.c1) (by rw [ho]; exact own1_ne hw.oc) (by co_evs (simp))
    try walk_nrm
    refine anyX_only (i := 7) (by kernel_rfl) (OpX_call T rfl (by rfl) rfl (by simp [Act.eval]) (fun w₃ h₃ => hv _ _ hSR base cap l w₃ ⟨HB.grow (hSR _ _ hF h₃).hb fun b hb => ho ▸ own1_ne hb, hSR _ _ hF h₃⟩) ?_)
    rintro v w₄ ⟨rfl, h₄⟩
    replace hF := h₄.fr
    clear h₄
    refine ⟨hF, ?_⟩
    try walk_nrm
    co_applyP anyX_take T hSR hQR (i := 10) rfl (by kernel_rfl) (by kernel_rfl) (by kernel_rfl) (.inl ⟨by rfl, fun w hw => ⟨run_eq_of ?run11, ?guar11⟩⟩) hF ?rest11
    case run11 =>
      intro K hK
      go_simp
      exact hK
    case guar11 =>
      rw [listed_nil (by simp [go_sem])]
      exact T.idle _
    try walk_nrm
    co_applyP anyX_take T hSR hQR (i := 11) rfl (by kernel_rfl) (by kernel_rfl) (by kernel_rfl) (.inl ⟨by rfl, fun w hw => ⟨run_eq_of ?run12, ?guar12⟩⟩) hF ?rest12
    case run12 =>
      intro K hK
      go_simp
      exact hK
    case guar12 =>
      rw [listed_nil (by simp [go_sem])]
      exact T.idle _
    try walk_nrm
    have hwr : (i : Int) < (n : Int) := by omega
    co_applyP anyX_take T hSR hQR (i := 12) rfl (by kernel_rfl) (by kernel_rfl) (by kernel_rfl) (.inl ⟨by rfl, fun w hw => ⟨run_eq_of ?run6, ?guar6⟩⟩) hF ?rest6
    case run6 =>
      intro K hK
      have hc := hw.row
      go_simp
      exact hK
    case guar6 =>
      have hc := hw.row
      rw [listed_nil (by simp [go_sem, *])]
      exact T.idle _
    try walk_nrm
    refine anyX_only (i := 13) (by kernel_rfl) (OpX_step rfl (by rfl) fun w₃ h₃ K hK => ?_)
    replace hF := hSR _ _ hF h₃
    clear h₃
    obtain ⟨u0, hu1, hu2⟩ := cellAt hF.pay hi
    go_simp
    try (unfold stored; go_simp)
    refine hK _ _ ⟨GO.cell hF.pay _ (by intro e he; have hm := mem_listed he; have hes := fun (v : Bool) w es => events_store Try.prog w es ⟨C, i, none⟩ (.bool v) .plain rfl; simp [go_sem, hes, hu1, hu2] at hm; subst hm; rfl), (hF.cell hi _).1, anyX_done (by kernel_rfl) ⟨rfl, rfl, (hF.cell hi _).1.live, ?_⟩ _⟩
    exact (hF.cell hi _).2
  | false =>
    co_applyP anyX_take T hSR hQR (i := 5) rfl (by kernel_rfl) (by kernel_rfl) (by kernel_rfl) (.inr ⟨by rfl, rfl⟩) hF ?rest14
    try walk_nrm
    co_applyP anyX_take T hSR hQR (i := 6) rfl (by kernel_rfl) (by kernel_rfl) (by kernel_rfl) (.inr ⟨by rfl, rfl⟩) hF ?rest15
    try walk_nrm
    co_applyP anyX_take T hSR hQR (i := 8) rfl (by kernel_rfl) (by kernel_rfl) (by kernel_rfl) (.inr ⟨by rfl, rfl⟩) hF ?rest16
    try walk_nrm
    co_applyP anyX_take T hSR hQR (i := 9) rfl (by kernel_rfl) (by kernel_rfl) (by kernel_rfl) (.inr ⟨by rfl, rfl⟩) hF ?rest17
    try walk_nrm
    co_applyP anyX_take T hSR hQR (i := 7) rfl (by kernel_rfl) (by kernel_rfl) (by kernel_rfl) (.inr ⟨by rfl, rfl⟩) hF ?rest18
    try walk_nrm
    co_applyP anyX_take T hSR hQR (i := 10) rfl (by kernel_rfl) (by kernel_rfl) (by kernel_rfl) (.inr ⟨by rfl, rfl⟩) hF ?rest19
    try walk_nrm
    co_applyP anyX_take T hSR hQR (i := 11) rfl (by kernel_rfl) (by kernel_rfl) (by kernel_rfl) (.inl ⟨by rfl, fun w hw => ⟨run_eq_of ?run20, ?guar20⟩⟩) hF ?rest20
    case run20 =>
      intro K hK
      go_simp
      exact hK
    case guar20 =>
      rw [listed_nil (by simp [go_sem])]
      exact T.idle _
    try walk_nrm
    have hwr : (i : Int) < (n : Int) := by omega
    co_applyP anyX_take T hSR hQR (i := 12) rfl (by kernel_rfl) (by kernel_rfl) (by kernel_rfl) (.inl ⟨by rfl, fun w hw => ⟨run_eq_of ?run13, ?guar13⟩⟩) hF ?rest13
    case run13 =>
      intro K hK
      have hc := hw.row
      go_simp
      exact hK
    case guar13 =>
      have hc := hw.row
      rw [listed_nil (by simp [go_sem, *])]
      exact T.idle _
    try walk_nrm
    refine anyX_only (i := 13) (by kernel_rfl) (OpX_step rfl (by rfl) fun w₃ h₃ K hK => ?_)
    replace hF := hSR _ _ hF h₃
    clear h₃
    obtain ⟨u0, hu1, hu2⟩ := cellAt hF.pay hi
    go_simp
    try (unfold stored; go_simp)
    refine hK _ _ ⟨GO.cell hF.pay _ (by intro e he; have hm := mem_listed he; have hes := fun (v : Bool) w es => events_store Try.prog w es ⟨C, i, none⟩ (.bool v) .plain rfl; simp [go_sem, hes, hu1, hu2] at hm; subst hm; rfl), (hF.cell hi _).1, anyX_done (by kernel_rfl) ⟨rfl, rfl, (hF.cell hi _).1.live, ?_⟩ _⟩
    exact (hF.cell hi _).2
end
end Go.Sf

/-! The phase, part 17: a worker's whole way -/
namespace Go.Sf
open Go Go.Conc Go.Proofs
open Go.ConcN (ShN WgLive PayAt Has)
open Go.ConcR (KK WgAt stA smA rd wr mk Payload)
section
variable [Payload]
set_option maxRecDepth 100000 in
set_option maxHeartbeats 4000000 in
/-- from the birth to the drawn region -/
theorem worker1 {Wg C n i bm bs bi bc : Nat} {x : Value} {id sum u q : Int} {base : Option Addr} {cap : Nat} {l : List Int} {fnd : Bool} {s : OSt} {w : World} (hi : i < n) (hs : s.c = 0)
    (hF : WKm 91 Wg C n i bm bs bi bc x id sum u q base cap l fnd s.o w) : ∃ m, GoesO 91 Wg C n Try.prog false (some i) (AtRel Try.prog 91 Wg C n i (bad1 sum l fnd)) m s (born Try.prog (call52 Wg bm bs bi bc)) w := by
  obtain ⟨N, hN⟩ := region2 (Wg := Wg) (C := C) (n := n) (i := i)
  refine ⟨N + 17 + 18, ?_⟩
  refine GoesO.ctl rfl (born_step false Wg bm bs bi bc) ?_
  simp only [body52, Try.f52, Option.getD_some]
  refine GoesO.ctl rfl (fun _ => stepG_seq) ?_
  refine GoesO.ctl rfl (fun _ => stepG_region) ?_
  simp only [List.size_toArray, List.length_cons, List.length_nil, Nat.reduceAdd, Nat.zero_add, List.range, List.range.loop]
  refine GoesO.ctl rfl (fun _ => stepG_defer rfl rfl (by decide) rfl) ?_
  walk_nrm
  refine GoesO.ctl rfl (fun _ => stepG_region_end) ?_
  refine GoesO.ctl rfl (fun _ => stepG_seq) ?_
  refine GoesO.ctl rfl (fun _ => stepG_region) ?_
  simp only [List.size_toArray, List.length_cons, List.length_nil, Nat.reduceAdd, Nat.zero_add, List.range, List.range.loop]
  refine GoesO.op rfl rfl (by decide) fun w₁ h₁ K hK => ?_
  replace hF := hF.rely h₁
  clear h₁
  have hc := hF.mapb
  go_simp
  refine hK _ _ ⟨_, DD.load (ty := 91) (hF.mapb) hF.om (by co_evs (simp)), ?_⟩
  clear hK K hc
  try walk_nrm
  refine GoesO.op rfl rfl (by decide) fun w₁ h₁ K hK => ?_
  replace hF := hF.rely h₁
  clear h₁
  go_simp
  refine hK _ _ ⟨_, GO.idle (by rw [listed_nil (by simp [go_sem])]; simp), ?_⟩
  clear hK K
  try walk_nrm
  refine GoesO.op rfl rfl (by decide) fun w₁ h₁ K hK => ?_
  replace hF := hF.rely h₁
  clear h₁
  have hc := hF.c0
  go_simp
  refine hK _ _ ⟨_, DD.load (ty := 91) (hF.c0) hF.oc (by co_evs (simp)), ?_⟩
  clear hK K hc
  try walk_nrm
  refine GoesO.op rfl rfl (by decide) fun w₁ h₁ K hK => ?_
  replace hF := hF.rely h₁
  clear h₁
  have hl := hF.look _ (Nat.le_refl _) (fun _ _ => rfl)
  have hc := hl.1
  go_simp
  refine hK _ _ ⟨_, GO.idle fun e he => ?_, ?_⟩
  · have hm := mem_listed he
    simp [go_sem, hc] at hm
    obtain ⟨r, sy, rfl, h1, h2⟩ := hl.2 e hm
    exact ⟨h1, h2, rfl⟩
  clear hK K hc hl
  try walk_nrm
  refine GoesO.op rfl rfl (by decide) fun w₁ h₁ K hK => ?_
  replace hF := hF.rely h₁
  clear h₁
  go_simp
  refine hK _ _ ⟨_, GO.idle (by rw [listed_nil (by simp [go_sem])]; simp), ?_⟩
  clear hK K
  try walk_nrm
  refine GoesO.op rfl rfl (by decide) fun w₁ h₁ K hK => ?_
  replace hF := hF.rely h₁
  clear h₁
  go_simp
  refine hK _ _ ⟨_, GO.idle (by rw [listed_nil (by simp [go_sem])]; simp), ?_⟩
  clear hK K
  try walk_nrm
  refine GoesO.op rfl rfl (by decide) fun w₁ h₁ K hK => ?_
  replace hF := hF.rely h₁
  clear h₁
  go_simp
  refine hK _ _ ⟨_, GO.idle (by rw [listed_nil (by simp [go_sem])]; simp), ?_⟩
  clear hK K
  try walk_nrm
  refine GoesO.op rfl rfl (by decide) fun w₁ h₁ K hK => ?_
  replace hF := hF.rely h₁
  clear h₁
  have hsz := hF.low
  go_simp
  refine hK _ _ ⟨_, GO.alloc hF.pay (listed_nil (by simp [go_sem])), ?_⟩
  clear hK K
  try walk_nrm
  have hA := hF.alloc (cs := #[.int .i64 0, .slice none 0 0, .int .i64 0]) (e := 35)
  clear hsz
  generalize hnb : w₁.heap.size = nb at *
  obtain ⟨hG, hfr, hnC, hnW, hnb1⟩ := hA
  generalize w₁.alloc (.cells #[.int .i64 0, .slice none 0 0, .int .i64 0] 35) = w₂ at *
  clear hF hnb
  have hF : WKn 91 Wg C n i bm bs bi bc x id sum u q base cap l fnd nb #[.int .i64 0, .slice none 0 0, .int .i64 0] s.o w₂ := ⟨hG, hnb1, hnC, hnW, hfr⟩
  clear hG hnb1 hnC hnW hfr
  refine GoesO.op rfl rfl (by decide) fun w₁ h₁ K hK => ?_
  replace hF := hF.rely h₁
  clear h₁
  have hN := hF.hN
  have c0 := row_cell (k := 0) hN
  have z0 := row_free (k := 0) hN
  have hN1 := set_row (k := 0) (.int .i64 u) hN
  have c1 := row_cell (k := 1) hN1
  have z1 := row_free (k := 1) hN1
  have hN2 := set_row (k := 1) (.slice base l.length cap) hN1
  have c2 := row_cell (k := 2) hN2
  have z2 := row_free (k := 2) hN2
  have hN3 := set_row (k := 2) (.int .i64 q) hN2
  have hes := fun w es => events_store Try.prog w es ⟨nb, 1, none⟩ (.slice base l.length cap) .plain rfl
  have hA := ((aside_setCell w₁ ⟨nb, 0, none⟩ (.int .i64 u)).trans (aside_setCell _ ⟨nb, 1, none⟩ (.slice base l.length cap))).trans (aside_setCell _ ⟨nb, 2, none⟩ (.int .i64 q))
  simp at c0 c1 c2 hN3
  have hlt : nb < w₁.heap.size := (Array.getElem?_eq_some_iff.1 hN).1
  go_simp
  refine hK _ _ ⟨_, GO.mine hA own1_self hF.nC hN3 (fun e he => ?_), ?_⟩
  · have hm := mem_listed he
    simp [go_sem, storedEv, stored, c0, z0, c1, z1, c2, z2, hes] at hm
    rcases hm with rfl | rfl | rfl <;> exact ⟨hlt, .inl ⟨nb, rfl, own1_self⟩⟩
  clear hK K
  try walk_nrm
  replace hF := hF.put hA hN3
  clear c0 z0 hN1 c1 z1 hN2 c2 z2 hes hN hlt
  generalize ((w₁.setCell ⟨nb, 0, none⟩ (.int .i64 u)).setCell ⟨nb, 1, none⟩ (.slice base l.length cap)).setCell ⟨nb, 2, none⟩ (.int .i64 q) = w₂ at *
  clear hA hN3
  refine GoesO.op rfl rfl (by decide) fun w₁ h₁ K hK => ?_
  replace hF := hF.rely h₁
  clear h₁
  go_simp
  refine hK _ _ ⟨_, GO.idle (by rw [listed_nil (by simp [go_sem])]; simp), ?_⟩
  clear hK K
  try walk_nrm
  refine GoesO.ctl rfl (fun _ => stepG_region_end) ?_
  have hT : ∀ g w, (∃ T, g = G ((baseD 52).at ⟨T, [dcall 53 #[.pointer (some ⟨Wg, 0, none⟩)]]⟩ []) [bot] ∧ KnD 91 Wg C i (bad1 sum l fnd) w) → GoesO 91 Wg C n Try.prog false (some i) (AtRel Try.prog 91 Wg C n i (bad1 sum l fnd)) 17 ⟨own1 s.o nb, s.c + 1⟩ g w := by
    rintro g w ⟨T, rfl, hk⟩
    refine GoesO.ctl rfl (fun _ => stepG_end) ?_
    refine GoesO.ctl rfl (fun _ => stepG_unwind_enter rfl Try.func53 rfl rfl) ?_
    walk_nrmf Try.f53
    have := doneO (L := Try.link) (P := Try.prog) Try.wgLib (n := n) (s := ⟨own1 s.o nb, s.c + 1⟩) (by simp [hs]) (c := { (baseD 52).at ⟨T, []⟩ [] with mode := .returning }) rfl (quitsTail T) w hk
    exact this
  refine GoesO.of_goes (D := DD 91 Wg C n (some i) ⟨own1 s.o nb, s.c + 1⟩) (fun _ _ _ h => h) hT N _ _ ?_
  have hg := hN (s := ⟨own1 s.o nb, s.c + 1⟩) rfl hi (.tuple #[.agg #[.int .i64 u, .slice base l.length cap, .int .i64 q], .bool fnd]) x (.pointer (some ⟨bc, 0, none⟩)) (.int .i64 id) (.tuple #[.agg #[.int .i64 u, .slice base l.length cap, .int .i64 q], .bool fnd]) (.agg #[.int .i64 u, .slice base l.length cap, .int .i64 q]) (.bool fnd) _ hF (baseD 52) [] [bot] (fun g w => ∃ T, g = G ((baseD 52).at ⟨T, [dcall 53 #[.pointer (some ⟨Wg, 0, none⟩)]]⟩ []) [bot] ∧ KnD 91 Wg C i (bad1 sum l fnd) w) 0 rfl (Go.ConcR.Gen.baseD_kind _) fun e a' w' ⟨e1, e2, e3⟩ => by
    subst e1
    exact fun w₁ h₁ => ⟨a'.tmps, by rw [← e2], e3.rely h₁⟩
  simp only [reg52, body52, Try.f52, Option.getD_some, Nat.zero_add] at hg
  exact hg
end
end Go.Sf
