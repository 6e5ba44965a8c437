/- The program's sync.WaitGroup -/
import Derived.Test.YtphgnbjikgglmaaProg
import Derived.Conc.WgLib
import Derived.KernelRfl
import Derived.Conc.CrowdInv
import Derived.Conc.Beside
import Derived.Conc.CrowdStepC2
import Derived.Conc.CrowdRun
import Derived.Test.YtphgnbjikgglmaaNB
set_option linter.all false
/-! The program's sync.WaitGroup -/
namespace Go.Proofs
abbrev Try.link : Go.Conc.Lib.WgLink := { add := 51, done := 53, wait := 55, relMerge := 66, disable := 67, enable := 68, inBubble := 69, associate := 70, fatal := 71, uOr := 72, uAdd := 73, raceRead := 74, uLoad := 75, uStore := 76, disassociate := 77, semrelease := 78, acquire := 79, isAssociated := 80, uCas := 81, raceWrite := 82, semacquire := 83, orU64 := 87, addU64 := 88, loadU64 := 89, storeU64 := 90, casU64 := 91, tWgP := 99, tUP := 101, tAssoc := 103, tWg := 91, tAU := 88, tU64 := 86, tUint := 107, tU32 := 89, tPU32 := 108, tPAU := 118, tPU64 := 120, tNoCopy := 83, tANoCopy := 84, tAlign64 := 85 }
theorem Try.wgLib : Go.Conc.Lib.WgLib Try.prog Try.link :=
  ⟨Try.func51, Try.func53, Try.func55, Try.func66, Try.func67, Try.func68, Try.func69, Try.func70, Try.func71, Try.func72, Try.func73, Try.func74, Try.func75, Try.func76, Try.func77, Try.func78, Try.func79, Try.func80, Try.func81, Try.func82, Try.func83, Try.func87, Try.func88, Try.func89, Try.func90, Try.func91, Try.underlying99, Try.runUnderlying99, Try.sizeOf99, Try.isAgg99, Try.zeroValue99, Try.underlying101, Try.runUnderlying101, Try.sizeOf101, Try.isAgg101, Try.zeroValue101, Try.underlying103, Try.runUnderlying103, Try.sizeOf103, Try.isAgg103, Try.zeroValue103, Try.underlying91, Try.runUnderlying91, Try.sizeOf91, Try.isAgg91, Try.zeroValue91, Try.underlying88, Try.runUnderlying88, Try.sizeOf88, Try.isAgg88, Try.zeroValue88, Try.underlying86, Try.runUnderlying86, Try.sizeOf86, Try.isAgg86, Try.zeroValue86, Try.underlying107, Try.runUnderlying107, Try.sizeOf107, Try.isAgg107, Try.zeroValue107, Try.underlying89, Try.runUnderlying89, Try.sizeOf89, Try.isAgg89, Try.zeroValue89, Try.underlying108, Try.runUnderlying108, Try.sizeOf108, Try.isAgg108, Try.zeroValue108, Try.underlying118, Try.runUnderlying118, Try.sizeOf118, Try.isAgg118, Try.zeroValue118, Try.underlying120, Try.runUnderlying120, Try.sizeOf120, Try.isAgg120, Try.zeroValue120, Try.underlying0, Try.runUnderlying0, Try.sizeOf0, Try.isAgg0, Try.zeroValue0, Try.underlying3, Try.runUnderlying3, Try.sizeOf3, Try.isAgg3, Try.zeroValue3, Try.underlying4, Try.runUnderlying4, Try.sizeOf4, Try.isAgg4, Try.zeroValue4, Try.underlying9, Try.runUnderlying9, Try.sizeOf9, Try.isAgg9, Try.zeroValue9, Try.underlying20, Try.runUnderlying20, Try.sizeOf20, Try.isAgg20, Try.zeroValue20, Try.underlying21, Try.runUnderlying21, Try.sizeOf21, Try.isAgg21, Try.zeroValue21, (by kernel_rfl), (by kernel_rfl)⟩
end Go.Proofs

/-! The phase, part 1: what a goroutine may count on, and what it may do -/
namespace Go.Sf
open Go Go.Conc
open Go.ConcN (ShN WgLive PayAt Has)
open Go.ConcR (KK WgAt stA smA rd wr mk Payload)
/-- what a goroutine has: 1: a block that stands still, 2: one of its own; and how many blocks it has allotted -/
structure OSt where
  o : Nat → Nat
  c : Nat
/-- the block of a place -/
def blkOf : Loc → Option Nat
  | .cell a => some a.block
  | .obj r => some r
  | _ => none
section
variable (ty : TypeId) (Wg C n : Nat) [Payload]
/-- what the others may have done ahead of a step -/
structure RO (ci : Option Nat) (o : Nat → Nat) (w w₁ : World) : Prop where
  size : w.heap.size ≤ w₁.heap.size
  keep : ∀ b, o b ≠ 0 → w₁.heap[b]? = w.heap[b]?
  live : WgLive ty Wg w → WgLive ty Wg w₁
  pay : PayAt C n w → PayAt C n w₁
  cell : ∀ i, ci = some i → w₁.cell? ⟨C, i, none⟩ = w.cell? ⟨C, i, none⟩
/-- an access that is allowed to who has o, and cell ci of the row -/
def TouchO (ci : Option Nat) (o : Nat → Nat) (l : Loc) (write : Bool) : Prop :=
  (∃ b, blkOf l = some b ∧ o b = 2) ∨ (∃ b, blkOf l = some b ∧ o b ≠ 0 ∧ write = false) ∨ ∃ i, ci = some i ∧ l = .cell ⟨C, i, none⟩
/-- an entry that a private step may list -/
def EvO (ci : Option Nat) (o : Nat → Nat) (N : Nat) (e : Event) : Prop :=
  match e.loc with
  | .cell a => a.block < N ∧ TouchO C ci o (.cell a) e.write
  | .obj r => r < N ∧ o r ≠ 0 ∧ e.write = false
  | .mark (.read a) | .mark (.write a) => a.block = Wg ∧ ci = none
  | _ => False
/-- what a private step may do -/
structure GO (ci : Option Nat) (s s' : OSt) (w w' : World) (es : Array Event) : Prop where
  tape : w'.tape = w.tape
  os : w'.os = w.os
  output : w'.output = w.output
  size : w'.heap.size + s.c = w.heap.size + s'.c
  more : w.heap.size ≤ w'.heap.size
  block : ∀ b, b < w.heap.size → s.o b ≠ 2 → (b = C → ci = none) → w'.heap[b]? = w.heap[b]?
  pay : PayAt C n w → PayAt C n w'
  cells : ∀ i, ci ≠ some i → w'.cell? ⟨C, i, none⟩ = w.cell? ⟨C, i, none⟩
  rows : ∀ b, b < w'.heap.size → (w.heap.size ≤ b ∨ ∃ cs e fr, w.heap[b]? = some (.cells cs e fr)) → ∃ cs e fr, w'.heap[b]? = some (.cells cs e fr)
  own : ∀ b, (s'.o b ≠ 0 → s.o b ≠ 0 ∨ (w.heap.size ≤ b ∧ b < w'.heap.size)) ∧ (s'.o b = 2 → s.o b = 2 ∨ (w.heap.size ≤ b ∧ b < w'.heap.size))
  evs : ∀ e ∈ es, EvO Wg C ci s'.o w'.heap.size e
/-- **a goroutine's own way**, at most m steps to a stop, whatever the others do meanwhile -/
def GoesO (P : Program) (main : Bool) (ci : Option Nat) (Stop : OSt → Goroutine → World → Prop) : Nat → OSt → Goroutine → World → Prop
  | 0, s, g, w => ∀ w₁, RO ty Wg C n ci s.o w w₁ → Stop s g w₁
  | m + 1, s, g, w => (∀ w₁, RO ty Wg C n ci s.o w w₁ → Stop s g w₁) ∨ (g.status = .running ∧ ∀ w₁, RO ty Wg C n ci s.o w w₁ → (stepG P main g w₁).goes fun g' w' es => ∃ s', GO Wg C n ci s s' w₁ w' es ∧ GoesO P main ci Stop m s' g' w')
end
section
variable {ty : TypeId} {Wg C n : Nat} [Payload] {ci : Option Nat} {o : Nat → Nat} {w w₁ w₂ : World}
theorem RO.refl : RO ty Wg C n ci o w w := ⟨Nat.le_refl _, fun _ _ => rfl, id, id, fun _ _ => rfl⟩
theorem RO.trans (h : RO ty Wg C n ci o w w₁) (k : RO ty Wg C n ci o w₁ w₂) : RO ty Wg C n ci o w w₂ :=
  ⟨Nat.le_trans h.size k.size, fun b hb => (k.keep b hb).trans (h.keep b hb), k.live ∘ h.live, k.pay ∘ h.pay, fun i hi => (k.cell i hi).trans (h.cell i hi)⟩
theorem RO.at (d : Nat) : RO ty Wg C n ci o w (w.at d) := ⟨Nat.le_refl _, fun _ _ => rfl, id, id, fun _ _ => rfl⟩
theorem RO.less {o' : Nat → Nat} (h : RO ty Wg C n ci o w w₁) (ho : ∀ b, o' b ≠ 0 → o b ≠ 0) : RO ty Wg C n ci o' w w₁ := ⟨h.size, fun b hb => h.keep b (ho b hb), h.live, h.pay, h.cell⟩
variable {P : Program} {main : Bool} {Stop Stop' : OSt → Goroutine → World → Prop}
theorem GoesO.rely {m : Nat} {s : OSt} {g : Goroutine} (h : GoesO ty Wg C n P main ci Stop m s g w) (hr : RO ty Wg C n ci s.o w w₁) : GoesO ty Wg C n P main ci Stop m s g w₁ := by
  cases m with
  | zero => exact fun w₂ h₂ => h w₂ (hr.trans h₂)
  | succ m =>
    rcases h with h | ⟨hs, h⟩
    · exact .inl fun w₂ h₂ => h w₂ (hr.trans h₂)
    · exact .inr ⟨hs, fun w₂ h₂ => h w₂ (hr.trans h₂)⟩
theorem GoesO.more {m : Nat} {s : OSt} {g : Goroutine} (h : GoesO ty Wg C n P main ci Stop m s g w) : GoesO ty Wg C n P main ci Stop (m + 1) s g w := by
  induction m generalizing s g w with
  | zero => exact .inl h
  | succ m ih =>
    rcases h with h | ⟨hs, h⟩
    · exact .inl h
    · refine .inr ⟨hs, fun w₁ h₁ => ?_⟩
      have := h w₁ h₁
      revert this
      cases stepG P main g w₁ <;> simp only [GStep.goes, imp_self]
      exact fun ⟨s', d, x⟩ => ⟨s', d, ih x⟩
theorem GoesO.mono {m m' : Nat} {s : OSt} {g : Goroutine} (h : GoesO ty Wg C n P main ci Stop m s g w) (hm : m ≤ m') : GoesO ty Wg C n P main ci Stop m' s g w := by
  induction hm with
  | refl => exact h
  | step _ ih => exact ih.more
theorem GoesO.stop {m : Nat} {s : OSt} {g : Goroutine} (h : ∀ w₁, RO ty Wg C n ci s.o w w₁ → Stop s g w₁) : GoesO ty Wg C n P main ci Stop m s g w := by
  cases m with
  | zero => exact h
  | succ m => exact .inl h
theorem GoesO.step {m : Nat} {s : OSt} {g : Goroutine} (hs : g.status = .running) (h : ∀ w₁, RO ty Wg C n ci s.o w w₁ → (stepG P main g w₁).goes fun g' w' es => ∃ s', GO Wg C n ci s s' w₁ w' es ∧ GoesO ty Wg C n P main ci Stop m s' g' w') :
    GoesO ty Wg C n P main ci Stop (m + 1) s g w := .inr ⟨hs, h⟩
theorem goes_cases {s : GStep} {K : Goroutine → World → Array Event → Prop} (h : s.goes K) : ∃ g w es, s = .go g w es ∧ K g w es := by
  cases s <;> first | exact ⟨_, _, _, rfl, h⟩ | exact h.elim
theorem GoesO.cases {m : Nat} {s : OSt} {g : Goroutine} (h : GoesO ty Wg C n P main ci Stop m s g w) : Stop s g w ∨ ∃ m', m = m' + 1 ∧ g.status = .running ∧ ∃ g' w' es s', stepG P main g w = .go g' w' es ∧ GO Wg C n ci s s' w w' es ∧ GoesO ty Wg C n P main ci Stop m' s' g' w' := by
  cases m with
  | zero => exact .inl (h w RO.refl)
  | succ m =>
    rcases h with h | ⟨hs, h⟩
    · exact .inl (h w RO.refl)
    · obtain ⟨g', w', es, e, s', h1, h2⟩ := goes_cases (h w RO.refl)
      exact .inr ⟨m, rfl, hs, g', w', es, s', e, h1, h2⟩
/-- a stretch in which nothing is allotted, told by the kit's word -/
theorem GoesO.of_goes {D : World → World → Array Event → Prop} {St : Goroutine → World → Prop} {s : OSt} {m' : Nat} (hD : ∀ w w' es, D w w' es → GO Wg C n ci s s w w' es) (hS : ∀ g w, St g w → GoesO ty Wg C n P main ci Stop m' s g w) :
    ∀ (m : Nat) (g : Goroutine) (w : World), Goes P main (RO ty Wg C n ci s.o) D St m g w → GoesO ty Wg C n P main ci Stop (m + m') s g w := by
  intro m
  induction m with
  | zero => intro g w h; rw [Nat.zero_add]; exact hS g w (h w RO.refl)
  | succ m ih =>
    intro g w h
    rcases h with h | ⟨hs, h⟩
    · exact (hS g w (h w RO.refl)).mono (by omega)
    · rw [show m + 1 + m' = (m + m') + 1 by omega]
      refine GoesO.step hs fun w₁ h₁ => ?_
      have := h w₁ h₁
      revert this
      cases stepG P main g w₁ <;> simp only [GStep.goes, imp_self]
      exact fun ⟨d, x⟩ => ⟨s, hD _ _ _ d, ih _ _ x⟩
theorem GoesO.weak {m : Nat} {s : OSt} {g : Goroutine} (hS : ∀ s g w, Stop s g w → Stop' s g w) (h : GoesO ty Wg C n P main ci Stop m s g w) : GoesO ty Wg C n P main ci Stop' m s g w := by
  induction m generalizing s g w with
  | zero => exact fun w₁ h₁ => hS _ _ _ (h w₁ h₁)
  | succ m ih =>
    rcases h with h | ⟨hs, h⟩
    · exact .inl fun w₁ h₁ => hS _ _ _ (h w₁ h₁)
    · refine .inr ⟨hs, fun w₁ h₁ => ?_⟩
      have := h w₁ h₁
      revert this
      cases stepG P main g w₁ <;> simp only [GStep.goes, imp_self]
      exact fun ⟨s', d, x⟩ => ⟨s', d, ih x⟩
/-- a step that does nothing to the world -/
theorem GO.idle {s : OSt} {es : Array Event} (he : ∀ e ∈ es, EvO Wg C ci s.o w.heap.size e) : GO Wg C n ci s s w w es :=
  ⟨rfl, rfl, rfl, rfl, Nat.le_refl _, fun _ _ _ _ => rfl, id, fun _ _ => rfl, fun b h1 h2 => h2.elim (fun h => by omega) id, fun b => ⟨.inl, .inl⟩, he⟩
end
end Go.Sf

/-! The phase, part 2: the trace -/
namespace Go.Sf
open Go Go.Conc
open Go.ConcN (ShN PermW RelBy upd upd_same upd_ne fork_knows Deaf_absent)
open Go.ConcR (stA)
/-- the number of the goroutine that plays part r: 0 the starter, i + 1 worker number i -/
def gi (q0 r : Nat) : Nat := if r = 0 then 0 else q0 + r
theorem gi_succ (q0 i : Nat) : gi q0 (i + 1) = q0 + (i + 1) := by simp [gi]
theorem gi_le {q0 r j : Nat} (h : r ≤ j) : gi q0 r ≤ q0 + j := by unfold gi; split <;> omega
/-- what an operation of part r may be -/
def OpO (Wg C q0 j r : Nat) (o : Nat → Nat) (N : Nat) (op : MemOp) : Prop :=
  op.g = gi q0 r ∧ op.act.low N ∧ op.act ≠ .mark (.release (stA Wg)) ∧ ∀ x, op.act.touch? = some x →
    (ShN Wg x.loc ∧ x.kind ≠ .plain ∧ (x.kind = .said → r = 0)) ∨ (∃ b, blkOf x.loc = some b ∧ o b = 2) ∨ (∃ b, blkOf x.loc = some b ∧ o b ≠ 0 ∧ x.write = false) ∨ ∃ i, i < j ∧ r = i + 1 ∧ x.loc = .cell ⟨C, i, none⟩
structure TT (Wg C q0 : Nat) (Sh0 : Loc → Prop) (t : Trace) (j : Nat) (O : Nat → Nat → Nat) (N : Nat) : Prop where
  nr : ∀ said, ¬ Race said t
  low : ∀ op ∈ t, op.act.low N
  quiet : Quiet (ShN Wg) t
  nore : NoRelease (stA Wg) t
  above : ∀ k, q0 + j < k → Deaf t k = 0
  own : ∀ r, r ≤ j → ∀ l b, blkOf l = some b → O r b = 2 → Perm t (gi q0 r) l
  rd : ∀ r, r ≤ j → ∀ l b, blkOf l = some b → O r b ≠ 0 → PermW t (gi q0 r) l
  cell : ∀ i, Perm t (gi q0 (if i < j then i + 1 else 0)) (.cell ⟨C, i, none⟩)
  dj : ∀ r r', r ≤ j → r' ≤ j → r ≠ r' → ∀ b, O r b = 2 → O r' b = 0
  bd : ∀ r, r ≤ j → ∀ b, O r b ≠ 0 → b < N ∧ b ≠ Wg ∧ b ≠ C
  wc : Wg < N ∧ C < N ∧ Wg ≠ C
  known : ∀ i a, touchAt t i = some a → a.loc.isMemory = true → Knows t 0 i ∨ ((Sh0 a.loc ∨ ShN Wg a.loc) ∧ a.kind = .atomic) ∨ ∃ k, k < j ∧ t.g? i = some (q0 + (k + 1))
  over : ∀ i g, t.g? i = some g → g ≠ 0 → t.counts i → (∃ i', t.g? i' = some 0 ∧ HappensBefore t i i') ∨ ∃ k, k < j ∧ g = q0 + (k + 1)
section
variable {Wg C q0 : Nat} {Sh0 : Loc → Prop} {t u : Trace} {j : Nat} {O : Nat → Nat → Nat} {N N' : Nat}
theorem low_blk {m : MemAct} {x : Touch} {b B : Nat} (h : m.low B) (hx : m.touch? = some x) (hb : blkOf x.loc = some b) : b < B := by
  cases m with
  | access e =>
    simp only [MemAct.touch?, Option.some.injEq] at hx
    subst hx
    obtain ⟨loc, wr, sy⟩ := e
    cases loc <;> simp only [blkOf, Option.some.injEq] at hb <;> first | (subst hb; exact h) | cases hb
  | mark mk =>
    cases mk <;> simp only [MemAct.touch?, Option.some.injEq] at hx <;> first
      | (subst hx; simp only [blkOf, Option.some.injEq] at hb; subst hb; exact h)
      | cases hx
  | _ => cases hx
theorem blk_memory {l : Loc} {b : Nat} (h : blkOf l = some b) : l.isMemory = true := by cases l <;> first | rfl | cases h
theorem TT.fresh (h : TT Wg C q0 Sh0 t j O N) {l : Loc} {b : Nat} (hl : blkOf l = some b) (hb : N ≤ b) (g : Nat) : Perm t g l := fun i a ha hal => by
  obtain ⟨x, hx, hxa⟩ := touch_of ha
  have := low_blk (h.low x (Array.mem_of_getElem? hx)) hxa (by rw [hal]; exact hl)
  omega
/-- operations that touch nothing -/
theorem TT.mute (h : TT Wg C q0 Sh0 t j O N) {g : Nat} (hg : g ≤ q0 + j) (hu : ∀ op ∈ u, op.g = g ∧ op.act.touch? = none ∧ op.act.low N ∧ op.act ≠ .mark (.release (stA Wg))) : TT Wg C q0 Sh0 (t ++ u) j O N := by
  have nt : ∀ op ∈ u, ∀ b, op.act.touch? = some b → False := fun op hop b hb => by rw [(hu op hop).2.1] at hb; cases hb
  refine ⟨fun said => noRace_append (h.nr said) (fun op hop => (hu op hop).1) fun i a _ op hop b hb _ => (nt op hop b hb).elim, seen_app h.low fun op hop => (hu op hop).2.2.1, h.quiet.app fun op hop x hx _ => (nt op hop x hx).elim, fun i hi => ?_, fun k hk => by rw [Deaf_other t (by omega) u fun op hop => (hu op hop).1]; exact h.above k hk,
    fun r hr l b hl ho => (h.own r hr l b hl ho).app fun op hop x hx _ => (nt op hop x hx).elim, fun r hr l b hl ho => (h.rd r hr l b hl ho).app fun op hop x hx _ _ => (nt op hop x hx).elim, fun i => (h.cell i).app fun op hop x hx _ => (nt op hop x hx).elim, h.dj, h.bd, h.wc, fun i a ha hm => ?_, fun i g' hg' hne hc => ?_⟩
  · unfold Trace.act? at hi
    obtain ⟨op, ho, hoa⟩ := Option.map_eq_some_iff.1 hi
    rcases getElem?_append_cases ho with ⟨_, ho'⟩ | ⟨_, hou⟩
    · exact h.nore i (by unfold Trace.act?; rw [ho']; exact congrArg some hoa)
    · exact (hu op hou).2.2.2 hoa
  · obtain ⟨x, hx, hxa⟩ := touch_of ha
    rcases getElem?_append_cases hx with ⟨hi, hx'⟩ | ⟨_, hxu⟩
    · rcases h.known i a (by rw [touchAt_of hx']; exact hxa) hm with k | k | ⟨k, k1, k2⟩
      · exact .inl (k.app u)
      · exact .inr (.inl k)
      · exact .inr (.inr ⟨k, k1, by rw [g?_old hi]; exact k2⟩)
    · exact (nt x hxu a hxa).elim
  · obtain ⟨x, hx, _⟩ := hc
    obtain ⟨op, hop, hox⟩ := touch_of hx
    rcases getElem?_append_cases hop with ⟨hi, hop'⟩ | ⟨_, hopu⟩
    · rcases h.over i g' (by simpa [Trace.g?, getElem?_append_old hi] using hg') hne ((counts_old hi).1 ⟨x, hx, ‹_›⟩) with ⟨i', h1, h2⟩ | h1
      · have hjl : i' < t.size := by
          unfold Trace.g? at h1
          obtain ⟨z, hz, _⟩ := Option.map_eq_some_iff.1 h1
          exact lt_size_of_getElem? hz
        exact .inl ⟨i', by simpa [Trace.g?, getElem?_append_old hjl] using h1, hb_app u h2⟩
      · exact .inr h1
    · exact (nt op hopu x hox).elim
/-- operations of part r -/
theorem TT.app (h : TT Wg C q0 Sh0 t j O N) {r : Nat} (hr : r ≤ j) (hN : N ≤ N') {o' : Nat → Nat} (hown : ∀ b, (o' b ≠ 0 → O r b ≠ 0 ∨ (N ≤ b ∧ b < N')) ∧ (o' b = 2 → O r b = 2 ∨ (N ≤ b ∧ b < N')))
    (hu : ∀ op ∈ u, OpO Wg C q0 j r o' N' op) : TT Wg C q0 Sh0 (t ++ u) j (upd O r o') N' := by
  have hbd : ∀ b, o' b ≠ 0 → b < N' ∧ b ≠ Wg ∧ b ≠ C := fun b hb => by
    have h1 := h.wc
    rcases (hown b).1 hb with h2 | h2
    · obtain ⟨h3, h4⟩ := h.bd r hr b h2
      exact ⟨by omega, h4⟩
    · exact ⟨h2.2, by omega, by omega⟩
  -- others have nothing where r may write, and r nothing where others may
  have hoth : ∀ r', r' ≤ j → r' ≠ r → ∀ b, o' b = 2 → O r' b = 0 := fun r' hr' hne b hb => by
    rcases (hown b).2 hb with h2 | h2
    · exact h.dj r r' hr hr' (Ne.symm hne) b h2
    · apply Classical.byContradiction
      intro h3
      have := (h.bd r' hr' b h3).1
      omega
  have hoth2 : ∀ r', r' ≤ j → r' ≠ r → ∀ b, O r' b = 2 → o' b = 0 := fun r' hr' hne b hb => by
    apply Classical.byContradiction
    intro h3
    rcases (hown b).1 h3 with h2 | h2
    · exact h2 (h.dj r' r hr' hr hne b hb)
    · have := (h.bd r' hr' b (by omega)).1
      omega
  have hsh : ∀ {l : Loc} {b : Nat}, blkOf l = some b → ShN Wg l → b = Wg := fun {l b} hl ⟨a, ha, hab⟩ => by
    subst ha
    simp only [blkOf, Option.some.injEq] at hl
    omega
  have hown' : ∀ l b, blkOf l = some b → o' b = 2 → Perm t (gi q0 r) l := fun l b hl hb => by
    rcases (hown b).2 hb with h2 | h2
    · exact h.own r hr l b hl h2
    · exact h.fresh hl h2.1 _
  have hrd' : ∀ l b, blkOf l = some b → o' b ≠ 0 → PermW t (gi q0 r) l := fun l b hl hb => by
    rcases (hown b).1 hb with h2 | h2
    · exact h.rd r hr l b hl h2
    · exact .of (h.fresh hl h2.1 _)
  refine ⟨fun said => noRace_append (h.nr said) (fun op hop => (hu op hop).1) fun i a ha op hop x hx hc => ?_, seen_app (fun op hop => MemAct.low_mono hN (h.low op hop)) fun op hop => (hu op hop).2.1, h.quiet.app fun op hop x hx hs => ?_, fun i hi => ?_, fun k hk => by rw [Deaf_other t (by have := gi_le (q0 := q0) hr; omega) u fun op hop => (hu op hop).1]; exact h.above k hk,
    fun r' hr' l b hl ho => ?_, fun r' hr' l b hl ho => ?_, fun i => (h.cell i).app fun op hop x hx hxl => ?_, fun r1 r2 h1 h2 hne b hb => ?_, fun r' hr' b hb => ?_, ⟨by have := h.wc; omega, by have := h.wc; omega, h.wc.2.2⟩, fun i a ha hm => ?_, fun i g' hg' hne hc => ?_⟩
  · rcases (hu op hop).2.2.2 x hx with ⟨h1, h2, h3⟩ | ⟨b, h1, h2⟩ | ⟨b, h1, h2, h3⟩ | ⟨k, h1, h2, h3⟩
    · exact h.quiet.known h1 h2 (fun e => by rw [h3 e]; rfl) i a ha hc
    · exact hown' x.loc b h1 h2 i a ha hc.1
    · exact hrd' x.loc b h1 h2 i a ha hc.1 (hc.2.2.1.resolve_right (by simp [h3]))
    · have := h.cell k
      rw [if_pos h1, ← h2] at this
      exact this i a ha (hc.1.trans h3)
  · rcases (hu op hop).2.2.2 x hx with ⟨h1, h2, h3⟩ | ⟨b, h1, h2⟩ | ⟨b, h1, h2, h3⟩ | ⟨k, h1, h2, h3⟩
    · exact ⟨h2, fun e => by rw [(hu op hop).1, h3 e]; rfl⟩
    · exact ((hbd b (by omega)).2.1 (hsh h1 hs)).elim
    · exact ((hbd b h2).2.1 (hsh h1 hs)).elim
    · have := hsh (l := x.loc) (b := C) (by rw [h3]; rfl) hs
      exact (h.wc.2.2 this.symm).elim
  · unfold Trace.act? at hi
    obtain ⟨op, ho, hoa⟩ := Option.map_eq_some_iff.1 hi
    rcases getElem?_append_cases ho with ⟨_, ho'⟩ | ⟨_, hou⟩
    · exact h.nore i (by unfold Trace.act?; rw [ho']; exact congrArg some hoa)
    · exact (hu op hou).2.2.1 hoa
  · by_cases e : r' = r
    · subst e
      rw [upd_same] at ho
      exact (hown' l b hl ho).app fun op hop _ _ _ => (hu op hop).1
    · rw [upd_ne O o' e] at ho
      refine (h.own r' hr' l b hl ho).app fun op hop x hx hxl => ?_
      have hz := hoth2 r' hr' e b ho
      exfalso
      rcases (hu op hop).2.2.2 x hx with ⟨h1, h2, h3⟩ | ⟨b', h1, h2⟩ | ⟨b', h1, h2, h3⟩ | ⟨k, h1, h2, h3⟩
      · exact (h.bd r' hr' b (by omega)).2.1 (hsh (by rw [hxl]; exact hl) h1)
      · rw [hxl, hl] at h1
        obtain rfl := Option.some.inj h1
        omega
      · rw [hxl, hl] at h1
        obtain rfl := Option.some.inj h1
        exact h2 hz
      · rw [hxl] at h3
        rw [h3] at hl
        have e2 : C = b := Option.some.inj hl
        exact (h.bd r' hr' b (by omega)).2.2 e2.symm
  · by_cases e : r' = r
    · subst e
      rw [upd_same] at ho
      exact (hrd' l b hl ho).app fun op hop _ _ _ _ => (hu op hop).1
    · rw [upd_ne O o' e] at ho
      refine (h.rd r' hr' l b hl ho).app fun op hop x hx hxl hw => ?_
      exfalso
      rcases (hu op hop).2.2.2 x hx with ⟨h1, h2, h3⟩ | ⟨b', h1, h2⟩ | ⟨b', h1, h2, h3⟩ | ⟨k, h1, h2, h3⟩
      · exact (h.bd r' hr' b ho).2.1 (hsh (by rw [hxl]; exact hl) h1)
      · rw [hxl, hl] at h1
        obtain rfl := Option.some.inj h1
        exact ho (hoth r' hr' e b h2)
      · rw [h3] at hw; cases hw
      · rw [hxl] at h3
        rw [h3] at hl
        have e2 : C = b := Option.some.inj hl
        exact (h.bd r' hr' b ho).2.2 e2.symm
  · -- cells of the row
    rcases (hu op hop).2.2.2 x hx with ⟨h1, h2, h3⟩ | ⟨b', h1, h2⟩ | ⟨b', h1, h2, h3⟩ | ⟨k, h1, h2, h3⟩
    · have := hsh (l := x.loc) (b := C) (by rw [hxl]; rfl) h1
      exact (h.wc.2.2 this.symm).elim
    · rw [hxl] at h1
      obtain rfl : C = b' := Option.some.inj h1
      exact ((hbd C (by omega)).2.2 rfl).elim
    · rw [hxl] at h1
      obtain rfl : C = b' := Option.some.inj h1
      exact ((hbd C h2).2.2 rfl).elim
    · rw [hxl] at h3
      simp only [Loc.cell.injEq, Addr.mk.injEq, and_true, true_and] at h3
      subst h3
      rw [(hu op hop).1, if_pos h1, h2]
  · by_cases e1 : r1 = r
    · subst e1
      rw [upd_same] at hb
      rw [upd_ne O o' (Ne.symm hne)]
      exact hoth r2 h2 (Ne.symm hne) b hb
    · rw [upd_ne O o' e1] at hb
      by_cases e2 : r2 = r
      · subst e2
        rw [upd_same]
        exact hoth2 r1 h1 e1 b hb
      · rw [upd_ne O o' e2]
        exact h.dj r1 r2 h1 h2 hne b hb
  · by_cases e : r' = r
    · subst e
      rw [upd_same] at hb
      exact hbd b hb
    · rw [upd_ne O o' e] at hb
      obtain ⟨h1, h2⟩ := h.bd r' hr' b hb
      exact ⟨by omega, h2⟩
  · obtain ⟨x, hx, hxa⟩ := touch_of ha
    rcases getElem?_append_cases hx with ⟨hi, hx'⟩ | ⟨_, hxu⟩
    · rcases h.known i a (by rw [touchAt_of hx']; exact hxa) hm with k | k | ⟨k, k1, k2⟩
      · exact .inl (k.app u)
      · exact .inr (.inl k)
      · exact .inr (.inr ⟨k, k1, by rw [g?_old hi]; exact k2⟩)
    · have hg := (hu x hxu).1
      cases r with
      | zero =>
        have := knows_own hx
        rw [hg] at this
        exact .inl this
      | succ k => exact .inr (.inr ⟨k, by omega, by unfold Trace.g?; rw [hx]; exact congrArg some (hg.trans (gi_succ q0 k))⟩)
  · obtain ⟨x, hx, _⟩ := hc
    obtain ⟨op, hop, hox⟩ := touch_of hx
    rcases getElem?_append_cases hop with ⟨hi, hop'⟩ | ⟨_, hopu⟩
    · rcases h.over i g' (by simpa [Trace.g?, getElem?_append_old hi] using hg') hne ((counts_old hi).1 ⟨x, hx, ‹_›⟩) with ⟨i', h1, h2⟩ | h1
      · have hjl : i' < t.size := by
          unfold Trace.g? at h1
          obtain ⟨z, hz, _⟩ := Option.map_eq_some_iff.1 h1
          exact lt_size_of_getElem? hz
        exact .inl ⟨i', by simpa [Trace.g?, getElem?_append_old hjl] using h1, hb_app u h2⟩
      · exact .inr h1
    · have hg : op.g = g' := by
        unfold Trace.g? at hg'
        rw [hop] at hg'
        exact Option.some.inj hg'
      rw [(hu op hopu).1] at hg
      cases r with
      | zero => exact (hne hg.symm).elim
      | succ k => exact .inr ⟨k, by omega, by rw [← hg, gi_succ]⟩
end
end Go.Sf

/-! The phase, part 3: a go statement, and the join -/
namespace Go.Sf
open Go Go.Conc
open Go.ConcN (ShN PermW RelBy upd upd_same upd_ne fork_knows Deaf_absent)
open Go.ConcR (stA)
section
variable {Wg C q0 : Nat} {Sh0 : Loc → Prop} {t u : Trace} {j : Nat} {O : Nat → Nat → Nat} {N N' : Nat}
/-- what everybody has once another worker is started -/
def forkO (O : Nat → Nat → Nat) (j : Nat) (o0 oc : Nat → Nat) : Nat → Nat → Nat := fun r => if r = 0 then o0 else if r = j + 1 then oc else O r
theorem TT.deaf_new (h : TT Wg C q0 Sh0 t j O N) : Deaf t (q0 + (j + 1)) = 0 := h.above _ (by omega)
/-- a go statement -/
theorem TT.fork (h : TT Wg C q0 Sh0 t j O N) {x y : MemOp} (hx : x.g = 0 ∧ x.act = .go (q0 + (j + 1))) (hy : y.g = q0 + (j + 1) ∧ y.act = .start) (h0 : Deaf t 0 = 0) {o0 oc : Nat → Nat}
    (ho : ∀ b, (o0 b ≠ 0 → O 0 b ≠ 0) ∧ o0 b ≠ 2) (hc : ∀ b, (oc b ≠ 0 → O 0 b ≠ 0) ∧ oc b ≠ 2) : TT Wg C q0 Sh0 (t ++ #[x, y]) (j + 1) (forkO O j o0 oc) N := by
  have hk : Deaf t (q0 + (j + 1)) = 0 := h.deaf_new
  have nt : ∀ op ∈ #[x, y], ∀ b, op.act.touch? = some b → False := by
    intro op hop b hb
    simp only [List.mem_toArray, List.mem_cons, List.not_mem_nil, or_false] at hop
    rcases hop with rfl | rfl
    · rw [hx.2] at hb; cases hb
    · rw [hy.2] at hb; cases hb
  have old : ∀ {i : Nat} {a : Touch}, touchAt (t ++ #[x, y]) i = some a → touchAt t i = some a := by
    intro i a ha
    obtain ⟨z, hz, hza⟩ := touch_of ha
    rcases getElem?_append_cases hz with ⟨_, hz'⟩ | ⟨_, hzu⟩
    · rw [touchAt_of hz']; exact hza
    · exact (nt z hzu a hza).elim
  have r0 : ∀ r, r ≤ j → r ≠ 0 → forkO O j o0 oc r = O r := fun r h1 h2 => by unfold forkO; rw [if_neg h2, if_neg (by omega)]
  have e0 : forkO O j o0 oc 0 = o0 := rfl
  have e1 : forkO O j o0 oc (j + 1) = oc := by unfold forkO; rw [if_neg (by omega), if_pos rfl]
  have cas : ∀ r, r ≤ j + 1 → r = 0 ∨ r = j + 1 ∨ (r ≤ j ∧ r ≠ 0) := fun r hr => by omega
  refine ⟨fun said => ?_, seen_app h.low fun op hop => ?_, h.quiet.app fun op hop b hb _ => (nt op hop b hb).elim, fun i hi => ?_, fun k' hk' => ?_, fun r hr l b hl hb => ?_, fun r hr l b hl hb => ?_, fun i => ?_, fun r r' h1 h2 hne b hb => ?_, fun r hr b hb => ?_, h.wc, fun i a ha hm => ?_, fun i g' hg' hne hcn => ?_⟩
  · have e : t ++ #[x, y] = (t ++ #[x]) ++ #[y] := by apply Array.ext'; simp
    rw [e]
    refine noRace_append (g := q0 + (j + 1)) (noRace_append (g := 0) (h.nr said) (fun op hop => by simp at hop; rw [hop]; exact hx.1) (fun i a _ op hop b hb _ => (nt op (by simp at hop ⊢; exact .inl hop) b hb).elim))
      (fun op hop => by simp at hop; rw [hop]; exact hy.1) (fun i a _ op hop b hb _ => (nt op (by simp at hop ⊢; exact .inr hop) b hb).elim)
  · simp only [List.mem_toArray, List.mem_cons, List.not_mem_nil, or_false] at hop
    rcases hop with rfl | rfl
    · rw [hx.2]; trivial
    · rw [hy.2]; trivial
  · unfold Trace.act? at hi
    obtain ⟨op, ho', hoa⟩ := Option.map_eq_some_iff.1 hi
    rcases getElem?_append_cases ho' with ⟨_, ho2⟩ | ⟨_, hou⟩
    · exact h.nore i (by unfold Trace.act?; rw [ho2]; exact congrArg some hoa)
    · simp only [List.mem_toArray, List.mem_cons, List.not_mem_nil, or_false] at hou
      rcases hou with rfl | rfl
      · rw [hx.2] at hoa; cases hoa
      · rw [hy.2] at hoa; cases hoa
  · have e : t ++ #[x, y] = (t ++ #[x]) ++ #[y] := by apply Array.ext'; simp
    rw [e, Deaf_other (t ++ #[x]) (g' := q0 + (j + 1)) (by omega) #[y] (fun op hop => by simp at hop; rw [hop]; exact hy.1), Deaf_other t (g' := 0) (by omega) #[x] (fun op hop => by simp at hop; rw [hop]; exact hx.1)]
    exact h.above k' (by omega)
  · rcases cas r hr with rfl | rfl | ⟨h1, h2⟩
    · exact ((ho b).2 hb).elim
    · rw [e1] at hb; exact ((hc b).2 hb).elim
    · rw [r0 r h1 h2] at hb
      exact (h.own r h1 l b hl hb).app fun op hop x hx _ => (nt op hop x hx).elim
  · rcases cas r hr with rfl | rfl | ⟨h1, h2⟩
    · exact (h.rd 0 (Nat.zero_le _) l b hl ((ho b).1 hb)).app fun op hop x hx _ _ => (nt op hop x hx).elim
    · rw [e1] at hb
      rw [gi_succ]
      exact fun i a ha hal hw => fork_knows hx hy h0 hk (h.rd 0 (Nat.zero_le _) l b hl ((hc b).1 hb) i a (old ha) hal hw)
    · rw [r0 r h1 h2] at hb
      exact (h.rd r h1 l b hl hb).app fun op hop x hx _ _ => (nt op hop x hx).elim
  · by_cases hi : i = j
    · subst hi
      rw [if_pos (by omega), gi_succ]
      have := h.cell i
      rw [if_neg (by omega)] at this
      exact fun i' a ha hal => fork_knows hx hy h0 hk (this i' a (old ha) hal)
    · have e : (if i < j + 1 then i + 1 else 0) = if i < j then i + 1 else 0 := by
        by_cases h1 : i < j
        · rw [if_pos h1, if_pos (by omega)]
        · rw [if_neg h1, if_neg (by omega)]
      rw [e]
      exact (h.cell i).app fun op hop x hx _ => (nt op hop x hx).elim
  · rcases cas r h1 with rfl | rfl | ⟨g1, g2⟩
    · exact ((ho b).2 hb).elim
    · rw [e1] at hb; exact ((hc b).2 hb).elim
    · rw [r0 r g1 g2] at hb
      have hz := h.dj r 0 g1 (Nat.zero_le _) g2 b hb
      rcases cas r' h2 with rfl | rfl | ⟨g3, g4⟩
      · apply Classical.byContradiction
        intro hb'
        exact (ho b).1 hb' hz
      · rw [e1]
        apply Classical.byContradiction
        intro hb'
        exact (hc b).1 hb' hz
      · rw [r0 r' g3 g4]
        exact h.dj r r' g1 g3 hne b hb
  · rcases cas r hr with rfl | rfl | ⟨h1, h2⟩
    · exact h.bd 0 (Nat.zero_le _) b ((ho b).1 hb)
    · rw [e1] at hb; exact h.bd 0 (Nat.zero_le _) b ((hc b).1 hb)
    · rw [r0 r h1 h2] at hb; exact h.bd r h1 b hb
  · obtain ⟨z, hz, hza⟩ := touch_of ha
    rcases getElem?_append_cases hz with ⟨hi, hz'⟩ | ⟨_, hzu⟩
    · rcases h.known i a (by rw [touchAt_of hz']; exact hza) hm with k | k | ⟨k, k1, k2⟩
      · exact .inl (k.app _)
      · exact .inr (.inl k)
      · exact .inr (.inr ⟨k, by omega, by rw [g?_old hi]; exact k2⟩)
    · exact (nt z hzu a hza).elim
  · obtain ⟨z, hz, _⟩ := hcn
    obtain ⟨op, hop, hox⟩ := touch_of hz
    rcases getElem?_append_cases hop with ⟨hi, hop'⟩ | ⟨_, hopu⟩
    · rcases h.over i g' (by simpa [Trace.g?, getElem?_append_old hi] using hg') hne ((counts_old hi).1 ⟨z, hz, ‹_›⟩) with ⟨i', h1, h2⟩ | ⟨k, h1, h2⟩
      · have hjl : i' < t.size := by
          unfold Trace.g? at h1
          obtain ⟨z, hz, _⟩ := Option.map_eq_some_iff.1 h1
          exact lt_size_of_getElem? hz
        exact .inl ⟨i', by simpa [Trace.g?, getElem?_append_old hjl] using h1, hb_app _ h2⟩
      · exact .inr ⟨k, by omega, h2⟩
    · exact (nt op hopu z hox).elim
/-- worker k has said its release; what it touches behind is the group alone -/
structure RelW (Wg : Nat) (t : Trace) (k r : Nat) : Prop where
  rel : RelBy (stA Wg) t k r
  after : ∀ i a, r < i → t.g? i = some k → touchAt t i = some a → ShN Wg a.loc
theorem RelW.other {k r g : Nat} (h : RelW Wg t k r) (hu : ∀ op ∈ u, op.g = g) (hg : g ≠ k) : RelW Wg (t ++ u) k r := by
  refine ⟨h.rel.appOther hu hg, fun i a hi hgi ha => ?_⟩
  obtain ⟨x, hx, hxa⟩ := touch_of ha
  rcases getElem?_append_cases hx with ⟨hlt, hx'⟩ | ⟨_, hxu⟩
  · exact h.after i a hi (by rw [← g?_old (u := u) hlt]; exact hgi) (by rw [touchAt_of hx']; exact hxa)
  · unfold Trace.g? at hgi
    rw [hx] at hgi
    have : x.g = k := Option.some.inj hgi
    rw [hu x hxu] at this
    exact (hg this).elim
theorem RelW.own {k r : Nat} (h : RelW Wg t k r) (fn : FuncId) (pos : String) (es : Array Event)
    (hes : ∀ j e, es[j]? = some e → (MemAct.ofEvent e).touch? = none ∨ ((∃ ad wr, e = ⟨.cell ad, wr, true⟩ ∧ ad.block = Wg) ∧ 0 < deafBehind (Deaf t k) (es.extract 0 j))) : RelW Wg (t ++ MemOp.ofEvents k fn pos es) k r := by
  refine ⟨h.rel.appOwn fn pos es fun j e he => (hes j e he).imp id fun ⟨⟨ad, wr, e1, _⟩, e2⟩ => ⟨⟨ad, wr, e1⟩, e2⟩, fun i a hi hgi ha => ?_⟩
  obtain ⟨x, hx, hxa⟩ := touch_of ha
  rcases getElem?_append_cases hx with ⟨hlt, hx'⟩ | ⟨_, hxu⟩
  · exact h.after i a hi (by rw [← g?_old (u := MemOp.ofEvents k fn pos es) hlt]; exact hgi) (by rw [touchAt_of hx']; exact hxa)
  · obtain ⟨e, he, rfl⟩ := Go.Conc.mem_ofEvents hxu
    obtain ⟨jj, hj⟩ := Array.mem_iff_getElem?.1 he
    rcases hes jj e hj with h0 | ⟨⟨ad, wr, rfl, hb⟩, -⟩
    · simp only at hxa; rw [h0] at hxa; cases hxa
    · simp only [MemAct.ofEvent, MemAct.touch?, Option.some.injEq] at hxa
      subst hxa
      exact ⟨ad, rfl, hb⟩
theorem RelW.new {k : Nat} (hd : Deaf t k = 0) (fn : FuncId) (pos : String) : RelW Wg (t ++ MemOp.ofEvents k fn pos #[Go.ConcR.mk (.releaseMerge (stA Wg))]) k t.size := by
  refine ⟨RelBy.new hd fn pos, fun i a hi hgi ha => ?_⟩
  obtain ⟨x, hx, hxa⟩ := touch_of ha
  have := lt_size_of_getElem? hx
  rw [ofEvents_eq] at this
  simp at this
  omega
/-- **the join**: the starter says 'acquire', hearing, behind every worker's release -/
theorem TT.join (h : TT Wg C q0 Sh0 t j O N) (h0 : Deaf t 0 = 0) (hr : ∀ k, k < j → ∃ r, RelW Wg t (q0 + (k + 1)) r) (fn : FuncId) (pos : String) :
    Past (fun l => Sh0 l ∨ ShN Wg l) N (t ++ MemOp.ofEvents 0 fn pos #[Go.ConcR.mk (.acquire (stA Wg))]) := by
  have e1 : MemOp.ofEvents 0 fn pos #[Go.ConcR.mk (.acquire (stA Wg))] = #[{ g := 0, fn, pos, act := .mark (.acquire (stA Wg)) }] := by rw [ofEvents_eq]; simp [Go.ConcR.ofEvent_mk]
  rw [e1]
  have hz : (t ++ #[({ g := 0, fn, pos, act := .mark (.acquire (stA Wg)) } : MemOp)])[t.size]? = some { g := 0, fn, pos, act := .mark (.acquire (stA Wg)) } := by simp
  have nt : ∀ op ∈ #[({ g := 0, fn, pos, act := .mark (.acquire (stA Wg)) } : MemOp)], ∀ b, op.act.touch? = some b → False := by
    intro op hop b hb
    simp at hop
    subst hop
    cases hb
  have nrel : NoRelease (stA Wg) (t ++ #[({ g := 0, fn, pos, act := .mark (.acquire (stA Wg)) } : MemOp)]) := fun i hi => by
    unfold Trace.act? at hi
    obtain ⟨op, ho', hoa⟩ := Option.map_eq_some_iff.1 hi
    rcases getElem?_append_cases ho' with ⟨_, ho2⟩ | ⟨_, hou⟩
    · exact h.nore i (by unfold Trace.act?; rw [ho2]; exact congrArg some hoa)
    · simp at hou
      rw [hou] at hoa
      cases hoa
  have qh : (t ++ #[({ g := 0, fn, pos, act := .mark (.acquire (stA Wg)) } : MemOp)]).heard t.size := ⟨0, by simp [Trace.g?], by rw [deaf_old (Nat.le_refl _)]; exact h0⟩
  have edge : ∀ k r, RelW Wg t k r → HappensBefore (t ++ #[({ g := 0, fn, pos, act := .mark (.acquire (stA Wg)) } : MemOp)]) r t.size := fun k r hr => by
    have hlt : r < t.size := lt_of_act? hr.rel.act
    exact .single (.inr ⟨.marked hlt (.inr (by rw [act?_old hlt]; exact hr.rel.act)) (by rw [act?_of hz]) (fun i _ _ => nrel i), (heard_old hlt).2 hr.rel.heard, qh⟩)
  have upto : ∀ k r i, RelW Wg t k r → t.g? i = some k → i ≤ r → HappensBefore (t ++ #[({ g := 0, fn, pos, act := .mark (.acquire (stA Wg)) } : MemOp)]) i t.size := fun k r i hr hg hi => by
    have hlt : r < t.size := lt_of_act? hr.rel.act
    rcases Nat.lt_or_ge i r with h1 | h1
    · exact .trans (.single (.inl ⟨h1, k, by rw [g?_old (by omega)]; exact hg, by rw [g?_old hlt]; exact hr.rel.g⟩)) (edge k r hr)
    · obtain rfl : i = r := by omega
      exact edge k i hr
  refine ⟨fun said => noRace_append (g := 0) (h.nr said) (fun op hop => by simp at hop; rw [hop]) fun i a _ op hop b hb _ => (nt op hop b hb).elim, fun i a ha hm => ?_, fun i g hg hne hc => ?_, ?_, seen_app h.low fun op hop => ?_⟩
  · obtain ⟨x, hx, hxa⟩ := touch_of ha
    rcases getElem?_append_cases hx with ⟨hi, hx'⟩ | ⟨_, hxu⟩
    · have hat : touchAt t i = some a := by rw [touchAt_of hx']; exact hxa
      rcases h.known i a hat hm with k | k | ⟨k, k1, k2⟩
      · exact .inl (k.app _)
      · exact .inr k
      · obtain ⟨r, hrw⟩ := hr k k1
        rcases Nat.lt_or_ge r i with h1 | h1
        · have hs := hrw.after i a h1 k2 hat
          obtain ⟨q1, q2⟩ := h.quiet i x a hx' hxa hs
          refine .inr ⟨.inr hs, ?_⟩
          cases hk : a.kind with
          | plain => exact (q1 hk).elim
          | atomic => rfl
          | said =>
            have hz := q2 hk
            unfold Trace.g? at k2
            rw [hx'] at k2
            have : x.g = q0 + (k + 1) := Option.some.inj k2
            omega
        · exact .inl ⟨t.size, _, hz, rfl, .inr (upto _ r i hrw k2 h1)⟩
    · exact (nt x hxu a hxa).elim
  · obtain ⟨z, hz', hzz⟩ := hc
    obtain ⟨op, hop, hox⟩ := touch_of hz'
    rcases getElem?_append_cases hop with ⟨hi, hop'⟩ | ⟨_, hopu⟩
    · have hgt : t.g? i = some g := by rw [← g?_old (u := #[({ g := 0, fn, pos, act := .mark (.acquire (stA Wg)) } : MemOp)]) hi]; exact hg
      have hct : t.counts i := (counts_old hi).1 ⟨z, hz', hzz⟩
      rcases h.over i g hgt hne hct with ⟨i', h1, h2⟩ | ⟨k, h1, h2⟩
      · have hjl : i' < t.size := by
          unfold Trace.g? at h1
          obtain ⟨z, hz, _⟩ := Option.map_eq_some_iff.1 h1
          exact lt_size_of_getElem? hz
        exact ⟨i', by rw [g?_old hjl]; exact h1, hb_app _ h2⟩
      · obtain ⟨r, hrw⟩ := hr k h1
        subst h2
        have hle : i ≤ r := Nat.le_of_not_lt fun hlt => hrw.rel.after i hlt hgt hct
        exact ⟨t.size, by simp [Trace.g?], upto _ r i hrw hgt hle⟩
    · exact (nt op hopu z hox).elim
  · rw [← e1, Deaf_own, h0]; rfl
  · simp at hop
    subst hop
    exact h.wc.1
end
end Go.Sf

/-! The phase, part 4: what is asked of the starter and of the workers, and where they may stand -/
namespace Go.Sf
open Go Go.Conc
open Go.ConcN (ShN WgLive PayAt Has RW AtK1 AtD1 AtD2 AtD3 AtD4 AtR0 CTag WD)
open Go.ConcR (KK WgAt stA smA rd wr mk Payload DC0)
variable [Payload]
section
variable (P : Program) (ty : TypeId) (Wg C n : Nat)
/-! ### a worker -/
/-- worker number i stands at its release; its value is in its cell, and it has allotted one block -/
def AtRel (i : Nat) (v : Value) (s : OSt) (g : Goroutine) (w : World) : Prop := s.c = 1 ∧ AtR0 P ty Wg C n 0 (i + 1) v g w
/-- where worker number i may stand: stage, fuel, deafness, what it has -/
inductive WSit (i : Nat) (v : Value) : Nat → Nat → Nat → OSt → Goroutine → World → Prop
  | r0 {m : Nat} {s : OSt} {g : Goroutine} {w : World} : GoesO ty Wg C n P false (some i) (AtRel P ty Wg C n i v) m s g w → WSit i v 7 m 0 s g w
  | k1 {m : Nat} {s : OSt} {g : Goroutine} {w : World} : Goes P false (RW ty Wg C n 0 i) DC0 (AtK1 P ty Wg C n 0 (i + 1)) m g w → WSit i v 6 m 0 s g w
  | d1 {m : Nat} {s : OSt} {g : Goroutine} {w : World} : Goes P false (RW ty Wg C n 0 i) DC0 (AtD1 P ty Wg C n 0 (i + 1)) m g w → WSit i v 5 m 1 s g w
  | d2 {m : Nat} {s : OSt} {g : Goroutine} {w : World} : Goes P false (RW ty Wg C n 0 i) DC0 (AtD2 P ty Wg C n 0 (i + 1)) m g w → WSit i v 4 m 1 s g w
  | d3 {m : Nat} {s : OSt} {g : Goroutine} {w : World} : Goes P false (RW ty Wg C n 0 i) DC0 (AtD3 P ty Wg C n 0 (i + 1)) m g w → WSit i v 3 m 1 s g w
  | d4 {m : Nat} {s : OSt} {g : Goroutine} {w : World} : Goes P false (RW ty Wg C n 0 i) DC0 (AtD4 P ty Wg) m g w → WSit i v 2 m 1 s g w
  | quit {q d : Nat} {s : OSt} {g : Goroutine} {w : World} : QuitsD P q d g → WSit i v 1 q d s g w
/-! ### the starter -/
variable (val : Nat → Value)
/-- what is left to the starter, and what the child is given -/
def Split (s s' sc : OSt) : Prop := s'.c = s.c ∧ sc.c = 0 ∧ (∀ b, (s'.o b ≠ 0 → s.o b ≠ 0) ∧ s'.o b ≠ 2) ∧ ∀ b, (sc.o b ≠ 0 → s.o b ≠ 0) ∧ sc.o b ≠ 2
def AtGoS (j : Nat) (Next : OSt → Goroutine → World → Prop) (s : OSt) (g : Goroutine) (w : World) : Prop :=
  g.status = .running ∧ ∃ g' child s' sc, stepG P true g w = .spawn g' child w #[] ∧ child.status = .running ∧ Split s s' sc ∧ (PayAt C n w → WgLive ty Wg w → ∃ m, GoesO ty Wg C n P false (some j) (AtRel P ty Wg C n j (val j)) m sc child w) ∧ Next s' g' w
def AtKeS (j : Nat) (Next : OSt → Goroutine → World → Prop) (s : OSt) (g : Goroutine) (w : World) : Prop :=
  g.status = .running ∧ ∃ g', stepG P true g w = .go g' w #[mk .enable] ∧ ∃ m, GoesO ty Wg C n P true none (AtGoS P ty Wg C n val j Next) m s g' w
def AtA1 (j : Nat) (Next : OSt → Goroutine → World → Prop) (s : OSt) (g : Goroutine) (w : World) : Prop :=
  g.status = .running ∧ ∀ v : Nat, v < 2147483647 → WgAt ty Wg w (v * KK) 0 →
    ∃ g', stepG P true g w = .go g' (w.setCell (stA Wg) (.int .u64 ((v + 1) * KK))) #[rd (stA Wg), wr (stA Wg)] ∧ ∃ m, GoesO ty Wg C n P true none (AtKeS P ty Wg C n val j Next) m s g' (w.setCell (stA Wg) (.int .u64 ((v + 1) * KK)))
def AtKdS (j : Nat) (Next : OSt → Goroutine → World → Prop) (s : OSt) (g : Goroutine) (w : World) : Prop :=
  g.status = .running ∧ ∃ g', stepG P true g w = .go g' w #[mk .disable] ∧ ∃ m, GoesO ty Wg C n P true none (AtA1 P ty Wg C n val j Next) m s g' w
/-- r workers are still to be started -/
def Spawns (Fin : OSt → Goroutine → World → Prop) : Nat → OSt → Goroutine → World → Prop
  | 0, s, g, w => Fin s g w
  | r + 1, s, g, w => ∃ m, GoesO ty Wg C n P true none (AtKdS P ty Wg C n val (n - (r + 1)) (Spawns Fin r)) m s g w
/-! .. in Wait -/
variable (FinP AnchW : OSt → Goroutine → World → Prop)
def AtAcq (s : OSt) (g : Goroutine) (w : World) : Prop := g.status = .running ∧ ∃ g', stepG P true g w = .go g' w #[mk (.acquire (stA Wg))] ∧ FinP s g' w
def AtKe (s : OSt) (g : Goroutine) (w : World) : Prop := g.status = .running ∧ ∃ g', stepG P true g w = .go g' w #[mk .enable] ∧ ∃ m, GoesO ty Wg C n P true none (AtAcq P Wg FinP) m s g' w
def AtW4 (s : OSt) (g : Goroutine) (w : World) : Prop := g.status = .running ∧ (WgAt ty Wg w 0 0 → ∃ g', stepG P true g w = .go g' w #[rd (stA Wg)] ∧ ∃ m, GoesO ty Wg C n P true none (AtKe P ty Wg C n FinP) m s g' w)
def AtW3 (s : OSt) (g : Goroutine) (w : World) : Prop :=
  g.status = .running ∧ g.offers = none ∧ ((∃ st, WgAt ty Wg w st 0) → stepG P true g w = .go { g with status := .blocked } w #[]) ∧
    (WgAt ty Wg w 0 1 → ∃ g', stepG P true g w = .go g' (w.setCell (smA Wg) (.int .u32 0)) (semEvents (smA Wg)) ∧ ∃ m, GoesO ty Wg C n P true none (AtW4 P ty Wg C n FinP) m s g' (w.setCell (smA Wg) (.int .u32 0)))
def AtW2 (vs : Nat) (s : OSt) (g : Goroutine) (w : World) : Prop :=
  g.status = .running ∧ ∀ v : Nat, v < 2147483648 → WgAt ty Wg w (v * KK) 0 →
    (v = vs → ∃ g', stepG P true g w = .go g' (w.setCell (stA Wg) (.int .u64 (v * KK + 1))) #[rd (stA Wg), wr (stA Wg)] ∧ ∃ m, GoesO ty Wg C n P true none (AtW3 P ty Wg C n FinP) m s g' (w.setCell (stA Wg) (.int .u64 (v * KK + 1)))) ∧
    (v ≠ vs → ∃ g', stepG P true g w = .go g' w #[rd (stA Wg)] ∧ ∃ m, GoesO ty Wg C n P true none AnchW m s g' w)
def AtW1 (s : OSt) (g : Goroutine) (w : World) : Prop :=
  g.status = .running ∧ ∀ v : Nat, v < 2147483648 → WgAt ty Wg w (v * KK) 0 → ∃ g', stepG P true g w = .go g' w #[rd (stA Wg)] ∧
    (v = 0 → ∃ m, GoesO ty Wg C n P true none (AtKe P ty Wg C n FinP) m s g' w) ∧ (v ≠ 0 → ∃ m, GoesO ty Wg C n P true none (AtW2 P ty Wg C n FinP AnchW v) m s g' w)
def AtKd (s : OSt) (g : Goroutine) (w : World) : Prop := g.status = .running ∧ ∃ g', stepG P true g w = .go g' w #[mk .disable] ∧ ∃ m, GoesO ty Wg C n P true none AnchW m s g' w
/-- into Wait, with all blocks allotted -/
def FinS (s : OSt) (g : Goroutine) (w : World) : Prop := ∃ m, GoesO ty Wg C n P true none (AtKd P ty Wg C n AnchW) m s g w
/-- where the starter may stand: tag, how many are started, fuel, deafness, what it has -/
inductive CSit : CTag → Nat → Nat → Nat → OSt → Goroutine → World → Prop
  | skd {r m : Nat} {s : OSt} {g : Goroutine} {w : World} : r < n → GoesO ty Wg C n P true none (AtKdS P ty Wg C n val (n - (r + 1)) (Spawns P ty Wg C n val (FinS P ty Wg C n AnchW) r)) m s g w → CSit (.sp r 5) (n - (r + 1)) m 0 s g w
  | sa1 {r m : Nat} {s : OSt} {g : Goroutine} {w : World} : r < n → GoesO ty Wg C n P true none (AtA1 P ty Wg C n val (n - (r + 1)) (Spawns P ty Wg C n val (FinS P ty Wg C n AnchW) r)) m s g w → CSit (.sp r 4) (n - (r + 1)) m 1 s g w
  | ske {r m : Nat} {s : OSt} {g : Goroutine} {w : World} : r < n → GoesO ty Wg C n P true none (AtKeS P ty Wg C n val (n - (r + 1)) (Spawns P ty Wg C n val (FinS P ty Wg C n AnchW) r)) m s g w → CSit (.sp r 3) (n - (r + 1)) m 1 s g w
  | sgo {r m : Nat} {s : OSt} {g : Goroutine} {w : World} : r < n → GoesO ty Wg C n P true none (AtGoS P ty Wg C n val (n - (r + 1)) (Spawns P ty Wg C n val (FinS P ty Wg C n AnchW) r)) m s g w → CSit (.sp r 2) (n - (r + 1)) m 0 s g w
  | kd {m : Nat} {s : OSt} {g : Goroutine} {w : World} : GoesO ty Wg C n P true none (AtKd P ty Wg C n AnchW) m s g w → CSit .kd n m 0 s g w
  | anch {m : Nat} {s : OSt} {g : Goroutine} {w : World} : GoesO ty Wg C n P true none AnchW m s g w → CSit .anch n m 1 s g w
  | w1 {m : Nat} {s : OSt} {g : Goroutine} {w : World} : GoesO ty Wg C n P true none (AtW1 P ty Wg C n FinP AnchW) m s g w → CSit .w1 n m 1 s g w
  | w2 {vs m : Nat} {s : OSt} {g : Goroutine} {w : World} : GoesO ty Wg C n P true none (AtW2 P ty Wg C n FinP AnchW vs) m s g w → CSit (.w2 vs) n m 1 s g w
  | w3 {m : Nat} {s : OSt} {g : Goroutine} {w : World} : GoesO ty Wg C n P true none (AtW3 P ty Wg C n FinP) m s g w → CSit .w3 n (m + 1) 1 s g w
  | blk {s : OSt} {g : Goroutine} {w : World} : (∀ w₁, RO ty Wg C n none s.o w w₁ → AtW3 P ty Wg C n FinP s g w₁) → CSit .blk n 0 1 s { g with status := .blocked } w
  | w4 {m : Nat} {s : OSt} {g : Goroutine} {w : World} : GoesO ty Wg C n P true none (AtW4 P ty Wg C n FinP) m s g w → CSit .w4 n m 1 s g w
  | ke {m : Nat} {s : OSt} {g : Goroutine} {w : World} : GoesO ty Wg C n P true none (AtKe P ty Wg C n FinP) m s g w → CSit .ke n m 1 s g w
  | acq {m : Nat} {s : OSt} {g : Goroutine} {w : World} : GoesO ty Wg C n P true none (AtAcq P Wg FinP) m s g w → CSit .acq n m 0 s g w
end
section
variable {P : Program} {ty : TypeId} {Wg C n : Nat} {val : Nat → Value} {FinP AnchW : OSt → Goroutine → World → Prop} {w w₁ : World}
theorem GoesO.running {main : Bool} {ci : Option Nat} {Stop : OSt → Goroutine → World → Prop} (hs : ∀ s g w, Stop s g w → g.status = .running) {m : Nat} {s : OSt} {g : Goroutine} (h : GoesO ty Wg C n P main ci Stop m s g w) : g.status = .running := by
  rcases h.cases with h | ⟨_, _, h, _⟩
  · exact hs _ _ _ h
  · exact h
/-- what the others did, told to a worker behind its release -/
theorem RW.of_RO {i : Nat} {o : Nat → Nat} (h : RO ty Wg C n (some i) o w w₁) : RW ty Wg C n 0 i w w₁ := ⟨fun b hb => by omega, h.live, h.pay, h.cell i rfl⟩
theorem WSit.rely {i : Nat} {v : Value} {st m d : Nat} {s : OSt} {g : Goroutine} (h : WSit P ty Wg C n i v st m d s g w) (hr : RO ty Wg C n (some i) s.o w w₁) : WSit P ty Wg C n i v st m d s g w₁ := by
  have tr : ∀ a b c, RW ty Wg C n 0 i a b → RW ty Wg C n 0 i b c → RW ty Wg C n 0 i a c := fun _ _ _ h1 h2 => h1.trans h2
  have hw := RW.of_RO hr
  cases h with
  | r0 h => exact .r0 (h.rely hr)
  | k1 h => exact .k1 (Goes.rely tr h hw)
  | d1 h => exact .d1 (Goes.rely tr h hw)
  | d2 h => exact .d2 (Goes.rely tr h hw)
  | d3 h => exact .d3 (Goes.rely tr h hw)
  | d4 h => exact .d4 (Goes.rely tr h hw)
  | quit h => exact .quit h
theorem WSit.status {i : Nat} {v : Value} {st m d : Nat} {s : OSt} {g : Goroutine} (h : WSit P ty Wg C n i v st m d s g w) : g.status = .running ∨ g.status = .finished := by
  cases h with
  | r0 h => exact .inl (h.running fun _ _ _ x => x.2.1)
  | k1 h => exact .inl (Goes.running (fun _ _ x => x.1) w (RW.of_RO (o := fun _ => 0) RO.refl) h)
  | d1 h => exact .inl (Goes.running (fun _ _ x => x.1) w (RW.of_RO (o := fun _ => 0) RO.refl) h)
  | d2 h => exact .inl (Goes.running (fun _ _ x => x.1) w (RW.of_RO (o := fun _ => 0) RO.refl) h)
  | d3 h => exact .inl (Goes.running (fun _ _ x => x.1) w (RW.of_RO (o := fun _ => 0) RO.refl) h)
  | d4 h => exact .inl (Goes.running (fun _ _ x => x.1) w (RW.of_RO (o := fun _ => 0) RO.refl) h)
  | quit h => exact h.status
theorem WSit.running_of {i : Nat} {v : Value} {st m d : Nat} {s : OSt} {g : Goroutine} (h : WSit P ty Wg C n i v st m d s g w) (hs : st ≠ 1) : g.status = .running := by
  cases h with
  | r0 h => exact h.running fun _ _ _ x => x.2.1
  | k1 h => exact Goes.running (fun _ _ x => x.1) w (RW.of_RO (o := fun _ => 0) RO.refl) h
  | d1 h => exact Goes.running (fun _ _ x => x.1) w (RW.of_RO (o := fun _ => 0) RO.refl) h
  | d2 h => exact Goes.running (fun _ _ x => x.1) w (RW.of_RO (o := fun _ => 0) RO.refl) h
  | d3 h => exact Goes.running (fun _ _ x => x.1) w (RW.of_RO (o := fun _ => 0) RO.refl) h
  | d4 h => exact Goes.running (fun _ _ x => x.1) w (RW.of_RO (o := fun _ => 0) RO.refl) h
  | quit _ => exact absurd rfl hs
theorem WSit.quits {i : Nat} {v : Value} {st m d : Nat} {s : OSt} {g : Goroutine} (h : WSit P ty Wg C n i v st m d s g w) (hs : st = 1) : QuitsD P m d g := by
  cases h <;> first | (exact absurd hs (by decide)) | assumption
theorem WSit.woken {i : Nat} {v : Value} {st m d : Nat} {s : OSt} {g : Goroutine} (h : WSit P ty Wg C n i v st m d s g w) (a a' : Goroutine) (w' : World) : Conc.woken P a a' w' g = g := by
  unfold Go.Conc.woken
  split
  · exact again_running _ h.status
  · rfl
theorem CSit.rely {tag : CTag} {j f d : Nat} {s : OSt} {a : Goroutine} (h : CSit P ty Wg C n val FinP AnchW tag j f d s a w) (hr : RO ty Wg C n none s.o w w₁) : CSit P ty Wg C n val FinP AnchW tag j f d s a w₁ := by
  cases h with
  | skd h1 h => exact .skd h1 (h.rely hr)
  | sa1 h1 h => exact .sa1 h1 (h.rely hr)
  | ske h1 h => exact .ske h1 (h.rely hr)
  | sgo h1 h => exact .sgo h1 (h.rely hr)
  | kd h => exact .kd (h.rely hr)
  | anch h => exact .anch (h.rely hr)
  | w1 h => exact .w1 (h.rely hr)
  | w2 h => exact .w2 (h.rely hr)
  | w3 h => exact .w3 (h.rely hr)
  | blk h => exact .blk fun w₂ h₂ => h w₂ (hr.trans h₂)
  | w4 h => exact .w4 (h.rely hr)
  | ke h => exact .ke (h.rely hr)
  | acq h => exact .acq (h.rely hr)
theorem CSit.status (hAr : ∀ s g w, AnchW s g w → g.status = .running) {tag : CTag} {j f d : Nat} {s : OSt} {a : Goroutine} (h : CSit P ty Wg C n val FinP AnchW tag j f d s a w) : (a.status = .running ∧ tag ≠ .blk) ∨ (a.status = .blocked ∧ tag = .blk) := by
  cases h with
  | skd _ h => exact .inl ⟨h.running fun _ _ _ x => x.1, by simp⟩
  | sa1 _ h => exact .inl ⟨h.running fun _ _ _ x => x.1, by simp⟩
  | ske _ h => exact .inl ⟨h.running fun _ _ _ x => x.1, by simp⟩
  | sgo _ h => exact .inl ⟨h.running fun _ _ _ x => x.1, by simp⟩
  | kd h => exact .inl ⟨h.running fun _ _ _ x => x.1, by simp⟩
  | anch h => exact .inl ⟨h.running hAr, by simp⟩
  | w1 h => exact .inl ⟨h.running fun _ _ _ x => x.1, by simp⟩
  | w2 h => exact .inl ⟨h.running fun _ _ _ x => x.1, by simp⟩
  | w3 h => exact .inl ⟨h.running fun _ _ _ x => x.1, by simp⟩
  | blk h => exact .inr ⟨rfl, rfl⟩
  | w4 h => exact .inl ⟨h.running fun _ _ _ x => x.1, by simp⟩
  | ke h => exact .inl ⟨h.running fun _ _ _ x => x.1, by simp⟩
  | acq h => exact .inl ⟨h.running fun _ _ _ x => x.1, by simp⟩
end
end Go.Sf

/-! The phase, part 5: what holds at every moment -/
namespace Go.Sf
open Go Go.Conc
open Go.ConcN (ShN WgLive PayAt Has RW CTag WD RelBy upd upd_same upd_ne sumTo sumTo_upd get_map_set get_map_set_same Deaf_still)
open Go.ConcR (KK WgAt stA smA rd wr mk Payload Bk g_of_ofEvents)
variable [Payload]
/-- what everybody has, by parts -/
def OO (s0 : OSt) (Os : Nat → OSt) (r : Nat) : Nat → Nat := if r = 0 then s0.o else (Os (r - 1)).o
theorem OO_succ (s0 : OSt) (Os : Nat → OSt) (i : Nat) : OO s0 Os (i + 1) = (Os i).o := rfl
theorem OO_upd (s0 : OSt) (Os : Nat → OSt) (i : Nat) (s : OSt) : OO s0 (upd Os i s) = upd (OO s0 Os) (i + 1) s.o := by
  funext r
  cases r with
  | zero => rw [upd_ne _ _ (by omega)]; rfl
  | succ r =>
    by_cases e : r = i
    · subst e; rw [upd_same, OO_succ, upd_same]
    · rw [upd_ne _ _ (by omega), OO_succ, OO_succ, upd_ne _ _ e]
theorem OO_upd0 (s0 s : OSt) (Os : Nat → OSt) : OO s Os = upd (OO s0 Os) 0 s.o := by
  funext r
  cases r with
  | zero => rw [upd_same]; rfl
  | succ r => rw [upd_ne _ _ (by omega)]; rfl
section
variable (Wg C : Nat)
/-- the world since the phase began -/
structure Kept (w0 w : World) (j : Nat) (s0 : OSt) (Os : Nat → OSt) : Prop where
  tape : w.tape = w0.tape
  os : w.os = w0.os
  output : w.output = w0.output
  more : w0.heap.size ≤ w.heap.size
  base : ∀ b, b < w0.heap.size → b ≠ C → b ≠ Wg → w.heap[b]? = w0.heap[b]?
  rows : ∀ b, w0.heap.size ≤ b → b < w.heap.size → ∃ cs e fr, w.heap[b]? = some (.cells cs e fr)
  low2 : ∀ r, r ≤ j → ∀ b, OO s0 Os r b = 2 → w0.heap.size ≤ b
  cnt : w.heap.size = w0.heap.size + s0.c + sumTo j fun i => (Os i).c
end
section
variable {P : Program} {ty : TypeId} {Wg C n q0 : Nat} {val : Nat → Value} {Sh0 : Loc → Prop} {w0 w w' : World} {j : Nat} {s0 s' : OSt} {Os : Nat → OSt} {t : Trace} {N : Nat}
theorem WgLive.of_block (h : WgLive ty Wg w) (e : w'.heap[Wg]? = w.heap[Wg]?) : WgLive ty Wg w' := let ⟨st, sm, x⟩ := h; ⟨st, sm, e.trans x⟩
/-- a private step, to another part -/
theorem RO.of_GO (hT : TT Wg C q0 Sh0 t j (OO s0 Os) w.heap.size) {r r' : Nat} (hr : r ≤ j) (hr' : r' ≤ j) (hne : r' ≠ r) {ci ci' : Option Nat} (hci : ∀ i, ci' = some i → ci ≠ some i) {s s' : OSt} (hs : s.o = OO s0 Os r) {es : Array Event}
    (h : GO Wg C n ci s s' w w' es) : RO ty Wg C n ci' (OO s0 Os r') w w' := by
  refine ⟨h.more, fun b hb => ?_, fun hl => WgLive.of_block hl ?_, h.pay, fun i hi => h.cells i (hci i hi)⟩
  · obtain ⟨h1, h2, h3⟩ := hT.bd r' hr' b hb
    refine h.block b h1 (fun e => ?_) fun e => (h3 e).elim
    rw [hs] at e
    exact hb (hT.dj r r' hr hr' (Ne.symm hne) b e)
  · refine h.block Wg hT.wc.1 (fun e => ?_) fun e => (hT.wc.2.2 e).elim
    rw [hs] at e
    exact (hT.bd r hr Wg (by omega)).2.1 rfl
/-- a step of the library's bookkeeping, to anybody -/
theorem RO.of_wg {O : Nat → Nat → Nat} (hT : TT Wg C q0 Sh0 t j O w.heap.size) (h : Aside Wg w w') (hl : WgLive ty Wg w') {r' : Nat} (hr' : r' ≤ j) {ci' : Option Nat} : RO ty Wg C n ci' (O r') w w' := by
  have hC : w'.heap[C]? = w.heap[C]? := h.block C (Ne.symm hT.wc.2.2)
  refine ⟨Nat.le_of_eq h.size.symm, fun b hb => h.block b (hT.bd r' hr' b hb).2.1, fun _ => hl, fun ⟨cs, h1, h2⟩ => ⟨cs, hC.trans h1, h2⟩, fun i _ => ?_⟩
  unfold World.cell?
  simp only [hC]
theorem Kept.go (hT : TT Wg C q0 Sh0 t j (OO s0 Os) w.heap.size) (h : Kept Wg C w0 w j s0 Os) {i : Nat} (hi : i < j) {es : Array Event} (hC : C < w0.heap.size) (hg : GO Wg C n (some i) (Os i) s' w w' es) : Kept Wg C w0 w' j s0 (upd Os i s') := by
  refine ⟨hg.tape.trans h.tape, hg.os.trans h.os, hg.output.trans h.output, Nat.le_trans h.more hg.more, fun b h1 h2 h3 => ?_, fun b h1 h2 => ?_, fun r hr b hb => ?_, ?_⟩
  · have hlt : b < w.heap.size := Nat.lt_of_lt_of_le h1 h.more
    refine (hg.block b hlt (fun e => ?_) fun e => (h2 e).elim).trans (h.base b h1 h2 h3)
    have := h.low2 (i + 1) (by omega) b e
    omega
  · refine hg.rows b h2 ?_
    rcases Nat.lt_or_ge b w.heap.size with h3 | h3
    · exact .inr (h.rows b h1 h3)
    · exact .inl h3
  · rw [OO_upd] at hb
    by_cases e : r = i + 1
    · subst e
      rw [upd_same] at hb
      rcases (hg.own b).2 hb with h1 | h1
      · exact h.low2 (i + 1) hr b h1
      · exact Nat.le_trans h.more h1.1
    · rw [upd_ne _ _ e] at hb
      exact h.low2 r hr b hb
  · have e1 := sumTo_upd Os s' OSt.c hi
    have e2 := hg.size
    have e3 := h.cnt
    omega
theorem Kept.go0 (hT : TT Wg C q0 Sh0 t j (OO s0 Os) w.heap.size) (h : Kept Wg C w0 w j s0 Os) {es : Array Event} (hg : GO Wg C n none s0 s' w w' es) : Kept Wg C w0 w' j s' Os := by
  refine ⟨hg.tape.trans h.tape, hg.os.trans h.os, hg.output.trans h.output, Nat.le_trans h.more hg.more, fun b h1 h2 h3 => ?_, fun b h1 h2 => ?_, fun r hr b hb => ?_, ?_⟩
  · have hlt : b < w.heap.size := Nat.lt_of_lt_of_le h1 h.more
    refine (hg.block b hlt (fun e => ?_) fun e => (h2 e).elim).trans (h.base b h1 h2 h3)
    have := h.low2 0 (by omega) b e
    omega
  · refine hg.rows b h2 ?_
    rcases Nat.lt_or_ge b w.heap.size with h3 | h3
    · exact .inr (h.rows b h1 h3)
    · exact .inl h3
  · cases r with
    | zero =>
      rcases (hg.own b).2 hb with h1 | h1
      · exact h.low2 0 hr b h1
      · exact Nat.le_trans h.more h1.1
    | succ r => exact h.low2 (r + 1) hr b hb
  · have e2 := hg.size
    have e3 := h.cnt
    omega
theorem Kept.wg (h : Kept Wg C w0 w j s0 Os) (hg : Aside Wg w w') (hW : Wg < w0.heap.size) : Kept Wg C w0 w' j s0 Os := by
  refine ⟨hg.tape.trans h.tape, hg.os.trans h.os, hg.output.trans h.output, by rw [hg.size]; exact h.more, fun b h1 h2 h3 => (hg.block b h3).trans (h.base b h1 h2 h3), fun b h1 h2 => ?_, h.low2, by rw [hg.size]; exact h.cnt⟩
  rw [hg.size] at h2
  obtain ⟨cs, e, fr, h3⟩ := h.rows b h1 h2
  exact ⟨cs, e, fr, (hg.block b (by omega)).trans h3⟩
/-- the entries of a private step -/
theorem opO_of_EvO {r : Nat} {ci : Option Nat} (hci : ∀ i, ci = some i → i < j ∧ r = i + 1) (h0 : ci = none → r = 0) {o : Nat → Nat} (hW : Wg < N) {fn : FuncId} {pos : String} {es : Array Event} (h : ∀ e ∈ es, EvO Wg C ci o N e) :
    ∀ op ∈ MemOp.ofEvents (gi q0 r) fn pos es, OpO Wg C q0 j r o N op := by
  intro op hop
  obtain ⟨e, he, rfl⟩ := Go.Conc.mem_ofEvents hop
  have := h e he
  obtain ⟨loc, wr, sy⟩ := e
  cases loc with
  | cell a =>
    obtain ⟨h1, h2⟩ := this
    refine ⟨rfl, h1, by simp [MemAct.ofEvent], fun x hx => ?_⟩
    simp only [MemAct.ofEvent, MemAct.touch?, Option.some.injEq] at hx
    subst hx
    rcases h2 with h2 | h2 | ⟨i, h2, h3⟩
    · exact .inr (.inl h2)
    · exact .inr (.inr (.inl h2))
    · exact .inr (.inr (.inr ⟨i, (hci i h2).1, (hci i h2).2, h3⟩))
  | obj b =>
    obtain ⟨h1, h2, h3⟩ := this
    simp only at h3
    subst h3
    refine ⟨rfl, h1, by simp [MemAct.ofEvent], fun x hx => ?_⟩
    simp only [MemAct.ofEvent, MemAct.touch?, Option.some.injEq] at hx
    subst hx
    exact .inr (.inr (.inl ⟨b, rfl, h2, rfl⟩))
  | mark m =>
    cases m with
    | read a =>
      obtain ⟨h1, h2⟩ := this
      refine ⟨rfl, by show a.block < N; omega, by simp [MemAct.ofEvent], fun x hx => ?_⟩
      simp only [MemAct.ofEvent, MemAct.touch?, Option.some.injEq] at hx
      subst hx
      exact .inl ⟨⟨a, rfl, h1⟩, by simp, fun _ => h0 h2⟩
    | write a =>
      obtain ⟨h1, h2⟩ := this
      refine ⟨rfl, by show a.block < N; omega, by simp [MemAct.ofEvent], fun x hx => ?_⟩
      simp only [MemAct.ofEvent, MemAct.touch?, Option.some.injEq] at hx
      subst hx
      exact .inl ⟨⟨a, rfl, h1⟩, by simp, fun _ => h0 h2⟩
    | _ => exact this.elim
  | _ => exact this.elim
/-- .. of the library's bookkeeping; of a word on the group -/
theorem opO_of_Bk {r : Nat} {o : Nat → Nat} (hW : Wg < N) {fn : FuncId} {pos : String} {es : Array Event} (h : ∀ e ∈ es, Bk Wg e ∨ e.loc = .mark (.releaseMerge (stA Wg)) ∨ e.loc = .mark (.acquire (stA Wg))) :
    ∀ op ∈ MemOp.ofEvents (gi q0 r) fn pos es, OpO Wg C q0 j r o N op := by
  intro op hop
  obtain ⟨e, he, rfl⟩ := Go.Conc.mem_ofEvents hop
  rcases h e he with (h1 | h1 | ⟨a, wr', rfl, h1⟩) | h1 | h1
  · rw [Go.ConcR.ofEvent_loc_mark h1]
    exact ⟨rfl, trivial, by simp, fun x hx => by cases hx⟩
  · rw [Go.ConcR.ofEvent_loc_mark h1]
    exact ⟨rfl, trivial, by simp, fun x hx => by cases hx⟩
  · refine ⟨rfl, by show a.block < N; omega, by simp [MemAct.ofEvent], fun x hx => ?_⟩
    simp only [MemAct.ofEvent, MemAct.touch?, Option.some.injEq] at hx
    subst hx
    exact .inl ⟨⟨a, rfl, h1⟩, by simp, by simp⟩
  · rw [Go.ConcR.ofEvent_loc_mark h1]
    exact ⟨rfl, hW, by simp, fun x hx => by cases hx⟩
  · rw [Go.ConcR.ofEvent_loc_mark h1]
    exact ⟨rfl, hW, by simp, fun x hx => by cases hx⟩
end
section
variable (P : Program) (ty : TypeId) (Wg C n q0 : Nat) (val : Nat → Value) (Sh0 : Loc → Prop) (w0 : World)
structure Com (j : Nat) (gs : Array Goroutine) (w : World) (t : Trace) (D : Nat → WD) (Os : Nat → OSt) (s0 : OSt) (d0 : Nat) (q : Nat → Nat) : Prop where
  size : gs.size = q0 + j + 1
  wk : ∀ i, i < j → ∃ g, gs[q0 + (i + 1)]? = some g ∧ WSit P ty Wg C n i (val i) (D i).stage (D i).fuel (D i).deaf (Os i) g w
  old : ∀ i g, 0 < i → i ≤ q0 → gs[i]? = some g → QuitsD P (q i) (Deaf t i) g
  tt : TT Wg C q0 Sh0 t j (OO s0 Os) w.heap.size
  deaf0 : Deaf t 0 = d0
  deafW : ∀ i, i < j → Deaf t (q0 + (i + 1)) = (D i).deaf
  rel : ∀ i, i < j → (D i).stage ≤ 6 → ∃ r, RelW Wg t (q0 + (i + 1)) r
  has : ∀ i, i < j → (D i).stage ≤ 6 → Has C i (val i) w
  one : ∀ i, i < j → (D i).stage ≤ 6 → (Os i).c = 1
  pay : PayAt C n w
  kept : Kept Wg C w0 w j s0 Os
  low : Wg < w0.heap.size ∧ C < w0.heap.size
end
section
variable {P : Program} {ty : TypeId} {Wg C n q0 : Nat} {val : Nat → Value} {Sh0 : Loc → Prop} {w0 w w' : World} {j : Nat} {gs : Array Goroutine} {t : Trace} {D : Nat → WD} {Os : Nat → OSt} {s0 s' : OSt} {d0 : Nat} {q : Nat → Nat}
theorem Com.at (h : Com P ty Wg C n q0 val Sh0 w0 j gs w t D Os s0 d0 q) (d : Nat) : Com P ty Wg C n q0 val Sh0 w0 j gs (w.at d) t D Os s0 d0 q :=
  ⟨h.size, fun i hi => let ⟨g, hg, hs⟩ := h.wk i hi; ⟨g, hg, hs.rely (RO.at d)⟩, h.old, h.tt, h.deaf0, h.deafW, h.rel, h.has, h.one, h.pay, ⟨h.kept.tape, h.kept.os, h.kept.output, h.kept.more, h.kept.base, h.kept.rows, h.kept.low2, h.kept.cnt⟩, h.low⟩
/-- a step of worker number i -/
theorem Com.stepW (h : Com P ty Wg C n q0 val Sh0 w0 j gs w t D Os s0 d0 q) {i : Nat} (hi : i < j) {g g' : Goroutine} {fn : FuncId} {pos : String} {es : Array Event} {d' : WD}
    (hro : ∀ i', i' < j → i' ≠ i → RO ty Wg C n (some i') (Os i').o w w') (hs' : WSit P ty Wg C n i (val i) d'.stage d'.fuel d'.deaf s' g' w')
    (hown : ∀ b, (s'.o b ≠ 0 → (Os i).o b ≠ 0 ∨ (w.heap.size ≤ b ∧ b < w'.heap.size)) ∧ (s'.o b = 2 → (Os i).o b = 2 ∨ (w.heap.size ≤ b ∧ b < w'.heap.size))) (hsz : w.heap.size ≤ w'.heap.size)
    (hops : ∀ op ∈ MemOp.ofEvents (q0 + (i + 1)) fn pos es, OpO Wg C q0 j (i + 1) s'.o w'.heap.size op) (hdeaf : deafBehind (D i).deaf es = d'.deaf)
    (hrel : d'.stage ≤ 6 → ∃ r, RelW Wg (t ++ MemOp.ofEvents (q0 + (i + 1)) fn pos es) (q0 + (i + 1)) r) (hhas : d'.stage ≤ 6 → Has C i (val i) w') (hone : d'.stage ≤ 6 → s'.c = 1) (hpay : PayAt C n w') (hk : Kept Wg C w0 w' j s0 (upd Os i s')) :
    Com P ty Wg C n q0 val Sh0 w0 j ((gs.map (woken P g g' w')).setIfInBounds (q0 + (i + 1)) g') w' (t ++ MemOp.ofEvents (q0 + (i + 1)) fn pos es) (upd D i d') (upd Os i s') s0 d0 q := by
  have hu : ∀ op ∈ MemOp.ofEvents (q0 + (i + 1)) fn pos es, op.g = q0 + (i + 1) := g_of_ofEvents
  refine ⟨by simp [h.size], fun i' hi' => ?_, fun k x h1 h2 hx => ?_, ?_, by rw [Deaf_other t (by omega) _ hu, h.deaf0], fun i' hi' => ?_, fun i' hi' hst => ?_, fun i' hi' hst => ?_, fun i' hi' hst => ?_, hpay, hk, h.low⟩
  · by_cases e : i' = i
    · subst e
      exact ⟨g', get_map_set_same _ _ _ (by rw [h.size]; omega), by rw [upd_same, upd_same]; exact hs'⟩
    · obtain ⟨x, hx, hsx⟩ := h.wk i' hi'
      refine ⟨x, by rw [get_map_set _ _ _ _ (by omega), hx, Option.map_some, hsx.woken], ?_⟩
      rw [upd_ne D _ e, upd_ne Os _ e]
      exact hsx.rely (hro i' hi' e)
  · rw [get_map_set _ _ _ _ (by omega)] at hx
    obtain ⟨y, hy, rfl⟩ := Option.map_eq_some_iff.1 hx
    have hq := h.old k y h1 h2 hy
    rw [woken_quitsD hq, Deaf_other t (by omega) _ hu]
    exact hq
  · rw [OO_upd]
    exact h.tt.app (by omega) hsz hown hops
  · by_cases e : i' = i
    · subst e; rw [Deaf_own, h.deafW i' hi', upd_same]; exact hdeaf
    · rw [Deaf_other t (by omega) _ hu, h.deafW i' hi', upd_ne D _ e]
  · by_cases e : i' = i
    · subst e; rw [upd_same] at hst; exact hrel hst
    · rw [upd_ne D _ e] at hst
      obtain ⟨r, hr⟩ := h.rel i' hi' hst
      exact ⟨r, hr.other hu (by omega)⟩
  · by_cases e : i' = i
    · subst e; rw [upd_same] at hst; exact hhas hst
    · rw [upd_ne D _ e] at hst
      exact ((hro i' hi' e).cell i' rfl).trans (h.has i' hi' hst)
  · by_cases e : i' = i
    · subst e; rw [upd_same] at hst ⊢; exact hone hst
    · rw [upd_ne D _ e] at hst
      rw [upd_ne Os _ e]
      exact h.one i' hi' hst
/-- a step of the starter's -/
theorem Com.step0 (h : Com P ty Wg C n q0 val Sh0 w0 j gs w t D Os s0 d0 q) {a a' : Goroutine} {fn : FuncId} {pos : String} {es : Array Event}
    (hro : ∀ i, i < j → RO ty Wg C n (some i) (Os i).o w w') (hown : ∀ b, (s'.o b ≠ 0 → s0.o b ≠ 0 ∨ (w.heap.size ≤ b ∧ b < w'.heap.size)) ∧ (s'.o b = 2 → s0.o b = 2 ∨ (w.heap.size ≤ b ∧ b < w'.heap.size))) (hsz : w.heap.size ≤ w'.heap.size)
    (hops : ∀ op ∈ MemOp.ofEvents 0 fn pos es, OpO Wg C q0 j 0 s'.o w'.heap.size op) (hpay : PayAt C n w') (hk : Kept Wg C w0 w' j s' Os) :
    Com P ty Wg C n q0 val Sh0 w0 j ((gs.map (woken P a a' w')).setIfInBounds 0 a') w' (t ++ MemOp.ofEvents 0 fn pos es) D Os s' (deafBehind d0 es) q := by
  have hu : ∀ op ∈ MemOp.ofEvents 0 fn pos es, op.g = 0 := g_of_ofEvents
  refine ⟨by simp [h.size], fun i hi => ?_, fun k x h1 h2 hx => ?_, ?_, by rw [Deaf_own, h.deaf0], fun i hi => by rw [Deaf_other t (by omega) _ hu, h.deafW i hi], fun i hi hst => ?_, fun i hi hst => ((hro i hi).cell i rfl).trans (h.has i hi hst), h.one, hpay, hk, h.low⟩
  · obtain ⟨x, hx, hsx⟩ := h.wk i hi
    exact ⟨x, by rw [get_map_set _ _ _ _ (by omega), hx, Option.map_some, hsx.woken], hsx.rely (hro i hi)⟩
  · rw [get_map_set _ _ _ _ (by omega)] at hx
    obtain ⟨y, hy, rfl⟩ := Option.map_eq_some_iff.1 hx
    have hq := h.old k y h1 h2 hy
    rw [woken_quitsD hq, Deaf_other t (by omega) _ hu]
    exact hq
  · rw [OO_upd0 s0]
    exact h.tt.app (by omega) hsz hown hops
  · obtain ⟨r, hr⟩ := h.rel i hi hst
    exact ⟨r, hr.other hu (by omega)⟩
/-- a step of somebody who only leaves -/
theorem Com.stepL (h : Com P ty Wg C n q0 val Sh0 w0 j gs w t D Os s0 d0 q) {k : Nat} (h1 : 0 < k) (h2 : k ≤ q0) {g g' : Goroutine} {fn : FuncId} {pos : String} {es : Array Event} {m : Nat}
    (hm : ∀ e ∈ es, e.mute = true) (hg : gs[k]? = some g) (hq' : QuitsD P m (deafBehind (Deaf t k) es) g') :
    Com P ty Wg C n q0 val Sh0 w0 j ((gs.map (woken P g g' w)).setIfInBounds k g') w (t ++ MemOp.ofEvents k fn pos es) D Os s0 d0 (upd q k m) := by
  have hu : ∀ op ∈ MemOp.ofEvents k fn pos es, op.g = k := g_of_ofEvents
  refine ⟨by simp [h.size], fun i hi => ?_, fun i x h3 h4 hx => ?_, ?_, by rw [Deaf_other t (by omega) _ hu, h.deaf0], fun i hi => by rw [Deaf_other t (by omega) _ hu, h.deafW i hi], fun i hi hst => ?_, h.has, h.one, h.pay, h.kept, h.low⟩
  · obtain ⟨x, hx, hsx⟩ := h.wk i hi
    exact ⟨x, by rw [get_map_set _ _ _ _ (by omega), hx, Option.map_some, hsx.woken], hsx⟩
  · by_cases e : k = i
    · subst e
      rw [get_map_set_same _ _ _ (by rw [h.size]; omega)] at hx
      obtain rfl := Option.some.inj hx
      rw [upd_same, Deaf_own]
      exact hq'
    · rw [get_map_set _ _ _ _ e] at hx
      obtain ⟨y, hy, rfl⟩ := Option.map_eq_some_iff.1 hx
      have hq := h.old i y h3 h4 hy
      rw [woken_quitsD hq, Deaf_other t e _ hu, upd_ne q _ (Ne.symm e)]
      exact hq
  · refine h.tt.mute (g := k) (by omega) fun op hop => ?_
    obtain ⟨e, he, rfl⟩ := Go.Conc.mem_ofEvents hop
    refine ⟨rfl, touch_mute (hm e he), low_mute (hm e he) _, fun hx => ?_⟩
    have := hm e he
    obtain ⟨loc, wr', sy⟩ := e
    cases loc with
    | mark mk' => cases mk' <;> simp_all [Event.mute, MemAct.ofEvent]
    | obj b => simp [Event.mute] at this
    | _ => simp [MemAct.ofEvent] at hx
  · obtain ⟨r, hr⟩ := h.rel i hi hst
    exact ⟨r, hr.other hu (by omega)⟩
/-- the go statement -/
theorem Com.spawn (h : Com P ty Wg C n q0 val Sh0 w0 j gs w t D Os s0 0 q) {a' child : Goroutine} {x y : MemOp} {m : Nat} (hx : x.g = 0 ∧ x.act = .go (q0 + (j + 1))) (hy : y.g = q0 + (j + 1) ∧ y.act = .start) {sc : OSt} (hsp : Split s0 s' sc)
    (hc : GoesO ty Wg C n P false (some j) (AtRel P ty Wg C n j (val j)) m sc child w) :
    Com P ty Wg C n q0 val Sh0 w0 (j + 1) ((gs.setIfInBounds 0 a').push child) w (t ++ #[x, y]) (upd D j ⟨7, m, 0⟩) (upd Os j sc) s' 0 q := by
  have hm : ∀ op ∈ #[x, y], op = x ∨ op = y := by intro op hop; simpa using hop
  have hst : ∀ op ∈ #[x, y], op.act ≠ .mark .disable ∧ op.act ≠ .mark .enable := by
    intro op hop
    rcases hm op hop with rfl | rfl
    · rw [hx.2]; exact ⟨by simp, by simp⟩
    · rw [hy.2]; exact ⟨by simp, by simp⟩
  obtain ⟨hs1, hs2, hs3, hs4⟩ := hsp
  have hO : forkO (OO s0 Os) j s'.o sc.o = fun r => if r ≤ j + 1 then OO s' (upd Os j sc) r else OO s0 Os r := by
    funext r
    unfold forkO
    by_cases h1 : r = 0
    · subst h1; rfl
    · by_cases h2 : r = j + 1
      · subst h2
        rw [if_neg h1, if_pos rfl, if_pos (Nat.le_refl _), OO_succ, upd_same]
      · rw [if_neg h1, if_neg h2]
        obtain ⟨r', rfl⟩ : ∃ r', r = r' + 1 := ⟨r - 1, by omega⟩
        by_cases h3 : r' + 1 ≤ j + 1
        · rw [if_pos h3, OO_succ, OO_succ, upd_ne _ _ (by omega)]
        · rw [if_neg h3]
  have htt := h.tt.fork hx hy h.deaf0 hs3 hs4
  rw [hO] at htt
  have htt' : TT Wg C q0 Sh0 (t ++ #[x, y]) (j + 1) (OO s' (upd Os j sc)) w.heap.size := by
    have e : ∀ r, r ≤ j + 1 → (fun r => if r ≤ j + 1 then OO s' (upd Os j sc) r else OO s0 Os r) r = OO s' (upd Os j sc) r := fun r hr => if_pos hr
    refine ⟨htt.nr, htt.low, htt.quiet, htt.nore, htt.above, fun r hr l b hl hb => htt.own r hr l b hl ((congrFun (e r hr) b).trans hb), fun r hr l b hl hb => htt.rd r hr l b hl (by rw [if_pos hr]; exact hb), htt.cell,
      fun r r' h1 h2 hne b hb => ?_, fun r hr b hb => htt.bd r hr b (by rw [if_pos hr]; exact hb), htt.wc, htt.known, htt.over⟩
    have := htt.dj r r' h1 h2 hne b ((congrFun (e r h1) b).trans hb)
    rw [if_pos h2] at this
    exact this
  refine ⟨by simp [h.size]; omega, fun i hi => ?_, fun i z h1 h2 hz => ?_, htt', by rw [Deaf_still t 0 _ hst, h.deaf0], fun i hi => ?_, fun i hi hs => ?_, fun i hi hs => ?_, fun i hi hs => ?_, h.pay, ?_, h.low⟩
  · rcases Nat.lt_or_ge i j with hlt | hge
    · obtain ⟨g, hg, hsg⟩ := h.wk i hlt
      refine ⟨g, ?_, by rw [upd_ne D _ (by omega), upd_ne Os _ (by omega)]; exact hsg⟩
      rw [Array.getElem?_push_lt (by simp [h.size]; omega), ← Array.getElem?_eq_getElem, Array.getElem?_setIfInBounds_ne (by omega)]
      exact hg
    · obtain rfl : i = j := by omega
      refine ⟨child, ?_, by rw [upd_same, upd_same]; exact .r0 hc⟩
      rw [show q0 + (i + 1) = (gs.setIfInBounds 0 a').size by simp [h.size]; omega, Array.getElem?_push_size]
  · have hlt : i < (gs.setIfInBounds 0 a').size := by simp [h.size]; omega
    rw [Array.getElem?_push_lt hlt, ← Array.getElem?_eq_getElem, Array.getElem?_setIfInBounds_ne (by omega)] at hz
    rw [Deaf_still t i _ hst]
    exact h.old i z h1 h2 hz
  · rw [Deaf_still t _ _ hst]
    rcases Nat.lt_or_ge i j with hlt | hge
    · rw [h.deafW i hlt, upd_ne D _ (by omega)]
    · obtain rfl : i = j := by omega
      rw [upd_same]
      exact h.tt.deaf_new
  · rcases Nat.lt_or_ge i j with hlt | hge
    · rw [upd_ne D _ (by omega)] at hs
      obtain ⟨r, hr⟩ := h.rel i hlt hs
      have e : t ++ #[x, y] = (t ++ #[x]) ++ #[y] := by apply Array.ext'; simp
      rw [e]
      exact ⟨r, (hr.other (g := 0) (fun op hop => by simp at hop; rw [hop]; exact hx.1) (by omega)).other (g := q0 + (j + 1)) (fun op hop => by simp at hop; rw [hop]; exact hy.1) (by omega)⟩
    · obtain rfl : i = j := by omega
      rw [upd_same] at hs
      simp at hs
  · rcases Nat.lt_or_ge i j with hlt | hge
    · rw [upd_ne D _ (by omega)] at hs
      exact h.has i hlt hs
    · obtain rfl : i = j := by omega
      rw [upd_same] at hs
      simp at hs
  · rcases Nat.lt_or_ge i j with hlt | hge
    · rw [upd_ne D _ (by omega)] at hs
      rw [upd_ne Os _ (by omega)]
      exact h.one i hlt hs
    · obtain rfl : i = j := by omega
      rw [upd_same] at hs
      simp at hs
  · refine ⟨h.kept.tape, h.kept.os, h.kept.output, h.kept.more, h.kept.base, h.kept.rows, fun r hr b hb => ?_, ?_⟩
    · cases r with
      | zero => exact ((hs3 b).2 hb).elim
      | succ r =>
        rw [OO_succ] at hb
        by_cases e : r = j
        · subst e
          rw [upd_same] at hb
          exact ((hs4 b).2 hb).elim
        · rw [upd_ne _ _ e] at hb
          exact h.kept.low2 (r + 1) (by omega) b hb
    · have e1 := h.kept.cnt
      show w.heap.size = w0.heap.size + s'.c + (sumTo j (fun i => (upd Os j sc i).c) + (upd Os j sc j).c)
      rw [upd_same, hs2, Go.ConcN.sumTo_upd_out Os sc OSt.c (Nat.le_refl _), hs1]
      exact e1
end
end Go.Sf

/-! The phase, part 6: a step of a worker's, of a leaver's -/
namespace Go.Sf
open Go Go.Conc
open Go.ConcN (ShN WgLive PayAt Has RW CTag WD upd upd_same upd_ne sumTo sumTo_upd get_map_set get_map_set_same phi Vc Ssum Fsum cnt pend isOpen isW3 isFin OpenSt AllQuit phi_mono phi_retag Vc_upd Vc_le le_sumTo others_uncounted bk_cell deafBehind_idle)
open Go.ConcR (KK WgAt stA smA rd wr mk Payload Bk g_of_ofEvents again_blocked bk_of_mute)
variable [Payload]
section
variable {P : Program} {ty : TypeId} {Wg C n : Nat} {val : Nat → Value} {FinP AnchW : OSt → Goroutine → World → Prop} {w w' : World}
/-- the starter under another's step: as it stood; or, blocked, it is let try again -/
theorem CSit.wokenBy (hAr : ∀ s g w, AnchW s g w → g.status = .running) {tag : CTag} {j f d : Nat} {s : OSt} {a : Goroutine} (h : CSit P ty Wg C n val FinP AnchW tag j f d s a w) (hr : RO ty Wg C n none s.o w w') (g g' : Goroutine) :
    ∃ tag' f', CSit P ty Wg C n val FinP AnchW tag' j f' d s (woken P g g' w' a) w' ∧ f' ≤ f + 1 ∧ (tag' = tag ∨ (tag = .blk ∧ tag' = .w3)) ∧ (mayWake P g = true → g'.status = .running → tag' ≠ .blk) := by
  have h' := h.rely hr
  unfold Go.Conc.woken
  split
  · rcases h'.status hAr with ⟨hs, hne⟩ | ⟨_, rfl⟩
    · exact ⟨tag, f, by rw [again_running _ (.inl hs)]; exact h', by omega, .inl rfl, fun _ _ => hne⟩
    · cases h' with
      | blk hb =>
        rename_i g0
        have h3 := hb w' RO.refl
        exact ⟨.w3, 0 + 1, by rw [again_blocked h3.1 h3.2.1]; exact .w3 (GoesO.stop hb), by omega, .inr ⟨rfl, rfl⟩, fun _ _ => by simp⟩
  · rename_i hc
    exact ⟨tag, f, h', by omega, .inl rfl, fun h1 h2 => absurd (by simp [h1, h2]) hc⟩
theorem CSit.bound {tag : CTag} {j f d : Nat} {s : OSt} {a : Goroutine} (h : CSit P ty Wg C n val FinP AnchW tag j f d s a w) : j + pend tag ≤ n := by
  cases h <;> simp only [pend] <;> (try simp) <;> omega
theorem CSit.not_ret {tag : CTag} {j f d : Nat} {s : OSt} {a : Goroutine} (h : CSit P ty Wg C n val FinP AnchW tag j f d s a w) : tag ≠ .ret := by cases h <;> simp
end
section
variable (P : Program) (ty : TypeId) (Wg C n q0 : Nat) (val : Nat → Value) (Sh0 : Loc → Prop) (w0 : World) (FinP AnchW : OSt → Goroutine → World → Prop)
/-- the measure -/
def muP (n q0 j : Nat) (D : Nat → WD) (tag : CTag) (f0 : Nat) (q : Nat → Nat) : Nat × Nat := (phi n (Vc j D) tag + Ssum j D, f0 + 2 * Fsum j D + 2 * sumTo (q0 + 1) q)
def PInvC (μ : Nat × Nat) (m : Machine) (t : Trace) : Prop :=
  ∃ (gs : Array Goroutine) (w : World) (sl : Option (Nat × Nat)) (j : Nat) (D : Nat → WD) (Os : Nat → OSt) (s0 : OSt) (tag : CTag) (f0 d0 : Nat) (a : Goroutine) (st sm : Int) (q : Nat → Nat),
    m = crowd gs w sl ∧ gs[0]? = some a ∧ CSit P ty Wg C n val FinP AnchW tag j f0 d0 s0 a w ∧ Com P ty Wg C n q0 val Sh0 w0 j gs w t D Os s0 d0 q ∧ WgAt ty Wg w st sm ∧ Go.ConcN.Mode j D tag st sm ∧ μ = muP n q0 j D tag f0 q
/-- a step leads on, and lower -/
def Onward (gs : Array Goroutine) (w : World) (sl : Option (Nat × Nat)) (t : Trace) (k : Nat) (μ : Nat × Nat) : Prop :=
  ∃ m₁ ops μ', runT P (crowd gs w sl) k = (.next m₁, ops) ∧ Lt2 μ' μ ∧ PInvC P ty Wg C n q0 val Sh0 w0 FinP AnchW μ' m₁ (t ++ ops)
end
section
variable {P : Program} {ty : TypeId} {Wg C n q0 : Nat} {val : Nat → Value} {Sh0 : Loc → Prop} {w0 w w' : World} {FinP AnchW : OSt → Goroutine → World → Prop} {j : Nat} {gs : Array Goroutine} {t : Trace} {D : Nat → WD} {Os : Nat → OSt} {s0 s' : OSt} {f0 d0 : Nat} {q : Nat → Nat} {sl : Option (Nat × Nat)} {tag : CTag} {a : Goroutine} {st sm : Int}
/-- whatever step of worker number i -/
theorem workerStep (hAr : ∀ s g w, AnchW s g w → g.status = .running) (ha : gs[0]? = some a) (hcs : CSit P ty Wg C n val FinP AnchW tag j f0 d0 s0 a w) (hcom : Com P ty Wg C n q0 val Sh0 w0 j gs w t D Os s0 d0 q)
    {i : Nat} (hi : i < j) {g g' : Goroutine} {es : Array Event} {d' : WD} {st' sm' : Int} (hg : gs[q0 + (i + 1)]? = some g) (hgo : stepG P false g w = .go g' w' es)
    (hA2 : RO ty Wg C n none s0.o w w') (hro : ∀ i', i' < j → i' ≠ i → RO ty Wg C n (some i') (Os i').o w w') (hs' : WSit P ty Wg C n i (val i) d'.stage d'.fuel d'.deaf s' g' w')
    (hown : ∀ b, (s'.o b ≠ 0 → (Os i).o b ≠ 0 ∨ (w.heap.size ≤ b ∧ b < w'.heap.size)) ∧ (s'.o b = 2 → (Os i).o b = 2 ∨ (w.heap.size ≤ b ∧ b < w'.heap.size))) (hsz : w.heap.size ≤ w'.heap.size)
    (hops : ∀ op ∈ MemOp.ofEvents (q0 + (i + 1)) g.frame.fn g.frame.place es, OpO Wg C q0 j (i + 1) s'.o w'.heap.size op) (hdeaf : deafBehind (D i).deaf es = d'.deaf)
    (hrel : d'.stage ≤ 6 → ∃ r, RelW Wg (t ++ MemOp.ofEvents (q0 + (i + 1)) g.frame.fn g.frame.place es) (q0 + (i + 1)) r) (hhas : d'.stage ≤ 6 → Has C i (val i) w') (hone : d'.stage ≤ 6 → s'.c = 1) (hpay : PayAt C n w') (hk : Kept Wg C w0 w' j s0 (upd Os i s'))
    (hwg : WgAt ty Wg w' st' sm') (hmode : ∀ tag', (tag' = tag ∨ (tag = .blk ∧ tag' = .w3)) → (mayWake P g = true → g'.status = .running → tag' ≠ .blk) → Go.ConcN.Mode j (upd D i d') tag' st' sm')
    (hlt : (d'.stage < (D i).stage ∧ cnt d' ≤ cnt (D i)) ∨ (d'.stage = (D i).stage ∧ d'.fuel + 1 = (D i).fuel)) : Onward P ty Wg C n q0 val Sh0 w0 FinP AnchW gs w sl t (q0 + (i + 1)) (muP n q0 j D tag f0 q) := by
  obtain ⟨tag', f', hcs', hf', htag, hwk⟩ := hcs.wokenBy hAr hA2 g g'
  have hk0 : (q0 + (i + 1) == 0) = false := by simp
  have hrun := runT_crowd_go (P := P) (sl := sl) (i := q0 + (i + 1)) hg (by rw [hk0]; exact hgo)
  have e1 := sumTo_upd D d' cnt hi
  have e2 := sumTo_upd D d' WD.stage hi
  have e3 := sumTo_upd D d' WD.fuel hi
  refine ⟨_, _, muP n q0 j (upd D i d') tag' f' q, hrun, ?_,
    _, w', sl, j, upd D i d', upd Os i s', s0, tag', f', d0, woken P g g' w' a, st', sm', q, rfl, by rw [get_map_set _ _ _ _ (by omega), ha]; rfl, hcs', hcom.stepW hi hro hs' hown hsz hops hdeaf hrel hhas hone hpay hk, hwg, hmode tag' htag hwk, rfl⟩
  unfold muP
  rw [phi_retag n _ htag]
  simp only [Vc, Ssum, Fsum] at *
  rcases hlt with ⟨h1, h2⟩ | ⟨h1, h2⟩
  · refine Prod.Lex.left _ _ ?_
    have := phi_mono n (v' := sumTo j fun a => cnt (upd D i d' a)) (v := sumTo j fun a => cnt (D a)) (by omega) tag
    omega
  · have ec : cnt d' = cnt (D i) := by simp only [cnt, h1]
    have ev : (sumTo j fun a => cnt (upd D i d' a)) = sumTo j fun a => cnt (D a) := by omega
    have es' : (sumTo j fun a => (upd D i d' a).stage) = sumTo j fun a => (D a).stage := by omega
    rw [ev, es']
    refine Prod.Lex.right _ ?_
    omega
/-- a step of somebody who only leaves -/
theorem leaverStep (hAr : ∀ s g w, AnchW s g w → g.status = .running) (ha : gs[0]? = some a) (hcs : CSit P ty Wg C n val FinP AnchW tag j f0 d0 s0 a w) (hcom : Com P ty Wg C n q0 val Sh0 w0 j gs w t D Os s0 d0 q) (hwg : WgAt ty Wg w st sm) (hmode : Go.ConcN.Mode j D tag st sm)
    {k : Nat} (h1 : 0 < k) (h2 : k ≤ q0) {g : Goroutine} (hg : gs[k]? = some g) (hrun : g.status = .running) : Onward P ty Wg C n q0 val Sh0 w0 FinP AnchW gs w sl t k (muP n q0 j D tag f0 q) := by
  have hq := hcom.old k g h1 h2 hg
  have hk0 : (k == 0) = false := by simp; omega
  cases hqk : q k with
  | zero => rw [hqk] at hq; rw [hq.1] at hrun; cases hrun
  | succ m =>
    rw [hqk] at hq
    rcases hq with ⟨hf, _⟩ | ⟨_, g', es, hmute, hstep, hq'⟩
    · rw [hf] at hrun; cases hrun
    obtain ⟨tag', f', hcs', hf', htag, hwk⟩ := hcs.wokenBy hAr RO.refl g g'
    have hrun' := runT_crowd_go (P := P) (sl := sl) (i := k) hg (by rw [hk0]; exact hstep w)
    have e1 := sumTo_upd q m id (show k < q0 + 1 by omega)
    simp only [id, hqk] at e1
    refine ⟨_, _, muP n q0 j D tag' f' (upd q k m), hrun', ?_, _, w, sl, j, D, Os, s0, tag', f', d0, woken P g g' w a, st, sm, upd q k m, rfl, by rw [get_map_set _ _ _ _ (by omega), ha]; rfl, hcs', hcom.stepL h1 h2 hmute hg hq', hwg, hmode.retag htag, rfl⟩
    unfold muP
    rw [phi_retag n _ htag]
    refine Prod.Lex.right _ ?_
    have : (sumTo (q0 + 1) fun a => upd q k m a) + (m + 1) = (sumTo (q0 + 1) fun a => q a) + m := e1
    have e4 : (sumTo (q0 + 1) fun a => upd q k m a) = sumTo (q0 + 1) (upd q k m) := rfl
    have e5 : (sumTo (q0 + 1) fun a => q a) = sumTo (q0 + 1) q := rfl
    omega
set_option maxHeartbeats 1600000 in
theorem stepWorker (hAr : ∀ s g w, AnchW s g w → g.status = .running) (hn : n < 2147483648) (ha : gs[0]? = some a) (hcs : CSit P ty Wg C n val FinP AnchW tag j f0 d0 s0 a w) (hcom : Com P ty Wg C n q0 val Sh0 w0 j gs w t D Os s0 d0 q) (hwg : WgAt ty Wg w st sm) (hmode : Go.ConcN.Mode j D tag st sm)
    {i : Nat} (hi : i < j) {g : Goroutine} (hg : gs[q0 + (i + 1)]? = some g) (hrun : g.status = .running) : Onward P ty Wg C n q0 val Sh0 w0 FinP AnchW gs w sl t (q0 + (i + 1)) (muP n q0 j D tag f0 q) := by
  obtain ⟨g₁, hg₁, hs⟩ := hcom.wk i hi
  obtain rfl : g = g₁ := by rw [hg] at hg₁; exact Option.some.inj hg₁
  generalize hst : (D i).stage = s at hs
  generalize hfu : (D i).fuel = m at hs
  generalize hde : (D i).deaf = dd at hs
  have hb := hcs.bound
  have hnr := hcs.not_ret
  have hVj := Vc_le j D
  have hdk : Deaf t (q0 + (i + 1)) = dd := by rw [hcom.deafW i hi, hde]
  have hCW := hcom.tt.wc
  have hOsi : ∀ b, ((Os i).o b ≠ 0 → (Os i).o b ≠ 0 ∨ (w.heap.size ≤ b ∧ b < w.heap.size)) ∧ ((Os i).o b = 2 → (Os i).o b = 2 ∨ (w.heap.size ≤ b ∧ b < w.heap.size)) := fun b => ⟨.inl, .inl⟩
  have hupd : upd Os i (Os i) = Os := by
    funext x
    by_cases e : x = i
    · subst e; rw [upd_same]
    · rw [upd_ne _ _ e]
  have gidx : gi q0 (i + 1) = q0 + (i + 1) := gi_succ q0 i
  -- a step of the library's bookkeeping: at most the group's block turns
  have bookG : ∀ {g' : Goroutine} {w' : World} {es : Array Event} {sg' m' dd' : Nat} {st' sm' : Int}, stepG P false g w = .go g' w' es → Aside Wg w w' → WgAt ty Wg w' st' sm' → (∀ e ∈ es, Bk Wg e) →
      (∀ jx e, es[jx]? = some e → (MemAct.ofEvent e).touch? = none ∨ 0 < deafBehind dd (es.extract 0 jx)) → WSit P ty Wg C n i (val i) sg' m' dd' (Os i) g' w' → deafBehind dd es = dd' → s ≤ 6 → sg' ≤ 6 →
      (∀ tag', (tag' = tag ∨ (tag = .blk ∧ tag' = .w3)) → (mayWake P g = true → g'.status = .running → tag' ≠ .blk) → Go.ConcN.Mode j (upd D i ⟨sg', m', dd'⟩) tag' st' sm') → ((sg' < s ∧ cnt ⟨sg', m', dd'⟩ ≤ cnt (D i)) ∨ (sg' = s ∧ m' + 1 = m)) →
      Onward P ty Wg C n q0 val Sh0 w0 FinP AnchW gs w sl t (q0 + (i + 1)) (muP n q0 j D tag f0 q) := by
    intro g' w' es sg' m' dd' st' sm' hgo hAs hwg' hbk hd hs' hdd h6 h6' hmode' hlt
    obtain ⟨cs, hcs1, hcs2⟩ := hcom.pay
    have hCb := hAs.block C (Ne.symm hCW.2.2)
    refine workerStep hAr ha hcs hcom hi hg hgo (RO.of_wg hcom.tt hAs ⟨_, _, hwg'⟩ (r' := 0) (by omega)) (fun i' hi' _ => RO.of_wg hcom.tt hAs ⟨_, _, hwg'⟩ (r' := i' + 1) (by omega)) (d' := ⟨sg', m', dd'⟩) (s' := Os i) hs' (fun b => ⟨.inl, .inl⟩) (by rw [hAs.size]; exact Nat.le_refl _)
      ?_ (by rw [hde]; exact hdd) (fun _ => ?_) (fun _ => ?_) (fun _ => hcom.one i hi (by omega)) ⟨cs, hCb.trans hcs1, hcs2⟩ (by rw [hupd]; exact hcom.kept.wg hAs hcom.low.1) hwg' hmode' (by rw [hst, hfu]; exact hlt)
    · rw [← gidx]
      exact opO_of_Bk (by rw [hAs.size]; exact hCW.1) fun e he => .inl (hbk e he)
    · obtain ⟨r, hr⟩ := hcom.rel i hi (by omega)
      refine ⟨r, hr.own _ _ _ fun jx e he => ?_⟩
      rcases hd jx e he with h0 | hpos
      · exact .inl h0
      · rcases hbk e (Array.mem_of_getElem? he) with h1 | h1 | ⟨ad, wr', rfl, hab⟩
        · exact .inl (by rw [Go.ConcR.ofEvent_loc_mark h1]; rfl)
        · exact .inl (by rw [Go.ConcR.ofEvent_loc_mark h1]; rfl)
        · exact .inr ⟨⟨ad, wr', rfl, hab⟩, by rw [hdk]; exact hpos⟩
    · have := hcom.has i hi (by omega)
      unfold Has World.cell? at this ⊢
      simp only [hCb]
      exact this
  have book : ∀ {g' : Goroutine} {w' : World} {es : Array Event} {sg' m' dd' : Nat} {st' sm' : Int}, stepG P false g w = .go g' w' es → Aside Wg w w' → WgAt ty Wg w' st' sm' → (∀ e ∈ es, Bk Wg e) →
      (∀ jx e, es[jx]? = some e → (MemAct.ofEvent e).touch? = none ∨ 0 < deafBehind dd (es.extract 0 jx)) → WSit P ty Wg C n i (val i) sg' m' dd' (Os i) g' w' → deafBehind dd es = dd' → s ≤ 6 → sg' ≤ 6 →
      Go.ConcN.Mode j (upd D i ⟨sg', m', dd'⟩) tag st' sm' → ((sg' < s ∧ cnt ⟨sg', m', dd'⟩ ≤ cnt (D i)) ∨ (sg' = s ∧ m' + 1 = m)) →
      Onward P ty Wg C n q0 val Sh0 w0 FinP AnchW gs w sl t (q0 + (i + 1)) (muP n q0 j D tag f0 q) :=
    fun hgo hAs hwg' hbk hd hs' hdd h6 h6' hmode' hlt => bookG hgo hAs hwg' hbk hd hs' hdd h6 h6' (fun _ ht _ => hmode'.retag ht) hlt
  -- an idle step behind the release: nothing turns, nothing is listed
  have idle : ∀ {g' : Goroutine} {m' : Nat}, stepG P false g w = .go g' w #[] → WSit P ty Wg C n i (val i) s m' dd (Os i) g' w → m' + 1 = m → s ≤ 6 →
      Onward P ty Wg C n q0 val Sh0 w0 FinP AnchW gs w sl t (q0 + (i + 1)) (muP n q0 j D tag f0 q) := by
    intro g' m' hgo hs' hm h6
    exact book hgo (.refl Wg w) hwg (by simp) (by simp) hs' rfl h6 h6 (by have := hmode.same (i := i) m' dd; rwa [hst] at this) (.inr ⟨rfl, hm⟩)
  have rf : RW ty Wg C n 0 i w w := RW.of_RO (o := fun _ => 0) RO.refl
  cases hs with
  | r0 h =>
    rcases h.cases with ⟨hc1, _, hhas, g', hgo, m₂, hk⟩ | ⟨m', rfl, _, g', w', es, s', hgo, hG, hg'⟩
    · refine workerStep hAr ha hcs hcom hi hg hgo RO.refl (fun _ _ _ => RO.refl) (d' := ⟨6, m₂, 0⟩) (s' := Os i) (.k1 hk) (fun b => ⟨.inl, .inl⟩) (Nat.le_refl _) ?_ (by rw [hde]; rfl) (fun _ => ⟨t.size, RelW.new hdk _ _⟩) (fun _ => by simpa using hhas) (fun _ => hc1) hcom.pay (by rw [hupd]; exact hcom.kept) hwg
        (fun _ ht _ => (hmode.counted hi (by omega) (.inl rfl) _ _).retag ht) (.inl ⟨by simp only; omega, by simp [cnt, hst]⟩)
      rw [← gidx]
      exact opO_of_Bk hCW.1 fun e he => by simp at he; subst he; exact .inr (.inl rfl)
    · have hro : ∀ r', r' ≤ j → r' ≠ i + 1 → ∀ ci', (∀ x, ci' = some x → x ≠ i) → RO ty Wg C n ci' (OO s0 Os r') w w' := fun r' h1 h2 ci' h3 =>
        RO.of_GO hcom.tt (r := i + 1) (by omega) h1 h2 (ci := some i) (fun x hx e => h3 x hx (by injection e with e; exact e.symm)) (s := Os i) rfl hG
      refine workerStep hAr ha hcs hcom hi hg hgo (hro 0 (by omega) (by omega) none (by simp)) (fun i' h1 h2 => hro (i' + 1) (by omega) (by omega) (some i') (fun x hx => by injection hx with hx; omega)) (d' := ⟨7, m', 0⟩) (s' := s') (.r0 hg') hG.own hG.more ?_ ?_ (fun h => by simp at h) (fun h => by simp at h) (fun h => by simp at h)
        (hG.pay hcom.pay) (hcom.kept.go hcom.tt hi hcom.low.2 hG) (WgAt.of_block hwg ?_) (fun _ ht _ => Go.ConcN.Mode.retag (by have := hmode.same (i := i) m' 0; rwa [hst] at this) ht) (.inr ⟨hst.symm, by rw [hfu]⟩)
      · rw [← gidx]
        exact opO_of_EvO (ci := some i) (fun x hx => by injection hx with hx; omega) (by simp) (Nat.lt_of_lt_of_le hCW.1 hG.more) hG.evs
      · rw [hde]
        refine deafBehind_idle (fun e he => ?_) 0
        have := hG.evs e he
        unfold EvO at this
        constructor <;> (intro hl; rw [hl] at this; exact this)
      · refine hG.block Wg hCW.1 (fun e => ?_) fun e => (hCW.2.2 e).elim
        exact (hcom.tt.bd (i + 1) (by omega) Wg (by show (Os i).o Wg ≠ 0; omega)).2.1 rfl
  | k1 h =>
    rcases Goes.cases h with hstop | ⟨m', rfl, hstep⟩
    · obtain ⟨_, g', hgo, m₂, hk⟩ := hstop w rf
      exact book hgo (.refl Wg w) hwg (by intro e he; simp at he; subst he; exact .inl rfl) (by intro jx e he; exact .inl (by have := Array.mem_of_getElem? he; simp at this; subst this; rfl)) (.d1 hk) rfl (by omega) (by omega)
        (hmode.counted hi (by omega) (.inr rfl) _ _) (.inl ⟨by omega, by simp [cnt, hst]⟩)
    · obtain ⟨g', w', es, hgo, ⟨rfl, rfl⟩, hg'⟩ := hstep w rf
      exact idle hgo (.k1 hg') rfl (by omega)
  | d1 h =>
    rcases Goes.cases h with hstop | ⟨m', rfl, hstep⟩
    · obtain ⟨_, hall⟩ := hstop w rf
      have hc1 : cnt (D i) = 1 := by simp [cnt, hst]
      have hV1 : 1 ≤ Vc j D := by have := le_sumTo (f := fun x => cnt (D x)) hi; simp only [Vc]; omega
      have bk2 : ∀ e ∈ #[rd (stA Wg), wr (stA Wg)], Bk Wg e := by intro e he; simp at he; rcases he with rfl | rfl <;> exact bk_cell _ _ rfl
      have df2 : ∀ jx e, (#[rd (stA Wg), wr (stA Wg)] : Array Event)[jx]? = some e → (MemAct.ofEvent e).touch? = none ∨ 0 < deafBehind 1 ((#[rd (stA Wg), wr (stA Wg)] : Array Event).extract 0 jx) := by
        intro jx e he
        match jx, he with
        | 0, _ => exact .inr (by simp [deafBehind])
        | 1, _ => exact .inr (by simp [deafBehind, rd])
        | jx + 2, he => simp at he
      have hq0 : ∀ q, cnt (⟨1, q, 1⟩ : WD) = 0 := fun _ => rfl
      have opq : ∀ q, OpenSt j D → OpenSt j (upd D i ⟨1, q, 1⟩) := fun q h a ha => by
        by_cases e : a = i
        · subst e; rw [upd_same]; simp
        · rw [upd_ne D _ e]; exact h a ha
      cases hmode with
      | opn h1 h2 h3 =>
        obtain ⟨v, hv⟩ : ∃ v, Vc j D + pend tag = v + 1 := ⟨Vc j D + pend tag - 1, by omega⟩
        rw [hv] at hwg
        have hw1 : WgAt ty Wg w (((v : Nat) + 1) * KK + ((0 : Nat) : Int)) 0 := by simpa using hwg
        obtain ⟨g', hgo, _, hq⟩ := hall v 0 (by omega) (by omega) hw1
        obtain ⟨q, hq⟩ := hq (by omega)
        have hv' : Vc j (upd D i ⟨1, q, 1⟩) + pend tag = v := by have := Vc_upd D (⟨1, q, 1⟩ : WD) hi; have := hq0 q; omega
        refine book hgo (Go.Conc.aside_setCell w (stA Wg) _) (hwg.setSt _) bk2 df2 (.quit hq) rfl (by omega) (by omega) ?_ (.inl ⟨by omega, by simp [cnt]⟩)
        have e : ((v : Nat) : Int) * KK + ((0 : Nat) : Int) = ((Vc j (upd D i ⟨1, q, 1⟩) + pend tag : Nat) : Int) * KK := by rw [hv']; simp
        rw [e]
        exact .opn h1 (opq q h2) (fun vs ev => by have := h3 vs ev; omega)
      | reg h1 h2 h3 =>
        obtain ⟨v, hv⟩ : ∃ v, Vc j D = v + 1 := ⟨Vc j D - 1, by omega⟩
        rw [hv] at hwg
        have hp : pend tag = 0 := by cases tag <;> first | rfl | exact h1.elim
        have hw1 : WgAt ty Wg w (((v : Nat) + 1) * KK + ((1 : Nat) : Int)) 0 := by simpa using hwg
        obtain ⟨g', hgo, hl, hq⟩ := hall v 1 (by omega) (by omega) hw1
        by_cases hv0 : v = 0
        · subst hv0
          obtain ⟨m₂, hk⟩ := hl ⟨rfl, rfl⟩
          refine book hgo (Go.Conc.aside_setCell w (stA Wg) _) (hwg.setSt _) bk2 df2 (.d2 hk) rfl (by omega) (by omega) ?_ (.inl ⟨by omega, by simp [cnt]⟩)
          have hoth : ∀ a, a < j → a ≠ i → (D a).stage = 1 := fun a ha e => by
            have c0 := others_uncounted hi hv hc1 a ha e
            have := h2 a ha
            simp only [cnt] at c0
            split at c0 <;> omega
          have := Go.ConcN.Mode.last (j := j) (D := upd D i ⟨4, m₂, 1⟩) (tag := tag) i h1 hi (by rw [upd_same]; simp) (fun a ha e => by rw [upd_ne D _ e]; exact hoth a ha e)
          rw [upd_same] at this
          simpa using this
        · obtain ⟨q, hq⟩ := hq (by omega)
          have hv' : Vc j (upd D i ⟨1, q, 1⟩) = v := by have := Vc_upd D (⟨1, q, 1⟩ : WD) hi; have := hq0 q; omega
          refine book hgo (Go.Conc.aside_setCell w (stA Wg) _) (hwg.setSt _) bk2 df2 (.quit hq) rfl (by omega) (by omega) ?_ (.inl ⟨by omega, by simp [cnt]⟩)
          have e : ((v : Nat) : Int) * KK + ((1 : Nat) : Int) = ((Vc j (upd D i ⟨1, q, 1⟩) : Nat) : Int) * KK + 1 := by rw [hv']; simp
          rw [e]
          exact .reg h1 (opq q h2) (by omega)
      | last L _ h2 h3 h4 =>
        by_cases e : i = L
        · subst e; omega
        · have := h4 i hi e; omega
      | sema h2 => have := h2 i hi; omega
      | fin _ h2 => have := h2 i hi; omega
    · obtain ⟨g', w', es, hgo, ⟨rfl, rfl⟩, hg'⟩ := hstep w rf
      exact idle hgo (.d1 hg') rfl (by omega)
  | d2 h =>
    rcases Goes.cases h with hstop | ⟨m', rfl, hstep⟩
    · obtain ⟨_, hx⟩ := hstop w rf
      obtain ⟨hW3, hoth, rfl, rfl⟩ := hmode.isLast hi (by omega)
      simp only [hst] at hwg
      obtain ⟨g', hgo, m₂, hk⟩ := hx (by simpa using hwg)
      refine book hgo (.refl Wg w) hwg (by intro e he; simp at he; subst he; exact bk_cell _ _ rfl) (by intro jx e he; match jx, he with | 0, _ => exact .inr (by simp [deafBehind]) | jx + 1, he => simp at he) (.d3 hk) rfl (by omega) (by omega) ?_ (.inl ⟨by omega, by simp [cnt]⟩)
      have := Go.ConcN.Mode.last (j := j) (D := upd D i ⟨3, m₂, 1⟩) (tag := tag) i hW3 hi (by rw [upd_same]; simp) (fun a ha e => by rw [upd_ne D _ e]; exact hoth a ha e)
      rw [upd_same] at this
      simpa using this
    · obtain ⟨g', w', es, hgo, ⟨rfl, rfl⟩, hg'⟩ := hstep w rf
      exact idle hgo (.d2 hg') rfl (by omega)
  | d3 h =>
    rcases Goes.cases h with hstop | ⟨m', rfl, hstep⟩
    · obtain ⟨_, hx⟩ := hstop w rf
      obtain ⟨hW3, hoth, rfl, rfl⟩ := hmode.isLast hi (by omega)
      simp only [hst] at hwg
      obtain ⟨g', hgo, m₂, hk⟩ := hx (by simpa using hwg)
      refine book hgo (Go.Conc.aside_setCell w (stA Wg) _) (hwg.setSt 0) (by intro e he; simp at he; subst he; exact bk_cell _ _ rfl) (by intro jx e he; match jx, he with | 0, _ => exact .inr (by simp [deafBehind]) | jx + 1, he => simp at he) (.d4 hk) rfl (by omega) (by omega) ?_ (.inl ⟨by omega, by simp [cnt]⟩)
      have := Go.ConcN.Mode.last (j := j) (D := upd D i ⟨2, m₂, 1⟩) (tag := tag) i hW3 hi (by rw [upd_same]; simp) (fun a ha e => by rw [upd_ne D _ e]; exact hoth a ha e)
      rw [upd_same] at this
      simpa using this
    · obtain ⟨g', w', es, hgo, ⟨rfl, rfl⟩, hg'⟩ := hstep w rf
      exact idle hgo (.d3 hg') rfl (by omega)
  | d4 h =>
    rcases Goes.cases h with hstop | ⟨m', rfl, hstep⟩
    · obtain ⟨_, hmw, hx⟩ := hstop w rf
      obtain ⟨hW3, hoth, rfl, rfl⟩ := hmode.isLast hi (by omega)
      simp only [hst] at hwg
      obtain ⟨g', hgo, q', hq⟩ := hx (by simpa using hwg)
      have hrun' : g'.status = .running := by
        cases q' with
        | zero => exact absurd hq.2 (by decide)
        | succ q' => exact hq.elim (fun x => absurd x.2 (by decide)) (fun x => x.1)
      refine bookG hgo (Go.Conc.aside_setCell w (smA Wg) _) (hwg.setSm 1) (es := semEvents (smA Wg)) ?_ ?_ (.quit hq) (by simp [deafBehind, semEvents]) (by omega) (by omega) ?_ (.inl ⟨by omega, by simp [cnt]⟩)
      · intro e he
        simp [semEvents] at he
        rcases he with rfl | rfl | rfl | rfl
        · exact .inl rfl
        · exact bk_cell _ _ rfl
        · exact bk_cell _ _ rfl
        · exact .inr (.inl rfl)
      · intro jx e he
        match jx, he with
        | 0, he => simp [semEvents] at he; subst he; exact .inl rfl
        | 1, _ => exact .inr (by simp [deafBehind, semEvents])
        | 2, _ => exact .inr (by simp [deafBehind, semEvents])
        | 3, he => simp [semEvents] at he; subst he; exact .inl rfl
        | jx + 4, he => simp [semEvents] at he
      · intro tag' ht hw
        have hnb := hw hmw hrun'
        have e3 : tag' = .w3 := by
          rcases ht with rfl | ⟨_, rfl⟩
          · cases tag' <;> first | rfl | exact hW3.elim | exact absurd rfl hnb
          · rfl
        subst e3
        simp only [if_true]
        exact .sema fun a ha => by
          by_cases e : a = i
          · subst e; rw [upd_same]
          · rw [upd_ne D _ e]; exact hoth a ha e
    · obtain ⟨g', w', es, hgo, ⟨rfl, rfl⟩, hg'⟩ := hstep w rf
      exact idle hgo (.d4 hg') rfl (by omega)
  | quit h =>
    cases m with
    | zero => rw [h.1] at hrun; cases hrun
    | succ qq =>
      rcases h with ⟨hf, _⟩ | ⟨_, g', es, hmute, hstep, hq⟩
      · rw [hf] at hrun; cases hrun
      · have hbk : ∀ e ∈ es, Bk Wg e := fun e he => bk_of_mute (hmute e he)
        have hno : ∀ jx e, es[jx]? = some e → (MemAct.ofEvent e).touch? = none ∨ 0 < deafBehind dd (es.extract 0 jx) := fun jx e he => .inl (touch_mute (hmute e (Array.mem_of_getElem? he)))
        exact book (hstep w) (.refl Wg w) hwg hbk hno (.quit hq) rfl (by omega) (by omega) (by have := hmode.same (i := i) qq (deafBehind dd es); rwa [hst] at this) (.inr ⟨rfl, rfl⟩)
end
end Go.Sf

/-! The phase, part 7: a step of the starter's; the whole phase -/
namespace Go.Sf
open Go Go.Conc
open Go.ConcN (ShN WgLive PayAt Has RW CTag WD upd upd_same upd_ne sumTo sumTo_upd get_map_set get_map_set_same get_map_set_same phi Vc Ssum Fsum cnt pend isOpen isW3 isFin OpenSt AllQuit Vc_le le_sumTo bk_cell deafBehind_idle allQuit_of bk_dis bk_en bk_rd bk_rw bk_sem exists_counted lt2_trans)
open Go.ConcR (KK WgAt stA smA rd wr mk Payload Bk g_of_ofEvents)
variable [Payload]
section
variable (P : Program) (ty : TypeId) (Wg C n q0 : Nat) (val : Nat → Value) (Sh0 : Loc → Prop) (w0 : World) (FinP : OSt → Goroutine → World → Prop)
/-- the phase is over -/
def DoneP (m : Machine) (t : Trace) : Prop :=
  ∃ (gs : Array Goroutine) (w : World) (sl : Option (Nat × Nat)) (q : Nat → Nat) (a : Goroutine) (s : OSt) (Os : Nat → OSt), m = crowd gs w sl ∧ gs[0]? = some a ∧ Leavers P t gs q ∧ Past (fun l => Sh0 l ∨ ShN Wg l) w.heap.size t ∧ FinP s a w ∧ Kept Wg C w0 w n s Os ∧
    (∀ i, i < n → (Os i).c = 1) ∧ PayAt C n w ∧ (∀ i, i < n → Has C i (val i) w) ∧ WgLive ty Wg w ∧ ∀ b, s.o b ≠ 0 → b < w.heap.size ∧ b ≠ Wg ∧ b ≠ C
end
section
variable {P : Program} {ty : TypeId} {Wg C n q0 : Nat} {val : Nat → Value} {Sh0 : Loc → Prop} {w0 w w' : World} {FinP AnchW : OSt → Goroutine → World → Prop} {j : Nat} {gs : Array Goroutine} {t : Trace} {D : Nat → WD} {Os : Nat → OSt} {s0 s' : OSt} {f0 d0 f' : Nat} {q : Nat → Nat} {sl : Option (Nat × Nat)} {tag tag' : CTag} {a a' : Goroutine} {st sm st' sm' : Int} {es : Array Event}
/-- whatever step of the starter's that is neither a go statement nor the join -/
theorem callerStep (ha : gs[0]? = some a) (hcom : Com P ty Wg C n q0 val Sh0 w0 j gs w t D Os s0 d0 q) (hgo : stepG P true a w = .go a' w' es)
    (hro : ∀ i, i < j → RO ty Wg C n (some i) (Os i).o w w') (hown : ∀ b, (s'.o b ≠ 0 → s0.o b ≠ 0 ∨ (w.heap.size ≤ b ∧ b < w'.heap.size)) ∧ (s'.o b = 2 → s0.o b = 2 ∨ (w.heap.size ≤ b ∧ b < w'.heap.size))) (hsz : w.heap.size ≤ w'.heap.size)
    (hops : ∀ op ∈ MemOp.ofEvents 0 a.frame.fn a.frame.place es, OpO Wg C q0 j 0 s'.o w'.heap.size op) (hpay : PayAt C n w') (hk : Kept Wg C w0 w' j s' Os)
    (hcs' : CSit P ty Wg C n val FinP AnchW tag' j f' (deafBehind d0 es) s' a' w') (hwg : WgAt ty Wg w' st' sm') (hmode : Go.ConcN.Mode j D tag' st' sm')
    (hlt : phi n (Vc j D) tag' < phi n (Vc j D) tag ∨ (phi n (Vc j D) tag' = phi n (Vc j D) tag ∧ f' < f0)) : Onward P ty Wg C n q0 val Sh0 w0 FinP AnchW gs w sl t 0 (muP n q0 j D tag f0 q) := by
  have hrun := runT_crowd_go (P := P) (sl := sl) (i := 0) ha (by simpa using hgo)
  refine ⟨_, _, muP n q0 j D tag' f' q, hrun, ?_, _, w', sl, j, D, Os, s', tag', f', deafBehind d0 es, a', st', sm', q, rfl, get_map_set_same _ _ _ (by rw [hcom.size]; omega), hcs', hcom.step0 hro hown hsz hops hpay hk, hwg, hmode, rfl⟩
  unfold muP
  rcases hlt with h | ⟨h1, h2⟩
  · exact Prod.Lex.left _ _ (by omega)
  · rw [h1]; exact Prod.Lex.right _ (by omega)
/-- a private step of the starter's -/
theorem idleC (ha : gs[0]? = some a) (hcom : Com P ty Wg C n q0 val Sh0 w0 j gs w t D Os s0 d0 q) (hwg : WgAt ty Wg w st sm) (hmode : Go.ConcN.Mode j D tag st sm) (hgo : stepG P true a w = .go a' w' es) (hD : GO Wg C n none s0 s' w w' es)
    (hcs' : CSit P ty Wg C n val FinP AnchW tag j f' d0 s' a' w') (hf : f' < f0) : Onward P ty Wg C n q0 val Sh0 w0 FinP AnchW gs w sl t 0 (muP n q0 j D tag f0 q) := by
  have hdf : deafBehind d0 es = d0 := deafBehind_idle (fun e he => by
    have := hD.evs e he
    unfold EvO at this
    constructor <;> (intro hl; rw [hl] at this; exact this)) d0
  have hCW := hcom.tt.wc
  refine callerStep ha hcom hgo (fun i hi => RO.of_GO hcom.tt (r := 0) (r' := i + 1) (by omega) (by omega) (by omega) (ci := none) (fun x _ => by simp) (s := s0) rfl hD) hD.own hD.more ?_ (hD.pay hcom.pay) (hcom.kept.go0 hcom.tt hD) (by rw [hdf]; exact hcs') (WgAt.of_block hwg ?_) hmode (.inr ⟨rfl, hf⟩)
  · exact opO_of_EvO (q0 := q0) (r := 0) (ci := none) (by simp) (fun _ => rfl) (Nat.lt_of_lt_of_le hCW.1 hD.more) hD.evs
  · refine hD.block Wg hCW.1 (fun e => ?_) fun e => (hCW.2.2 e).elim
    exact (hcom.tt.bd 0 (by omega) Wg (by show s0.o Wg ≠ 0; omega)).2.1 rfl
/-- a step of the library's bookkeeping, by the starter -/
theorem bookC (ha : gs[0]? = some a) (hcom : Com P ty Wg C n q0 val Sh0 w0 j gs w t D Os s0 d0 q) (hgo : stepG P true a w = .go a' w' es) (hAs : Aside Wg w w') (hwg' : WgAt ty Wg w' st' sm') (hbk : ∀ e ∈ es, Bk Wg e)
    (hcs' : CSit P ty Wg C n val FinP AnchW tag' j f' (deafBehind d0 es) s0 a' w') (hmode' : Go.ConcN.Mode j D tag' st' sm') (hlt : phi n (Vc j D) tag' < phi n (Vc j D) tag ∨ (phi n (Vc j D) tag' = phi n (Vc j D) tag ∧ f' < f0)) :
    Onward P ty Wg C n q0 val Sh0 w0 FinP AnchW gs w sl t 0 (muP n q0 j D tag f0 q) := by
  obtain ⟨cs, hc1, hc2⟩ := hcom.pay
  have hCW := hcom.tt.wc
  exact callerStep ha hcom hgo (fun i hi => RO.of_wg hcom.tt hAs ⟨_, _, hwg'⟩ (r' := i + 1) (by omega)) (s' := s0) (fun b => ⟨.inl, .inl⟩) (by rw [hAs.size]; exact Nat.le_refl _) (opO_of_Bk (q0 := q0) (r := 0) (by rw [hAs.size]; exact hCW.1) fun e he => .inl (hbk e he)) ⟨cs, (hAs.block C (Ne.symm hCW.2.2)).trans hc1, hc2⟩ (hcom.kept.wg hAs hcom.low.1) hcs' hwg' hmode' hlt
/-- the load in Wait -/
theorem w1Step (hn : n < 2147483648) (ha : gs[0]? = some a) (hcom : Com P ty Wg C n q0 val Sh0 w0 n gs w t D Os s0 1 q) (hwg : WgAt ty Wg w st sm) (hmode : Go.ConcN.Mode n D .w1 st sm)
    (h : GoesO ty Wg C n P true none (AtW1 P ty Wg C n FinP AnchW) f0 s0 a w) : Onward P ty Wg C n q0 val Sh0 w0 FinP AnchW gs w sl t 0 (muP n q0 n D .w1 f0 q) := by
  rcases h.cases with ⟨_, hall⟩ | ⟨m', rfl, _, a', w', es, s', hgo, hD, hg'⟩
  · obtain ⟨ho, rfl, rfl, _⟩ := hmode.open_inv trivial
    have hV := Vc_le n D
    obtain ⟨a', hgo, h0, hne⟩ := hall (Vc n D) (by omega) (by simpa [pend] using hwg)
    by_cases hv : Vc n D = 0
    · obtain ⟨m₂, hk⟩ := h0 hv
      refine bookC ha hcom hgo (.refl Wg w) hwg bk_rd (tag' := .ke) (.ke hk) ?_ (.inl (by simp only [phi]; omega))
      have e : ((Vc n D + pend .w1 : Nat) : Int) * KK = 0 := by rw [hv]; simp [pend]
      rw [e]
      exact .fin trivial (allQuit_of ho hv)
    · obtain ⟨m₂, hk⟩ := hne hv
      exact bookC ha hcom hgo (.refl Wg w) hwg bk_rd (tag' := .w2 (Vc n D)) (.w2 hk) (hmode.reopen trivial trivial rfl (fun vs e => by cases e; omega)) (.inl (by simp only [phi]; omega))
  · exact idleC ha hcom hwg hmode hgo hD (.w1 hg') (by omega)
set_option maxHeartbeats 1600000 in
theorem stepCaller (hn : n < 2147483648) (hAn : ∀ s g w, AnchW s g w → ∃ m, GoesO ty Wg C n P true none (AtW1 P ty Wg C n FinP AnchW) m s g w)
    (ha : gs[0]? = some a) (hcs : CSit P ty Wg C n val FinP AnchW tag j f0 d0 s0 a w) (hcom : Com P ty Wg C n q0 val Sh0 w0 j gs w t D Os s0 d0 q) (hwg : WgAt ty Wg w st sm) (hmode : Go.ConcN.Mode j D tag st sm) (hrun : a.status = .running) :
    (∃ m₁ ops, runT P (crowd gs w sl) 0 = (.next m₁, ops) ∧ DoneP P ty Wg C n val Sh0 w0 FinP m₁ (t ++ ops)) ∨ Onward P ty Wg C n q0 val Sh0 w0 FinP AnchW gs w sl t 0 (muP n q0 j D tag f0 q) := by
  have hVj := Vc_le j D
  cases hcs with
  | skd hr h =>
    rcases h.cases with ⟨_, a', hgo, m₂, hk⟩ | ⟨m', rfl, _, a', w', es, s', hgo, hD, hg'⟩
    · exact .inr (bookC ha hcom hgo (.refl Wg w) hwg bk_dis (.sa1 hr hk) (hmode.reopen trivial trivial rfl (by simp)) (.inl (by simp only [phi]; omega)))
    · exact .inr (idleC ha hcom hwg hmode hgo hD (.skd hr hg') (by omega))
  | sa1 hr h =>
    rename_i r
    rcases h.cases with ⟨_, hall⟩ | ⟨m', rfl, _, a', w', es, s', hgo, hD, hg'⟩
    · obtain ⟨ho, rfl, rfl, _⟩ := hmode.open_inv trivial
      obtain ⟨a', hgo, m₂, hk⟩ := hall (Vc (n - (r + 1)) D) (by omega) (by simpa [pend] using hwg)
      refine .inr (bookC ha hcom hgo (Go.Conc.aside_setCell w (stA Wg) _) (hwg.setSt _) bk_rw (.ske hr hk) ?_ (.inl (by simp only [phi]; omega)))
      have e : (((Vc (n - (r + 1)) D : Nat) : Int) + 1) * KK = ((Vc (n - (r + 1)) D + pend (.sp r 3) : Nat) : Int) * KK := by simp [pend]
      rw [e]
      exact .opn trivial ho (by simp)
    · exact .inr (idleC ha hcom hwg hmode hgo hD (.sa1 hr hg') (by omega))
  | ske hr h =>
    rcases h.cases with ⟨_, a', hgo, m₂, hk⟩ | ⟨m', rfl, _, a', w', es, s', hgo, hD, hg'⟩
    · exact .inr (bookC ha hcom hgo (.refl Wg w) hwg bk_en (.sgo hr hk) (hmode.reopen trivial trivial rfl (by simp)) (.inl (by simp only [phi]; omega)))
    · exact .inr (idleC ha hcom hwg hmode hgo hD (.ske hr hg') (by omega))
  | sgo hr h =>
    rename_i r
    rcases h.cases with ⟨_, a', child, s1, sc, hsp, _, hsplit, hwk0, hnext⟩ | ⟨m', rfl, _, a', w', es, s', hgo, hD, hg'⟩
    · obtain ⟨m₂, hwk⟩ := hwk0 hcom.pay ⟨_, _, hwg⟩
      obtain ⟨ho, rfl, rfl, _⟩ := hmode.open_inv trivial
      have hrun' := runT_crowd_spawn (P := P) (sl := sl) (i := 0) ha (by simpa using hsp)
      rw [hcom.size, show q0 + (n - (r + 1)) + 1 = q0 + (n - (r + 1) + 1) by omega] at hrun'
      have hcom' := hcom.spawn (a' := a') (x := { g := 0, fn := a.frame.fn, pos := a.frame.place, act := .go (q0 + (n - (r + 1) + 1)) }) (y := { g := q0 + (n - (r + 1) + 1), fn := child.frame.fn, pos := a.frame.place, act := .start }) ⟨rfl, rfl⟩ ⟨rfl, rfl⟩ hsplit hwk
      have eV : Vc (n - (r + 1) + 1) (upd D (n - (r + 1)) ⟨7, m₂, 0⟩) = Vc (n - (r + 1)) D + 1 := by
        simp only [Vc, sumTo, upd_same]
        rw [Go.ConcN.sumTo_upd_out D _ cnt (Nat.le_refl _)]; rfl
      have eS : Ssum (n - (r + 1) + 1) (upd D (n - (r + 1)) ⟨7, m₂, 0⟩) = Ssum (n - (r + 1)) D + 7 := by
        simp only [Ssum, sumTo, upd_same]
        rw [Go.ConcN.sumTo_upd_out D _ WD.stage (Nat.le_refl _)]
      have ho' : OpenSt (n - (r + 1) + 1) (upd D (n - (r + 1)) ⟨7, m₂, 0⟩) := fun i hi => by
        by_cases e : i = n - (r + 1)
        · subst e; rw [upd_same]; simp
        · rw [upd_ne D _ e]; exact ho i (by omega)
      have ha' : ((gs.setIfInBounds 0 a').push child)[0]? = some a' := by
        rw [Array.getElem?_push_lt (by simp [hcom.size]), ← Array.getElem?_eq_getElem]
        simp [hcom.size]
      have ej : n - (r + 1) + 1 = n - r := by omega
      rw [ej] at hrun' hcom' eV eS ho'
      have est : ∀ tag', pend tag' = 0 → ((Vc (n - (r + 1)) D + pend (.sp r 2) : Nat) : Int) * KK = ((Vc (n - r) (upd D (n - (r + 1)) ⟨7, m₂, 0⟩) + pend tag' : Nat) : Int) * KK := fun tag' hp => by rw [eV, hp]; simp [pend]
      cases r with
      | zero =>
        obtain ⟨m₃, hk⟩ := hnext
        simp only [Nat.sub_zero] at hrun' hcom' eV eS ho' est
        refine .inr ⟨_, _, muP n q0 n (upd D (n - (0 + 1)) ⟨7, m₂, 0⟩) .kd m₃ q, hrun', Prod.Lex.left _ _ (by simp only [phi]; omega),
          _, w, sl, n, _, _, s1, .kd, m₃, 0, a', _, _, q, rfl, ha', .kd hk, hcom', hwg, ?_, rfl⟩
        rw [est .kd rfl]
        exact .opn trivial ho' (by simp)
      | succ r' =>
        obtain ⟨m₃, hk⟩ := hnext
        refine .inr ⟨_, _, muP n q0 (n - (r' + 1)) (upd D (n - (r' + 1 + 1)) ⟨7, m₂, 0⟩) (.sp r' 5) m₃ q, hrun', Prod.Lex.left _ _ (by simp only [phi]; omega),
          _, w, sl, n - (r' + 1), _, _, s1, .sp r' 5, m₃, 0, a', _, _, q, rfl, ha', .skd (by omega) hk, hcom', hwg, ?_, rfl⟩
        rw [est (.sp r' 5) rfl]
        exact .opn trivial ho' (by simp)
    · exact .inr (idleC ha hcom hwg hmode hgo hD (.sgo hr hg') (by omega))
  | kd h =>
    rcases h.cases with ⟨_, a', hgo, m₂, hk⟩ | ⟨m', rfl, _, a', w', es, s', hgo, hD, hg'⟩
    · exact .inr (bookC ha hcom hgo (.refl Wg w) hwg bk_dis (.anch hk) (hmode.reopen trivial trivial rfl (by simp)) (.inl (by simp only [phi]; omega)))
    · exact .inr (idleC ha hcom hwg hmode hgo hD (.kd hg') (by omega))
  | anch h =>
    rcases h.cases with hstop | ⟨m', rfl, _, a', w', es, s', hgo, hD, hg'⟩
    · obtain ⟨m₂, hk⟩ := hAn s0 a w hstop
      obtain ⟨m₁, ops, μ', h1, h2, h3⟩ := w1Step (sl := sl) hn ha hcom hwg (hmode.reopen trivial trivial rfl (by simp)) hk
      exact .inr ⟨m₁, ops, μ', h1, lt2_trans h2 (Prod.Lex.left _ _ (by simp only [phi]; omega)), h3⟩
    · exact .inr (idleC ha hcom hwg hmode hgo hD (.anch hg') (by omega))
  | w1 h => exact .inr (w1Step hn ha hcom hwg hmode h)
  | w2 h =>
    rename_i vs
    rcases h.cases with ⟨_, hall⟩ | ⟨m', rfl, _, a', w', es, s', hgo, hD, hg'⟩
    · obtain ⟨ho, rfl, rfl, hw2⟩ := hmode.open_inv trivial
      obtain ⟨hle, h1⟩ := hw2 vs rfl
      obtain ⟨hhit, hmiss⟩ := hall (Vc n D) (by omega) (by simpa [pend] using hwg)
      by_cases e : Vc n D = vs
      · obtain ⟨a', hgo, m₂, hk⟩ := hhit e
        exact .inr (bookC ha hcom hgo (Go.Conc.aside_setCell w (stA Wg) _) (hwg.setSt _) bk_rw (.w3 hk) (.reg trivial ho (by omega)) (.inl (by simp only [phi]; omega)))
      · obtain ⟨a', hgo, m₂, hk⟩ := hmiss e
        exact .inr (bookC ha hcom hgo (.refl Wg w) hwg bk_rd (.anch hk) (hmode.reopen trivial trivial rfl (by simp)) (.inl (by simp only [phi]; omega)))
    · exact .inr (idleC ha hcom hwg hmode hgo hD (.w2 hg') (by omega))
  | w3 h =>
    rename_i m
    by_cases hst : ∀ w₁, RO ty Wg C n none s0.o w w₁ → AtW3 P ty Wg C n FinP s0 a w₁
    · obtain ⟨_, hoff, hblk, htake⟩ := hst w RO.refl
      cases hmode with
      | opn h1 _ _ => exact h1.elim
      | reg h1 h2 h3 => exact .inr (bookC ha hcom (hblk ⟨_, hwg⟩) (.refl Wg w) hwg (by simp) (.blk hst) (.reg trivial h2 h3) (.inr ⟨rfl, by omega⟩))
      | last L h1 h2 h3 h4 => exact .inr (bookC ha hcom (hblk ⟨_, hwg⟩) (.refl Wg w) hwg (by simp) (.blk hst) (.last L trivial h2 h3 h4) (.inr ⟨rfl, by omega⟩))
      | sema h2 =>
        obtain ⟨a', hgo, m₂, hk⟩ := htake hwg
        exact .inr (bookC ha hcom hgo (Go.Conc.aside_setCell w (smA Wg) _) (hwg.setSm 0) bk_sem (.w4 hk) (.fin trivial h2) (.inl (by simp only [phi]; omega)))
      | fin h1 _ => exact h1.elim
    · cases m with
      | zero => exact (hst h).elim
      | succ m =>
        rcases h with h | ⟨hs, h⟩
        · exact (hst h).elim
        · obtain ⟨a', w', es, hgo, s', hD, hg'⟩ := goes_cases (h w RO.refl)
          exact .inr (idleC ha hcom hwg hmode hgo hD (.w3 hg') (by omega))
  | blk h => simp at hrun
  | w4 h =>
    rcases h.cases with ⟨_, hx⟩ | ⟨m', rfl, _, a', w', es, s', hgo, hD, hg'⟩
    · obtain ⟨hq, rfl, rfl⟩ := hmode.fin_inv trivial
      obtain ⟨a', hgo, m₂, hk⟩ := hx hwg
      exact .inr (bookC ha hcom hgo (.refl Wg w) hwg bk_rd (.ke hk) (.fin trivial hq) (.inl (by simp only [phi]; omega)))
    · exact .inr (idleC ha hcom hwg hmode hgo hD (.w4 hg') (by omega))
  | ke h =>
    rcases h.cases with ⟨_, a', hgo, m₂, hk⟩ | ⟨m', rfl, _, a', w', es, s', hgo, hD, hg'⟩
    · obtain ⟨hq, rfl, rfl⟩ := hmode.fin_inv trivial
      exact .inr (bookC ha hcom hgo (.refl Wg w) hwg bk_en (.acq hk) (.fin trivial hq) (.inl (by simp only [phi]; omega)))
    · exact .inr (idleC ha hcom hwg hmode hgo hD (.ke hg') (by omega))
  | acq h =>
    rcases h.cases with ⟨_, a', hgo, hfin⟩ | ⟨m', rfl, _, a', w', es, s', hgo, hD, hg'⟩
    · obtain ⟨hq, rfl, rfl⟩ := hmode.fin_inv trivial
      have hrun' := runT_crowd_go (P := P) (sl := sl) (i := 0) ha (by simpa using hgo)
      have hpast := hcom.tt.join hcom.deaf0 (fun k hk => hcom.rel k hk (by rw [hq k hk]; omega)) a.frame.fn a.frame.place
      have hu : ∀ op ∈ MemOp.ofEvents 0 a.frame.fn a.frame.place #[mk (.acquire (stA Wg))], op.g = 0 := g_of_ofEvents
      have hpick : ∀ i, i < n → (D i).stage ≤ 6 := fun i hi => by rw [hq i hi]; omega
      refine .inl ⟨_, _, hrun', _, w, sl, fun k => if k ≤ q0 then q k else (D (k - q0 - 1)).fuel, a', s0, Os, rfl, get_map_set_same _ _ _ (by rw [hcom.size]; omega), ⟨fun i x hi hx => ?_, fun k hk => ?_⟩, hpast, hfin, hcom.kept, fun i hi => hcom.one i hi (hpick i hi), hcom.pay, fun i hi => hcom.has i hi (hpick i hi), ⟨_, _, hwg⟩, hcom.tt.bd 0 (by omega)⟩
      · rw [get_map_set _ _ _ _ (by omega)] at hx
        obtain ⟨y, hy, rfl⟩ := Option.map_eq_some_iff.1 hx
        rw [Deaf_other t (by omega) _ hu]
        by_cases hk : i ≤ q0
        · have hqq := hcom.old i y hi hk hy
          rw [woken_quitsD hqq, if_pos hk]
          exact hqq
        · have hlt : i < q0 + n + 1 := by rw [← hcom.size]; exact (Array.getElem?_eq_some_iff.1 hy).1
          obtain ⟨i', rfl⟩ : ∃ i', i = q0 + (i' + 1) := ⟨i - q0 - 1, by omega⟩
          obtain ⟨y', hy', hs'⟩ := hcom.wk i' (by omega)
          rw [hy] at hy'
          cases hy'
          rw [hs'.woken, if_neg hk, hcom.deafW i' (by omega), show q0 + (i' + 1) - q0 - 1 = i' by omega]
          exact hs'.quits (hq i' (by omega))
      · simp [hcom.size] at hk
        rw [Deaf_other t (by omega) _ hu]
        exact hcom.tt.above k (by omega)
    · exact .inr (idleC ha hcom hwg hmode hgo hD (.acq hg') (by omega))
/-- no deadlock -/
theorem someone_runs (hAr : ∀ s g w, AnchW s g w → g.status = .running) (ha : gs[0]? = some a) (hcs : CSit P ty Wg C n val FinP AnchW tag j f0 d0 s0 a w) (hcom : Com P ty Wg C n q0 val Sh0 w0 j gs w t D Os s0 d0 q) (hmode : Go.ConcN.Mode j D tag st sm) :
    ∃ (i : Nat) (g : Goroutine), gs[i]? = some g ∧ g.status = .running := by
  rcases hcs.status hAr with ⟨hs, _⟩ | ⟨_, rfl⟩
  · exact ⟨0, a, ha, hs⟩
  · cases hmode with
    | opn h1 _ _ => exact h1.elim
    | reg _ _ h3 =>
      obtain ⟨i, hi, h5⟩ := exists_counted h3
      obtain ⟨g, hg, hs⟩ := hcom.wk i hi
      exact ⟨_, g, hg, hs.running_of (by omega)⟩
    | last L _ h2 h3 _ =>
      obtain ⟨g, hg, hs⟩ := hcom.wk L h2
      exact ⟨_, g, hg, hs.running_of (by omega)⟩
    | fin h1 _ => exact h1.elim
theorem all_awake (hAr : ∀ s g w, AnchW s g w → g.status = .running) (ha : gs[0]? = some a) (hcs : CSit P ty Wg C n val FinP AnchW tag j f0 d0 s0 a w) (hcom : Com P ty Wg C n q0 val Sh0 w0 j gs w t D Os s0 d0 q) : ∀ g ∈ gs, awake g := by
  intro g hg
  obtain ⟨i, hi⟩ := Array.mem_iff_getElem?.1 hg
  rcases Nat.eq_zero_or_pos i with rfl | hpos
  · rw [ha] at hi; cases hi
    intro tm
    rcases hcs.status hAr with ⟨hs, _⟩ | ⟨hs, _⟩ <;> rw [hs] <;> simp
  · by_cases hk : i ≤ q0
    · exact awake_of ((hcom.old i g hpos hk hi).status.elim .inl fun x => .inr (.inr x))
    · have hlt : i < q0 + j + 1 := by rw [← hcom.size]; exact (Array.getElem?_eq_some_iff.1 hi).1
      obtain ⟨i', rfl⟩ : ∃ i', i = q0 + (i' + 1) := ⟨i - q0 - 1, by omega⟩
      obtain ⟨g', hg', hs⟩ := hcom.wk i' (by omega)
      rw [hi] at hg'; cases hg'
      intro tm
      rcases hs.status with h | h <;> rw [h] <;> simp
end
section
variable {P : Program} {ty : TypeId} {Wg C n q0 : Nat} {val : Nat → Value} {Sh0 : Loc → Prop} {w0 : World} {FinP AnchW : OSt → Goroutine → World → Prop}
/-- every step of the machine leads on, or the phase is over -/
theorem phase_step (hn : n < 2147483648) (hAr : ∀ s g w, AnchW s g w → g.status = .running) (hAn : ∀ s g w, AnchW s g w → ∃ m, GoesO ty Wg C n P true none (AtW1 P ty Wg C n FinP AnchW) m s g w) (μ : Nat × Nat) (m : Machine) (t : Trace) (h : PInvC P ty Wg C n q0 val Sh0 w0 FinP AnchW μ m t) :
    (∃ m' ops, stepT P m = (.next m', ops) ∧ DoneP P ty Wg C n val Sh0 w0 FinP m' (t ++ ops)) ∨ ∃ m' ops μ', stepT P m = (.next m', ops) ∧ Lt2 μ' μ ∧ PInvC P ty Wg C n q0 val Sh0 w0 FinP AnchW μ' m' (t ++ ops) := by
  obtain ⟨gs, w, sl, j, D, Os, s0, tag, f0, d0, a, st, sm, q, rfl, ha, hcs, hcom, hwg, hmode, rfl⟩ := h
  obtain ⟨i, g, d, sl', hg, hrun, hstep⟩ := crowd_pick (P := P) (w := w) (sl := sl) (all_awake hAr ha hcs hcom) (someone_runs hAr ha hcs hcom hmode)
  rw [hstep]
  have hcs' := hcs.rely (RO.at d)
  have hcom' := hcom.at d
  have hwg' : WgAt ty Wg (w.at d) st sm := hwg
  rcases Nat.eq_zero_or_pos i with rfl | hpos
  · rw [ha] at hg; cases hg
    exact stepCaller hn hAn ha hcs' hcom' hwg' hmode hrun
  · by_cases hk : i ≤ q0
    · exact .inr (leaverStep hAr ha hcs' hcom' hwg' hmode hpos hk hg hrun)
    · have hlt : i < q0 + j + 1 := by rw [← hcom.size]; exact (Array.getElem?_eq_some_iff.1 hg).1
      obtain ⟨i', rfl⟩ : ∃ i', i = q0 + (i' + 1) := ⟨i - q0 - 1, by omega⟩
      exact .inr (stepWorker hAr hn ha hcs' hcom' hwg' hmode (by omega) hg hrun)
/-- **the phase comes to its end, on whatever tape** -/
theorem phase_runs (hn : n < 2147483648) (hAr : ∀ s g w, AnchW s g w → g.status = .running) (hAn : ∀ s g w, AnchW s g w → ∃ m, GoesO ty Wg C n P true none (AtW1 P ty Wg C n FinP AnchW) m s g w) :
    ∀ (μ : Nat × Nat) (m : Machine) (t : Trace), PInvC P ty Wg C n q0 val Sh0 w0 FinP AnchW μ m t → ∃ N m' t', runNT P N m t = (.next m', t') ∧ DoneP P ty Wg C n val Sh0 w0 FinP m' t' := by
  intro μ
  induction μ using (Prod.lex Nat.lt_wfRel Nat.lt_wfRel).wf.induction with
  | _ μ ih =>
    intro m t h
    rcases phase_step hn hAr hAn μ m t h with ⟨m', ops, h1, h2⟩ | ⟨m', ops, μ', h1, h2, h3⟩
    · exact ⟨1, m', t ++ ops, by simp only [runNT, h1], h2⟩
    · obtain ⟨N, m2, t2, h4, h5⟩ := ih μ' h2 m' (t ++ ops) h3
      exact ⟨N + 1, m2, t2, by simp only [runNT, h1]; exact h4, h5⟩
end
end Go.Sf

/-! The phase, part 8: its beginning; in goroutine 0's words -/
namespace Go.Sf
open Go Go.Conc
open Go.ConcN (ShN WgLive PayAt Has CTag WD sumTo Vc)
open Go.ConcR (KK WgAt stA Payload)
variable [Payload]
section
variable {P : Program} {ty : TypeId} {Wg C n : Nat} {val : Nat → Value} {FinP AnchW : OSt → Goroutine → World → Prop} {S : Nat → Nat} {Post : Value → World → Prop}
theorem tt_start {gs : Array Goroutine} {t : Trace} {q : Nat → Nat} {B N : Nat} {s0 : OSt} {Os : Nat → OSt} (hL : Leavers P t gs q) (hP : Past (ShunS S) B t) (hB : B ≤ Wg) (hC : C < N) (hW : Wg < N) (hCW : Wg ≠ C) (hSC : S C ≠ 1) (hBN : B ≤ N)
    (ho : ∀ b, s0.o b ≠ 0 → b < N ∧ b ≠ Wg ∧ b ≠ C ∧ S b ≠ 1) (h2 : ∀ b, s0.o b ≠ 2) (hsz : 0 < gs.size) : TT Wg C (gs.size - 1) (ShunS S) t 0 (OO s0 Os) N := by
  have kn : ∀ l b, blkOf l = some b → S b ≠ 1 → Perm t 0 l := fun l b hl hS i a ha hal => by
    rcases hP.known i a ha (by rw [hal]; exact blk_memory hl) with h | ⟨h, _⟩
    · exact h
    · rw [hal] at h
      cases l <;> simp only [blkOf, Option.some.injEq] at hl <;> first | (subst hl; exact (hS h).elim) | cases hl
  have noW : ∀ (i : Nat) (op : MemOp) (x : Touch), t[i]? = some op → op.act.touch? = some x → ¬ ShN Wg x.loc := fun i op x hi hx ⟨a, ha, hab⟩ => by
    have := low_blk (hP.seen op (Array.mem_of_getElem? hi)) hx (b := a.block) (by rw [ha]; rfl)
    omega
  have r0 : ∀ r, r ≤ 0 → r = 0 := fun r hr => by omega
  refine ⟨hP.clean, fun op hop => MemAct.low_mono hBN (hP.seen op hop), fun i op x hi hx hs => (noW i op x hi hx hs).elim, fun i hi => ?_, fun k hk => hL.above k (by omega), fun r hr l b hl hb => ?_, fun r hr l b hl hb => ?_, fun i => ?_, fun r r' h1 h2 hne => by omega, fun r hr b hb => ?_, ⟨hW, hC, hCW⟩, fun i a ha hm => ?_, fun i g hg hne hc => .inl (hP.over i g hg hne hc)⟩
  · unfold Trace.act? at hi
    obtain ⟨op, ho', hoa⟩ := Option.map_eq_some_iff.1 hi
    have := hP.seen op (Array.mem_of_getElem? ho')
    rw [hoa] at this
    have : (stA Wg).block < B := this
    have e : (stA Wg).block = Wg := rfl
    omega
  · obtain rfl := r0 r hr
    exact (h2 b hb).elim
  · obtain rfl := r0 r hr
    exact .of (kn l b hl (ho b hb).2.2.2)
  · rw [if_neg (by omega)]
    exact kn _ C rfl hSC
  · obtain rfl := r0 r hr
    obtain ⟨h1, h3, h4, -⟩ := ho b hb
    exact ⟨h1, h3, h4⟩
  · rcases hP.known i a ha hm with h | ⟨h, h'⟩
    · exact .inl h
    · exact .inr (.inl ⟨.inl h, h'⟩)
/-- **the phase, in goroutine 0's words**: from the loop that starts the workers to the step behind 'acquire' -/
theorem wins_phase (hn : n < 2147483648) (hAr : ∀ s g w, AnchW s g w → g.status = .running) (hAn : ∀ s g w, AnchW s g w → ∃ m, GoesO ty Wg C n P true none (AtW1 P ty Wg C n FinP AnchW) m s g w)
    {a : Goroutine} {w : World} {s0 : OSt} {B : Nat} (hB : B ≤ Wg) (hC : C < w.heap.size) (hW : Wg < w.heap.size) (hCW : Wg ≠ C) (hSC : S C ≠ 1) (ho : ∀ b, s0.o b ≠ 0 → b < w.heap.size ∧ b ≠ Wg ∧ b ≠ C ∧ S b ≠ 1) (h2 : ∀ b, s0.o b ≠ 2) (hc0 : s0.c = 0)
    (hwg : WgAt ty Wg w 0 0) (hpay : PayAt C n w) (hsp : Spawns P ty Wg C n val (FinS P ty Wg C n AnchW) n s0 a w)
    (hfin : ∀ a' w' s Os S', (∀ b, S' b = if b = Wg then 1 else S b) → FinP s a' w' → Kept Wg C w w' n s Os → (∀ i, i < n → (Os i).c = 1) → PayAt C n w' → (∀ i, i < n → Has C i (val i) w') → (∀ b, s.o b ≠ 0 → b < w'.heap.size ∧ b ≠ Wg ∧ b ≠ C) → Wins P Post S' a' w') :
    ∀ (gs : Array Goroutine) (sl : Option (Nat × Nat)) (t : Trace) (q : Nat → Nat) (d : Nat), gs[0]? = some a → Leavers P t gs q → Past (ShunS S) B t → Wins0 P Post (crowd gs (w.at d) sl) t := by
  intro gs sl t q d h0 hL hP
  have hsz : 0 < gs.size := (Array.getElem?_eq_some_iff.1 h0).1
  have hcom : Com P ty Wg C n (gs.size - 1) val (ShunS S) w 0 gs (w.at d) t (fun _ => ⟨0, 0, 0⟩) (fun _ => s0) s0 0 q := by
    refine ⟨by omega, fun i hi => by omega, fun i g h1 h3 hg => hL.old i g h1 hg, tt_start hL hP hB hC hW hCW hSC (show B ≤ w.heap.size by omega) ho h2 hsz, hP.hears, fun i hi => by omega, fun i hi => by omega, fun i hi => by omega, fun i hi => by omega, hpay, ?_, ⟨hW, hC⟩⟩
    refine ⟨rfl, rfl, rfl, Nat.le_refl _, fun _ _ _ _ => rfl, fun b h1 h3 => ?_, fun r hr b hb => ?_, ?_⟩
    · have : b < w.heap.size := h3
      omega
    · obtain rfl : r = 0 := by omega
      exact (h2 b hb).elim
    · rw [hc0]; rfl
  have hmode : ∀ tag, Go.ConcN.isOpen tag → Go.ConcN.pend tag = 0 → (∀ vs, tag ≠ .w2 vs) → Go.ConcN.Mode 0 (fun _ => (⟨0, 0, 0⟩ : WD)) tag 0 0 := fun tag h1 h2 h3 => by
    have := Go.ConcN.Mode.opn (j := 0) (D := fun _ => (⟨0, 0, 0⟩ : WD)) h1 (fun i hi => by omega) (fun vs e => absurd e (h3 vs))
    simpa [Vc, sumTo, h2] using this
  have hInv : ∃ μ, PInvC P ty Wg C n (gs.size - 1) val (ShunS S) w FinP AnchW μ (crowd gs (w.at d) sl) t := by
    cases n with
    | zero =>
      obtain ⟨m, hk⟩ := hsp
      exact ⟨_, gs, w.at d, sl, 0, _, _, s0, .kd, m, 0, a, 0, 0, q, rfl, h0, .kd (hk.rely (RO.at d)), hcom, hwg, hmode .kd trivial rfl (by simp), rfl⟩
    | succ r =>
      obtain ⟨m, hk⟩ := hsp
      have hc := CSit.skd (FinP := FinP) (Nat.lt_succ_self r) (hk.rely (RO.at d))
      rw [Nat.sub_self] at hc
      exact ⟨_, gs, w.at d, sl, 0, _, _, s0, .sp r 5, m, 0, a, 0, 0, q, rfl, h0, hc, hcom, hwg, hmode (.sp r 5) trivial rfl (by simp), rfl⟩
  obtain ⟨μ, hI⟩ := hInv
  obtain ⟨N, m', t', hr, gs', w', sl', q', a', s, Os, rfl, h0', hL', hP', hF, hK, hone, hpay', hhas, -, hso⟩ := phase_runs hn hAr hAn μ _ _ hI
  refine Wins0.after hr ?_
  have hSh : Past (ShunS fun b => if b = Wg then 1 else S b) w'.heap.size t' := by
    refine ⟨hP'.clean, fun i a ha hm => ?_, hP'.over, hP'.hears, hP'.seen⟩
    rcases hP'.known i a ha hm with h | ⟨h | ⟨ad, h1, h3⟩, h'⟩
    · exact .inl h
    · refine .inr ⟨?_, h'⟩
      cases hl : a.loc with
      | cell ad =>
        rw [hl] at h
        show (if ad.block = Wg then 1 else S ad.block) = 1
        split
        · rfl
        · exact h
      | obj b =>
        rw [hl] at h
        show (if b = Wg then 1 else S b) = 1
        split
        · rfl
        · exact h
      | _ => rw [hl] at h; exact h.elim
    · refine .inr ⟨?_, h'⟩
      rw [h1]
      show (if ad.block = Wg then 1 else S ad.block) = 1
      rw [if_pos h3]
  exact hfin a' w' s Os _ (fun b => rfl) hF hK hone hpay' hhas hso gs' sl' t' q' w'.drawn h0' hL' hSh
end
end Go.Sf
