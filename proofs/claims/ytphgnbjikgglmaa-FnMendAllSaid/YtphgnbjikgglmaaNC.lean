/- Lifting library, part 23 -/
import Derived.Test.YtphgnbjikgglmaaNB
set_option linter.all false
/-! Lifting library, part 23 -/
namespace Go.Sf
open Go Go.Conc
variable [Bad] [Asks]
/-- all but what waits to be called stands as it did -/
def HeapK (v w : World) : Prop := w.heap.size = v.heap.size ∧ (∀ (b : Nat) (o : Obj), v.heap[b]? = some o → (∀ ds, o ≠ .deferred ds) → w.heap[b]? = some o) ∧ ∀ (b : Nat) ds, v.heap[b]? = some (.deferred ds) → ∃ ds', w.heap[b]? = some (.deferred ds')
theorem HeapK.refl (v : World) : HeapK v v := ⟨rfl, fun _ _ h _ => h, fun _ ds h => ⟨ds, h⟩⟩
theorem HeapK.trans {u v w : World} (h : HeapK u v) (k : HeapK v w) : HeapK u w := ⟨k.1.trans h.1, fun b o hb hn => k.2.1 b o (h.2.1 b o hb hn) hn, fun b ds hb => by
  obtain ⟨ds', h1⟩ := h.2.2 b ds hb
  exact k.2.2 b ds' h1⟩
/-- the ghost is unwinding -/
structure PInv (P : Program) (v0 : World) (x : Goroutine × World) : Prop where
  shape : ∃ fr L ch, x.1 = gor fr (L ++ [botF]) ∧ fr.mode = .panicking ch ∧ FrOK P fr ∧ ∀ f ∈ L, FrOK P f
  heap : HeapK v0 x.2
theorem raise_panics (fr : Frame) (ch : List PanicEntry) : ∃ ch', (fr.raise ch).mode = .panicking ch' := by
  unfold Frame.raise
  split
  · exact ⟨_, rfl⟩
  · exact ⟨_, rfl⟩
theorem PInv.step {P : Program} [BadIn P] [AsksAll] {S : Nat → Nat} {v0 : World} {x y : Goroutine × World} {τ : TapeT} {k : Nat} (hI : GInv (ghostProg P) S x) (h : PInv (ghostProg P) v0 x) (hs : gst (ghostProg P) x τ = some (y, k)) : PInv (ghostProg P) v0 y := by
  obtain ⟨⟨fr, L, ch, hx, hm, hf, hL⟩, hh⟩ := h
  obtain ⟨fn, hfn, hfine, hfb⟩ := hf.fn
  have e0 : stepG (ghostProg P) true (gor fr (L ++ [botF])) (x.2.re τ 0) = Go.unwind (ghostProg P) true fr (L ++ [botF]) none (x.2.re τ 0) := by
    unfold stepG
    simp only [hm]
  unfold gst at hs
  rw [hx, e0] at hs
  cases hdf : fr.defers with
  | nil =>
    have hc : fr.catches (ghostProg P) = false := by unfold Frame.catches; rw [hfn]
    have e1 : Go.unwind (ghostProg P) true fr (L ++ [botF]) none (x.2.re τ 0) = match L ++ [botF] with
        | c :: rest => .go (gor (c.raise ch) rest) (x.2.re τ 0)
        | [] => Go.unwind (ghostProg P) true fr (L ++ [botF]) none (x.2.re τ 0) := by
      cases L with
      | nil =>
        show _ = GStep.go (gor (botF.raise ch) []) (x.2.re τ 0)
        unfold Go.unwind
        simp only [hdf, hm, hc, Bool.false_eq_true, if_false]
        rfl
      | cons c L =>
        show _ = GStep.go (gor (c.raise ch) (L ++ [botF])) (x.2.re τ 0)
        unfold Go.unwind
        simp only [hdf, hm, hc, Bool.false_eq_true, if_false]
        rfl
    rw [e1] at hs
    cases L with
    | nil => simp at hs
    | cons c L =>
      have hce : (L ++ [botF]).isEmpty = false := by cases L <;> rfl
      simp only [List.cons_append, hce, Bool.false_eq_true, if_false, Option.some.injEq, Prod.mk.injEq] at hs
      obtain ⟨rfl, -⟩ := hs
      obtain ⟨ch', hch⟩ := raise_panics c ch
      exact ⟨⟨c.raise ch, L, ch', rfl, hch, (hL c List.mem_cons_self).raise _, fun f h => hL f (List.mem_cons_of_mem _ h)⟩, hh⟩
  | cons d ds =>
    obtain ⟨r, hr⟩ := hf.defers d (hdf ▸ List.mem_cons_self)
    obtain ⟨tg, ar⟩ := d
    simp only at hr
    subst hr
    obtain ⟨kk, h2⟩ := (SOk.takeDeferred (S := S) (P := ghostProg P) (r := r)) (x.2.re τ 0) (x.2.re τ 0) #[] (hI.world.re _ _ _ _)
    rw [ghost_idem] at h2
    have e1 : Go.unwind (ghostProg P) true fr (L ++ [botF]) none (x.2.re τ 0) = GStep.after (seen (ghostProg P) fr.fn ((Instr.takeDeferred r).runT (ghostProg P) (x.2.re τ 0) #[]).2) (match (Instr.takeDeferred r).run (ghostProg P) (x.2.re τ 0) with
        | .ok calls w => .go (gor { fr with defers := calls ++ ds } (L ++ [botF])) w
        | .halt _ w => .ended (.stuck "the deferred calls of a range-over-func loop have been taken" (fr.pos (ghostProg P))) w) := by
      unfold Go.unwind
      simp only [hdf]
      rw [← Sem.runT_fst _ _ _ #[]]
      rfl
    rw [e1] at hs
    have hrun : ∀ res, (Instr.takeDeferred r).run (ghostProg P) (x.2.re τ 0) = res → ∀ a v1, res = .ok a v1 → HeapK (x.2.re τ 0) v1 := by
      intro res hres a v1 he
      subst he
      unfold Instr.takeDeferred at hres
      have hg : ∀ o, (x.2.re τ 0).heap[r]? = some o → (∃ c e g, o = .cells c e g) ∨ (∃ ds, o = .deferred ds) ∨ (∀ ds, o ≠ .deferred ds) := fun o _ => by
        cases o <;> simp
      change (Sem.getObj r _).run (ghostProg P) (x.2.re τ 0) = _ at hres
      simp only [Sem.run] at hres
      cases ho : (x.2.re τ 0).heap[r]? with
      | none => rw [ho] at hres; cases hres
      | some o =>
        rw [ho] at hres
        cases o with
        | deferred ds' =>
          cases ds' with
          | none => cases hres
          | some ds' =>
            change (Sem.setObj r _ _).run (ghostProg P) (x.2.re τ 0) = _ at hres
            simp only [Sem.run, ho] at hres
            cases hres
            refine ⟨by simp, fun b o hb hn => ?_, fun b ds hb => ?_⟩
            · by_cases e : b = r
              · subst e
                rw [ho] at hb
                cases hb
                exact (hn _ rfl).elim
              · simp only [Array.getElem?_setIfInBounds_ne (Ne.symm e)]
                exact hb
            · by_cases e : b = r
              · subst e
                have hlt := (Array.getElem?_eq_some_iff.1 ho).1
                exact ⟨none, by simp only [Array.getElem?_setIfInBounds_self_of_lt hlt]⟩
              · exact ⟨ds, by simp only [Array.getElem?_setIfInBounds_ne (Ne.symm e)]; exact hb⟩
        | _ => cases hres
    generalize hres : (Instr.takeDeferred r).run (ghostProg P) (x.2.re τ 0) = res at hs h2
    cases res with
    | halt hh v1 => simp [GStep.after] at hs
    | ok a v1 =>
      obtain ⟨rfl, -⟩ := h2
      have hce : (L ++ [botF]).isEmpty = false := by cases L <;> rfl
      simp only [GStep.after, hce, Bool.false_eq_true, if_false, Option.some.injEq, Prod.mk.injEq] at hs
      obtain ⟨rfl, -⟩ := hs
      have hk := hrun _ hres _ _ rfl
      exact ⟨⟨{ fr with defers := ds }, L, ch, rfl, hm, ⟨⟨fn, hfn, hfine, hfb⟩, hf.todo, fun d hd => hf.defers d (hdf ▸ List.mem_cons_of_mem _ hd), hf.kind⟩, hL⟩, HeapK.trans hh hk⟩
theorem PInv.runX {P : Program} [BadIn P] [AsksAll] {S : Nat → Nat} {v0 : World} : ∀ (n : Nat) (x y : Goroutine × World) (τ : TapeT), GInv (ghostProg P) S x → PInv (ghostProg P) v0 x → Sf.runX (gst (ghostProg P)) n x τ = some y → PInv (ghostProg P) v0 y
  | 0, x, y, τ, _, h, hr => by
    have h1 : some x = some y := hr
    cases h1
    exact h
  | n + 1, x, y, τ, hI, h, hr => by
    cases hs : gst (ghostProg P) x τ with
    | none => rw [runX_none hs] at hr; cases hr
    | some zk =>
      obtain ⟨z, k⟩ := zk
      rw [runX_some hs] at hr
      exact PInv.runX n z y _ (gst_inv hI hs).1 (h.step hI hs) hr
end Go.Sf

/-! Lifting library, part 24 -/
namespace Go.Sf
open Go Go.Conc
section
variable [Bad]
/-- the tape answers 0 wherever the ghost would probe -/
def San (τ : TapeT) : Prop := ∀ j, τ j (.order Bad.f 0) = 0
def san (τ : TapeT) : TapeT := fun j q => match q with
  | .order f i => if f = Bad.f ∧ i = 0 then 0 else τ j (.order f i)
  | q => τ j q
theorem san_san (τ : TapeT) : San (san τ) := fun j => by simp [san]
theorem san_of {τ : TapeT} (h : San τ) : san τ = τ := by
  funext j q
  unfold san
  split
  · next f i =>
    split
    · next hc => obtain ⟨rfl, rfl⟩ := hc; exact (h j).symm
    · rfl
  · rfl
theorem san_eq (τ : TapeT) {j : Nat} {q : Question} (h : q ≠ .order Bad.f 0) : san τ j q = τ j q := by
  unfold san
  split
  · next f i =>
    split
    · next hc => obtain ⟨rfl, rfl⟩ := hc; exact (h rfl).elim
    · rfl
  · rfl
theorem san_shift (τ : TapeT) (k : Nat) : shiftT (san τ) k = san (shiftT τ k) := by
  funext j q
  unfold shiftT san
  split <;> rfl
theorem San.shift {τ : TapeT} (h : San τ) (k : Nat) : San (shiftT τ k) := fun j => h (k + j)
/-- all questions count: between two of the ghost's runs -/
@[reducible] def allAsks : Asks := ⟨fun _ => True, fun _ _ => trivial, fun _ _ _ => trivial, fun _ _ => True⟩
theorem allAsks_all : @AsksAll _ allAsks := @AsksAll.mk _ allAsks fun _ => trivial
/-- what is known of the objects that the ghost does not know -/
class Odds where
  odd : Nat → Obj → Prop
/-- all but the probing question count: between the ghost's and the true goroutine's -/
@[reducible] def trueAsks [Odds] : Asks := ⟨fun q => q ≠ .order Bad.f 0, fun _ h e => h _ _ e, fun _ _ hf e => by cases e; exact hf rfl, Odds.odd⟩
theorem fnOK_asks {A1 A2 : Asks} (hA : ∀ q, A1.ok q → A2.ok q) {P : Program} {f : FuncId} (h : @fnOK _ A1 P f) : @fnOK _ A2 P f := by
  obtain ⟨fn, h1, h2, h3, h4⟩ := h
  exact ⟨fn, h1, h2, h3, fun i => hA _ (h4 i)⟩
theorem plainObj_asks {A1 A2 : Asks} (hA : ∀ q, A1.ok q → A2.ok q) {P : Program} {o : Obj} (h : @plainObj _ A1 P o) : @plainObj _ A2 P o := by
  cases o with
  | loop l => exact ⟨h.1, h.2.1, h.2.2.1, fnOK_asks hA h.2.2.2⟩
  | deferred ds => cases ds <;> exact h
  | _ => exact h
theorem WSim_asks {A1 A2 : Asks} (hA : ∀ q, A1.ok q → A2.ok q) (hB : ∀ b o, A1.odd b o → A2.odd b o) {P : Program} {S : Nat → Nat} {v w : World} (h : @WSim _ A1 P S v w) : @WSim _ A2 P S v w := by
  obtain ⟨g1, g2, g3, g4, g5⟩ := h
  refine @WSim.mk _ A2 P S v w g1 (fun b hb => ?_) g3 g4 g5
  obtain ⟨ov, ow, h1, h2, h3⟩ := g2 b hb
  refine ⟨ov, ow, h1, h2, ?_⟩
  generalize S b = s at h3
  cases h3 with
  | alive hp => exact @ObjSim.alive _ A2 P b _ (plainObj_asks hA hp)
  | cells => exact @ObjSim.cells _ A2 P b _ _ _
  | odd ho hq => exact @ObjSim.odd _ A2 P b _ ho (hB _ _ hq)
theorem FrOK_asks {A1 A2 : Asks} (hA : ∀ q, A1.ok q → A2.ok q) {P : Program} {fr : Frame} (h : @FrOK _ A1 P fr) : @FrOK _ A2 P fr := by
  obtain ⟨g1, g2, g3, g4⟩ := h
  exact @FrOK.mk _ A2 P fr (fnOK_asks hA g1) g2 g3 g4
theorem Agree_true [Odds] {k : Nat} {v : World} {τ : TapeT} {d : Nat} (h : ∀ j q, j < k → q ≠ .order Bad.f 0 → τ (d + j) q = v.tape (v.drawn + j) q) : @Agree _ trueAsks k v τ d := h
/-- what the ghost leaves behind where it probes -/
def logOf (ty : TypeId) (x y : Value) : Obj := .cells #[.func (.func 0) #[] #[x, y]] ty (0, 0)
end
/-- the two arguments of a call, as its frame has them -/
def argAt (P : Program) (f : FuncId) (args : Array Value) (i : Nat) : Value := (Frame.enter P f args .normal).tmps.getD i undef
/-- what is known of the function that starts goroutines: of the ghost's in its place, and of the true one -/
structure Phase (P : Program) [Bad] [BadIn P] [Odds] where
  Pre : Value → Value → Nat → World → Prop
  RG : Value → Value → World → Value → World → Prop
  ty : TypeId
  stays : ∀ x y b v w, Pre x y b v → b ≤ w.heap.size → (∀ (k : Nat) (o : Obj), k < b → v.heap[k]? = some o → (∀ ds, o ≠ .deferred ds) → w.heap[k]? = some o) → Pre x y b w
  probe : ∀ (args : Array Value) (v : World), ∃ τ, Calls (ghostProg P) Bad.f args (v.re τ 0) fun e v' => (∃ ch, e = .panicked ch) ∧ v'.heap = v.heap.push (logOf ty (argAt (ghostProg P) Bad.f args 0) (argAt (ghostProg P) Bad.f args 1))
  alone : ∀ (args : Array Value) (v : World), Pre (argAt (ghostProg P) Bad.f args 0) (argAt (ghostProg P) Bad.f args 1) v.heap.size v → ∀ τ, San τ → Calls (ghostProg P) Bad.f args (v.re τ 0) fun e v' => ∃ u, e = .returned u ∧ RG (argAt (ghostProg P) Bad.f args 0) (argAt (ghostProg P) Bad.f args 1) v u v'.nil
  phase : ∀ Post S v w args c cs u v2, @WSim _ trueAsks P S v w → Pre (argAt (ghostProg P) Bad.f args 0) (argAt (ghostProg P) Bad.f args 1) v.heap.size v → RG (argAt (ghostProg P) Bad.f args 0) (argAt (ghostProg P) Bad.f args 1) v u v2 →
    (∀ S2 w2, @WSim _ trueAsks P S2 v2 w2 → w2.tape = w.tape → Wins P Post S2 (gor (c.finish u) cs) w2) → Wins P Post S (gor (Frame.enter P Bad.f args .normal) (c :: cs)) w
section
variable {P : Program} [Bad] [BadIn P] [Odds]
/-- the ghost has probed, and what it found is as it must be -/
def Phase.PreW (Φ : Phase P) (w : World) : Prop := ∃ b x y, w.heap[b]? = some (logOf Φ.ty x y) ∧ b + 1 = w.heap.size ∧ Φ.Pre x y b w
/-- the ghost's steps where it does not probe -/
def stS (Q : Program) [Bad] (x : Goroutine × World) (τ : TapeT) : Option ((Goroutine × World) × Nat) := gst Q x (san τ)
theorem runX_stS (Q : Program) : ∀ (n : Nat) (x : Goroutine × World) (τ : TapeT), runX (stS Q) n x τ = runX (gst Q) n x (san τ)
  | 0, _, _ => rfl
  | n + 1, x, τ => by
    cases h : gst Q x (san τ) with
    | none => rw [runX_none (st := stS Q) h, runX_none h]
    | some yk =>
      obtain ⟨y, k⟩ := yk
      rw [runX_some (st := stS Q) h, runX_some h, runX_stS Q n, san_shift]
/-- the lone run has come to its end: it returns -/
def ZEnd (P : Program) [Bad] (f : FuncId) (R : Value → World → Prop) (x : Goroutine × World) : Prop :=
  ∃ fr τ d u, x.1 = gor fr [botF] ∧ fr.fn = f ∧ fr.leaving (ghostProg P) (x.2.re τ d) (.returned u) ∧ R u (x.2.re τ d)
theorem ZEnd.stuck {f : FuncId} {R : Value → World → Prop} {x : Goroutine × World} (h : ZEnd P f R x) (τ : TapeT) : gst (ghostProg P) x τ = none := by
  obtain ⟨fr, τ1, d, u, hx, -, ⟨hm, hdf, hk, fn, hfn, hr⟩, -⟩ := h
  unfold gst
  rw [hx]
  have e0 : stepG (ghostProg P) true (gor fr [botF]) (x.2.re τ 0) = Go.unwind (ghostProg P) true fr [botF] none (x.2.re τ 0) := by
    unfold stepG
    simp only [hm]
  rw [e0]
  unfold Go.unwind
  simp only [hdf, hm, hfn]
  cases hres : (Go.results fn fr.tmps).runT (ghostProg P) (x.2.re τ 0) #[] with
  | mk res es =>
    cases res with
    | ok a v1 =>
      simp only [doReturn, hk, GStep.after]
      rfl
    | halt hh v1 => cases hh <;> simp [GStep.after]
theorem panicked_none {x : Goroutine × World} {fr : Frame} {ch : List PanicEntry} {w : World} (hx : x.1 = gor fr [botF]) (hl : fr.leaving (ghostProg P) w (.panicked ch)) (τ : TapeT) : gst (ghostProg P) x τ = none := by
  obtain ⟨hm, hdf, fn, hfn⟩ := hl
  unfold gst
  rw [hx]
  have e0 : stepG (ghostProg P) true (gor fr [botF]) (x.2.re τ 0) = Go.unwind (ghostProg P) true fr [botF] none (x.2.re τ 0) := by
    unfold stepG
    simp only [hm]
  have hc : fr.catches (ghostProg P) = false := by unfold Frame.catches; rw [hfn]
  rw [e0]
  unfold Go.unwind
  simp only [hdf, hm, hc, Bool.false_eq_true, if_false]
  rfl
/-- a run that cannot go on is the longest -/
theorem runX_stuck {X : Type} {st : X → TapeT → Option (X × Nat)} : ∀ (n : Nat) {x z y : X} {τ : TapeT} {m : Nat}, runX st n x τ = some z → (∀ σ, st z σ = none) → runX st m x τ = some y → m ≤ n
  | 0, x, z, y, τ, m, h, hz, hy => by
    have h1 : some x = some z := h
    cases h1
    cases m with
    | zero => exact Nat.le_refl _
    | succ m => rw [runX_none (hz τ)] at hy; cases hy
  | n + 1, x, z, y, τ, m, h, hz, hy => by
    cases m with
    | zero => omega
    | succ m =>
      cases hs : st x τ with
      | none => rw [runX_none hs] at h; cases h
      | some xk =>
        obtain ⟨x1, k⟩ := xk
        rw [runX_some hs] at h hy
        have := runX_stuck n h hz hy
        omega
theorem runX_add {X : Type} {st : X → TapeT → Option (X × Nat)} : ∀ (n : Nat) {x y : X} {τ : TapeT} {m : Nat}, runX st n x τ = some y → ∃ D, runX st (n + m) x τ = runX st m y (shiftT τ D)
  | 0, x, y, τ, m, h => by
    have h1 : some x = some y := h
    cases h1
    refine ⟨0, ?_⟩
    rw [Nat.zero_add, show shiftT τ 0 = τ from by funext j; show τ (0 + j) = _; rw [Nat.zero_add]]
  | n + 1, x, y, τ, m, h => by
    cases hs : st x τ with
    | none => rw [runX_none hs] at h; cases h
    | some xk =>
      obtain ⟨x1, k⟩ := xk
      rw [runX_some hs] at h
      obtain ⟨D, hD⟩ := runX_add (m := m) n h
      refine ⟨k + D, ?_⟩
      rw [Nat.add_right_comm, runX_some hs, hD]
      congr 1
      funext j
      show τ (k + (D + j)) = τ (k + D + j)
      rw [Nat.add_assoc]
end
end Go.Sf

/-! Lifting library, part 25 -/
namespace Go.Sf
open Go Go.Conc
section
variable {P : Program} [Bad] [BadIn P] [Odds]
theorem shiftT_zero (τ : TapeT) : shiftT τ 0 = τ := by funext j; show τ (0 + j) = _; rw [Nat.zero_add]
/-- the contract of a lone run of the ghost's: it returns, or it has probed -/
def LoneR (Φ : Phase P) (R : Value → World → Prop) (e : Ending) (v' : World) : Prop := (∃ u, e = .returned u ∧ R u v') ∨ ((∃ ch, e = .panicked ch) ∧ Φ.PreW v' ∧ ¬ San v'.tape)
/-- where a lone run of the ghost's ends, as a row of its steps -/
theorem ends_of_calls {Φ : Phase P} {R : Value → World → Prop} {f : FuncId} {args : Array Value} {v : World} {S : Nat → Nat} {τ : TapeT} (hf : @fnOK _ trueAsks P f)
    (hI : @GInv _ allAsks (ghostProg P) S (gor (Frame.enter P f args .normal) [botF], v.nil)) (hC : Calls (ghostProg P) f args (v.re τ 0) (LoneR Φ R)) :
    ∃ n fr e v', runX (gst (ghostProg P)) n (gor (Frame.enter P f args .normal) [botF], v.nil) τ = some (gor fr [botF], v'.nil) ∧ v'.tape = τ ∧ fr.fn = f ∧ fr.leaving (ghostProg P) v' e ∧ LoneR Φ R e v' := by
  obtain ⟨e, v', fr, hRe, hcomes, hfn, hleave⟩ := hC [botF]
  have hst : Steps (ghostProg P) (lone (Frame.enter (ghostProg P) f args .normal) [botF] (v.re τ 0)) (lone fr [botF] v') := by
    rcases hRe with ⟨u, rfl, -⟩ | ⟨⟨ch, rfl⟩, -⟩ <;> exact hcomes
  obtain ⟨n, hn⟩ := hst
  rw [@enter_ghost _ trueAsks P _ f hf] at hn
  have := @steps_run _ allAsks P _ allAsks_all S [botF] (by simp) n (gor (Frame.enter P f args .normal) [botF], v.nil) _ _ τ 0 fr v' hI rfl hn
  rw [shiftT_zero] at this
  exact ⟨n, fr, e, v', this.1, this.2, hfn, hleave, hRe⟩
theorem start_inv {f : FuncId} {args : Array Value} {v w : World} {S : Nat → Nat} (hf : @fnOK _ trueAsks P f) (hW : @WSim _ trueAsks P S v w) :
    @GInv _ allAsks (ghostProg P) (fun b => if S b = 2 then 2 else 0) (gor (Frame.enter P f args .normal) [botF], v.nil) := by
  have h1 := @FrOK.enter _ trueAsks P _ f args hf
  have h2 := @FrOK.ghost _ trueAsks P _ _ h1
  have h3 := FrOK_asks (A2 := allAsks) (fun _ _ => trivial) h2
  have h4 := WSim_asks (A2 := allAsks) (fun _ _ => trivial) (fun _ _ _ => trivial) hW
  have h5 := @WSim.self _ allAsks S P _ v w h4 fun _ => trivial
  exact @GInv.mk _ allAsks (ghostProg P) _ _ ⟨Frame.enter P f args .normal, [], rfl, h3, fun f h => by cases h⟩ (@WSim.re _ allAsks _ _ _ _ h5 _ _ 0 0) rfl
theorem leave_stuck {fr : Frame} {v' : World} {e : Ending} {Φ : Phase P} {R : Value → World → Prop} (hl : fr.leaving (ghostProg P) v' e) (hR : LoneR Φ R e v') (σ : TapeT) : gst (ghostProg P) (gor fr [botF], v'.nil) σ = none := by
  rcases hR with ⟨u, rfl, -⟩ | ⟨⟨ch, rfl⟩, -⟩
  · exact ZEnd.stuck (f := fr.fn) (R := fun _ _ => True) ⟨fr, v'.tape, v'.drawn, u, rfl, rfl, hl, trivial⟩ σ
  · exact panicked_none (fr := fr) rfl hl σ
/-- what the ghost must have met where it enters the function that starts goroutines -/
theorem pre_of_probe {Φ : Phase P} {R : Value → World → Prop} {f : FuncId} {args : Array Value} {v : World} {S : Nat → Nat} (hf : @fnOK _ trueAsks P f)
    (hI : @GInv _ allAsks (ghostProg P) S (gor (Frame.enter P f args .normal) [botF], v.nil)) (hC : ∀ τ, Calls (ghostProg P) f args (v.re τ 0) (LoneR Φ R))
    {n : Nat} {τ0 : TapeT} {z : Goroutine × World} (hz : runX (gst (ghostProg P)) n (gor (Frame.enter P f args .normal) [botF], v.nil) τ0 = some z)
    {args' : Array Value} {K : List Frame} (hz1 : z.1 = gor (Frame.enter (ghostProg P) Bad.f args' .normal) (K ++ [botF])) : Φ.Pre (argAt (ghostProg P) Bad.f args' 0) (argAt (ghostProg P) Bad.f args' 1) z.2.heap.size z.2 := by
  obtain ⟨hIz, D, hD⟩ := @runX_local _ allAsks P _ allAsks_all S n _ _ _ hI hz
  obtain ⟨τp, hp⟩ := Φ.probe args' z.2
  obtain ⟨e, v1, fr1, ⟨⟨ch, rfl⟩, hheap⟩, hcomes, hfn1, hleave1⟩ := hp (K ++ [botF])
  have hst : Steps (ghostProg P) (lone (Frame.enter (ghostProg P) Bad.f args' .normal) (K ++ [botF]) (z.2.re τp 0)) (lone fr1 (K ++ [botF]) v1) := hcomes
  obtain ⟨M, hM⟩ := hst
  have hK : K ++ [botF] ≠ [] := by simp
  obtain ⟨hrun1, -⟩ := @steps_run _ allAsks P _ allAsks_all S _ hK M z _ _ τp 0 fr1 v1 hIz hz1 hM
  rw [shiftT_zero] at hrun1
  obtain ⟨hIp, -⟩ := @runX_local _ allAsks P _ allAsks_all S M _ _ _ hIz hrun1
  let σ : TapeT := fun j => if j < D then τ0 j else τp (j - D)
  have hσ1 : ∀ j, j < D → σ j = τ0 j := fun j hj => by show (if j < D then τ0 j else τp (j - D)) = _; rw [if_pos hj]
  have hσ2 : shiftT σ D = τp := by
    funext j
    show (if D + j < D then τ0 (D + j) else τp (D + j - D)) = _
    rw [if_neg (by omega), Nat.add_sub_cancel_left]
  obtain ⟨N, fre, e, ve, hrunN, htape, hfne, hlee, hRe⟩ := ends_of_calls hf hI (hC σ)
  have hpath := hD σ hσ1 M
  rw [hσ2, hrun1] at hpath
  have hle := runX_stuck N hrunN (leave_stuck hlee hRe) hpath
  obtain ⟨D2, hD2⟩ := runX_add (m := N - (n + M)) (n + M) hpath
  rw [show n + M + (N - (n + M)) = N by omega, hrunN] at hD2
  have hP0 : @PInv _ allAsks (ghostProg P) v1.nil (gor fr1 (K ++ [botF]), v1.nil) := by
    obtain ⟨⟨fr', L', hx', hf', hL'⟩, -, -⟩ := hIp
    have e1 : fr1 = fr' := congrArg Goroutine.frame hx'
    have e2 : K = L' := List.append_cancel_right (congrArg Goroutine.callers hx')
    subst e1 e2
    exact @PInv.mk _ allAsks (ghostProg P) v1.nil _ ⟨fr1, K, ch, rfl, hleave1.1, hf', hL'⟩ (@HeapK.refl _ allAsks _)
  have hPe := @PInv.runX _ allAsks P _ allAsks_all S v1.nil _ _ _ _ hIp hP0 hD2.symm
  obtain ⟨⟨fr', L', ch', hx', hm', -, -⟩, hH⟩ := hPe
  have e1 : fre = fr' := congrArg Goroutine.frame hx'
  subst e1
  rcases hRe with ⟨u, rfl, -⟩ | ⟨⟨ch2, rfl⟩, ⟨b, x, y, hb, hbs, hpre⟩, -⟩
  · have := hlee.1
    rw [hm'] at this
    cases this
  · obtain ⟨hs1, hs2, hs3⟩ := hH
    have hsz : ve.heap.size = v1.heap.size := hs1
    have hv1 : v1.heap.size = z.2.heap.size + 1 := by rw [hheap, Array.size_push]
    obtain rfl : b = z.2.heap.size := by omega
    have hlog : v1.heap[z.2.heap.size]? = some (logOf Φ.ty (argAt (ghostProg P) Bad.f args' 0) (argAt (ghostProg P) Bad.f args' 1)) := by rw [hheap]; simp
    have hlog2 : ve.heap[z.2.heap.size]? = _ := hs2 _ _ hlog (by intro ds; simp [logOf])
    rw [hb] at hlog2
    have hinj := Option.some.inj hlog2
    unfold logOf at hinj
    simp only [Obj.cells.injEq, Array.mk.injEq, List.cons.injEq, Value.func.injEq, and_true, true_and] at hinj
    obtain ⟨rfl, rfl⟩ := hinj
    refine Φ.stays _ _ _ _ _ hpre (Nat.le_refl _) fun k o hk hko hn => ?_
    have hkz : z.2.heap[k]? = some (z.2.heap[k]'hk) := Array.getElem?_eq_getElem hk
    have hk1 : v1.heap[k]? = some (z.2.heap[k]'hk) := by rw [hheap, Array.getElem?_push_lt hk]
    have key : ∀ o', v1.heap[k]? = some o' → z.2.heap[k]? = some o' → z.2.heap[k]? = some o := fun o' h1 h2 => by
      by_cases hd : ∃ ds, o' = .deferred ds
      · obtain ⟨ds, rfl⟩ := hd
        obtain ⟨ds', h3⟩ := hs3 k ds h1
        have h4 : ve.heap[k]? = some (.deferred ds') := h3
        rw [hko] at h4
        exact (hn ds' (Option.some.inj h4)).elim
      · have h3 : ve.heap[k]? = some o' := hs2 k o' h1 fun ds e => hd ⟨ds, e⟩
        rw [hko] at h3
        rw [h2, Option.some.inj h3]
    exact key _ hk1 hkz
end
end Go.Sf

/-! Lifting library, part 26 -/
namespace Go.Sf
open Go Go.Conc
section
variable {P : Program} [Bad] [BadIn P] [Odds]
theorem tree_s {Φ : Phase P} {R : Value → World → Prop} {f : FuncId} {args : Array Value} {v : World} {S : Nat → Nat} (hf : @fnOK _ trueAsks P f)
    (hI : @GInv _ allAsks (ghostProg P) S (gor (Frame.enter P f args .normal) [botF], v.nil)) (hC : ∀ τ, Calls (ghostProg P) f args (v.re τ 0) (LoneR Φ R)) :
    Tree (stS (ghostProg P)) (ZEnd P f R) (gor (Frame.enter P f args .normal) [botF], v.nil) := by
  refine bar (Inv := @GInv _ allAsks (ghostProg P) S) (fun x τ y k hx hs => ?_) hI fun τ => ?_
  · obtain ⟨h1, h2⟩ := @gst_inv _ allAsks P _ allAsks_all S x y (san τ) k hx hs
    refine ⟨h1, fun σ hσ => h2 (san σ) fun j q hj => ?_⟩
    have := hσ j
    unfold san
    split
    · split
      · rfl
      · exact this _ hj
    · exact this _ hj
  · obtain ⟨n, fr, e, v', hrun, htape, hfn, hleave, hRe⟩ := ends_of_calls hf hI (hC (san τ))
    refine ⟨n, (gor fr [botF], v'.nil), by rw [runX_stS]; exact hrun, ?_⟩
    rcases hRe with ⟨u, rfl, hR⟩ | ⟨-, -, hn⟩
    · exact ⟨fr, v'.tape, v'.drawn, u, rfl, hfn, hleave, hR⟩
    · rw [htape] at hn
      exact (hn (san_san τ)).elim
set_option maxHeartbeats 1000000 in
/-- **a lone contract of the ghost's program is a good run of the true one** -/
theorem wins_of_calls (Φ : Phase P) {R Post : Value → World → Prop} {f : FuncId} {args : Array Value} {v w : World} {S : Nat → Nat} (hf : @fnOK _ trueAsks P f) (hinit : P.inits.idxOf? f = none) {fnd : Func} {tr : Tmp} (hfnd : P.funcs[f]? = some fnd) (htr : fnd.results = #[.tmp tr])
    (hW : @WSim _ trueAsks P S v w) (hC : ∀ τ, Calls (ghostProg P) f args (v.re τ 0) (LoneR Φ R)) (hEnd : ∀ u v' S' w', R u v' → @WSim _ trueAsks P S' v' w' → Post u w') :
    Wins P Post S (gor (Frame.enter P f args .normal) []) w := by
  have hI := start_inv (args := args) hf hW
  have hT := tree_s hf hI hC
  have key : ∀ x, Tree (stS (ghostProg P)) (ZEnd P f R) x → (∃ n0 τ0, San τ0 ∧ runX (gst (ghostProg P)) n0 (gor (Frame.enter P f args .normal) [botF], v.nil) τ0 = some x) →
      ∀ n τ y, San τ → runX (gst (ghostProg P)) n x τ = some y → ∀ fr L S w, y.1 = gor fr (L ++ [botF]) → @FrOK _ trueAsks P fr → (∀ f ∈ L, @FrOK _ trueAsks P f) → @WSim _ trueAsks P S y.2 w → Wins P Post S (gor fr L) w := by
    intro x hx
    induction hx with
    | @stop x hz =>
      intro _ n τ y hτ hr fr L S w hy hfr hL hW
      cases n with
      | succ n => rw [runX_none (hz.stuck τ)] at hr; cases hr
      | zero =>
        have h1 : some x = some y := hr
        cases h1
        obtain ⟨fr1, τ1, d1, u, hx1, hfn, hleave, hRu⟩ := hz
        rw [hy] at hx1
        have hL0 : L = [] := by
          have := congrArg Goroutine.callers hx1
          cases L with
          | nil => rfl
          | cons a l => simp at this
        subst hL0
        obtain rfl : fr = fr1 := congrArg Goroutine.frame hx1
        obtain ⟨hm, hdf, hk, fn, hfnl, hres⟩ := hleave
        obtain ⟨fn', hfn1, hfine, hfb, -⟩ := @FrOK.fn _ trueAsks _ _ hfr
        rw [@fn_ghost _ trueAsks P _ _ _ hfn1 hfine hfb] at hfnl
        cases hfnl
        rw [hfn, hfnd] at hfn1
        obtain rfl : fnd = fn := Option.some.inj hfn1
        rw [results_tmp htr] at hres
        obtain rfl : fr.tmps.getD tr undef = u := by injection hres
        refine Wins.end rfl fun d => ⟨fr.tmps.getD tr undef, #[], ?_, by simp, ?_⟩
        · have e2 : stepG P true (gor fr []) (w.at d) = Go.unwind P true fr [] none (w.at d) := by
            unfold stepG
            simp only [hm]
          have hi : P.inits.idxOf? fr.fn = none := by rw [hfn]; exact hinit
          have hrt : (Go.results fnd fr.tmps).runT P (w.at d) #[] = (.ok (fr.tmps.getD tr undef) (w.at d), #[]) := by
            have h1 := Sem.runT_fst P (Go.results fnd fr.tmps) (w.at d) #[]
            rw [results_tmp htr] at h1
            have h2 := events_results_tmp (P := P) (w := w.at d) htr fr.tmps #[]
            unfold Sem.events at h2
            exact Prod.ext h1 h2
          rw [e2]
          unfold Go.unwind
          rw [← hfn] at hfnd
          simp only [hdf, hm, hfnd, hrt, doReturn, hk, hi]
          simp [GStep.after, seen]
        · exact hEnd _ _ S _ hRu (@WSim.re _ trueAsks _ _ _ _ hW τ1 w.tape d1 d)
    | @step x f0 hst _ ih =>
      intro ⟨n0, τ0, hτ0, hr0⟩
      obtain ⟨hIx, D, hD⟩ := @runX_local _ allAsks P _ allAsks_all _ n0 _ _ _ hI hr0
      have reach : ∀ τ, San τ → ∃ n0 τ0, San τ0 ∧ runX (gst (ghostProg P)) n0 (gor (Frame.enter P f args .normal) [botF], v.nil) τ0 = some (f0 τ).1 := fun τ hτ => by
        let σ : TapeT := fun j => if j < D then τ0 j else τ (j - D)
        have hσ1 : ∀ j, j < D → σ j = τ0 j := fun j hj => by show (if j < D then τ0 j else τ (j - D)) = _; rw [if_pos hj]
        have hσ2 : shiftT σ D = τ := by
          funext j
          show (if D + j < D then τ0 (D + j) else τ (D + j - D)) = _
          rw [if_neg (by omega), Nat.add_sub_cancel_left]
        refine ⟨n0 + 1, σ, fun j => ?_, ?_⟩
        · show (if j < D then τ0 j else τ (j - D)) _ = 0
          split
          · exact hτ0 j
          · exact hτ _
        · rw [hD σ hσ1 1, hσ2]
          have h1 : gst (ghostProg P) x τ = some (f0 τ) := by
            have := hst τ
            unfold stS at this
            rw [san_of hτ] at this
            exact this
          exact runX_some (n := 0) (k := (f0 τ).2) (y := (f0 τ).1) h1
      intro n τ y hτ hr
      cases n with
      | succ n =>
        have h1 : gst (ghostProg P) x τ = some ((f0 τ).1, (f0 τ).2) := by
          have := hst τ
          unfold stS at this
          rw [san_of hτ] at this
          exact this
        rw [runX_some h1] at hr
        exact ih τ (reach τ hτ) n _ y (hτ.shift _) hr
      | zero =>
        have h1 : some x = some y := hr
        cases h1
        intro fr L S w hx hf' hL hW
        refine Wins.one rfl fun d => ?_
        have hs := @step_sim _ trueAsks S P _ botF [] (x.2.re (san (shiftT w.tape d)) 0) (w.re w.tape w.drawn) (@WSim.re _ trueAsks _ _ _ _ hW (san (shiftT w.tape d)) w.tape 0 w.drawn) fr L hf' hL
        have hgs := hst (san (shiftT w.tape d))
        unfold stS gst at hgs
        rw [san_of (san_san _), hx] at hgs
        have hreach := reach (san (shiftT w.tape d)) (san_san _)
        have ih := ih (san (shiftT w.tape d)) hreach
        generalize hf0 : f0 (san (shiftT w.tape d)) = yk at hgs ih hreach
        generalize hrr : stepG (ghostProg P) true (gor fr (L ++ [botF])) (x.2.re (san (shiftT w.tape d)) 0) = r at hs hgs
        cases r with
        | go g' v' es =>
          simp only [] at hgs
          by_cases hc : g'.callers.isEmpty = true
          · rw [if_pos hc] at hgs; cases hgs
          · rw [if_neg hc] at hgs
            cases hgs
            have hag : ∀ k, @Agree _ trueAsks k (x.2.re (san (shiftT w.tape d)) 0) w.tape d := fun k => Agree_true fun j q hj hq => by
              show w.tape (d + j) q = san (shiftT w.tape d) (0 + j) q
              rw [san_eq _ hq, Nat.zero_add]; rfl
            rcases hs with (⟨hs, _⟩ | ⟨k, args', fr', L', hg', hf2, hL2, w', es1, ht, hd, hsz, hW1, hes, hrun⟩) | ⟨k, fr', L', hg', hf2, hL2, w', es1, ht, hd, hsz, hW1, hes, hrun⟩
            · rw [hs] at hc; exact (hc rfl).elim
            · have hrun' := hrun w.tape d (hag k)
              refine ⟨_, _, es1, (by rw [List.append_nil] at hrun'; exact hrun'), ?_, ?_, ?_⟩
              · show w.heap.size ≤ w'.heap.size
                have e1 : x.2.heap.size = w.heap.size := @WSim.size _ trueAsks _ _ _ _ hW
                have e2 : v'.heap.size = w'.heap.size := @WSim.size _ trueAsks _ _ _ _ hW1
                have e3 : x.2.heap.size ≤ v'.heap.size := hsz
                omega
              · intro e he
                have e2 : v'.heap.size = w'.heap.size := @WSim.size _ trueAsks _ _ _ _ hW1
                show EvOK S w'.heap.size e
                rw [← e2]; exact hes e he
              · -- the function that starts goroutines
                obtain ⟨nz, τz, hτz, hz⟩ := hreach
                subst hg'
                have hpre := pre_of_probe (args' := args') (K := fr' :: L') hf hI hC hz rfl
                obtain ⟨hIz, -⟩ := @runX_local _ allAsks P _ allAsks_all _ nz _ _ _ hI hz
                let τ1 : TapeT := fun _ _ => 0
                have hτ1 : San τ1 := fun j => rfl
                obtain ⟨e, v2, frb, ⟨u, rfl, hRG⟩, hcomes, hfnb, hleaveb⟩ := Φ.alone args' v'.nil hpre τ1 hτ1 (fr' :: (L' ++ [botF]))
                have hst2 : Steps (ghostProg P) (lone (Frame.enter (ghostProg P) Bad.f args' .normal) (fr' :: (L' ++ [botF])) (v'.nil.re τ1 0)) (lone (fr'.finish u) (L' ++ [botF]) v2) :=
                  Steps.trans hcomes (Steps.one (step_leave_returned hleaveb))
                obtain ⟨M, hM⟩ := hst2
                have hrunM := (@steps_run _ allAsks P _ allAsks_all _ (L' ++ [botF]) (by simp) M (gor (Frame.enter (ghostProg P) Bad.f args' .normal) (fr' :: (L' ++ [botF])), v'.nil) _ _ τ1 0 _ _ hIz rfl hM).1
                rw [shiftT_zero] at hrunM
                have := Φ.phase Post S v'.nil (w'.re w.tape (d + k)) args' fr' L' u v2.nil (@WSim.re _ trueAsks _ _ _ _ hW1 _ _ _ _) hpre hRG fun S2 w2 hW2 _ =>
                  ih M τ1 _ hτ1 hrunM (fr'.finish u) L' S2 w2 rfl (@FrOK.finish _ trueAsks _ _ _ hf2 u) hL2 hW2
                rw [List.append_nil]
                exact this
            · have hrun' := hrun w.tape d (hag k)
              refine ⟨_, _, es1, (by rw [List.append_nil] at hrun'; exact hrun'), ?_, ?_, ?_⟩
              · show w.heap.size ≤ w'.heap.size
                have e1 : x.2.heap.size = w.heap.size := @WSim.size _ trueAsks _ _ _ _ hW
                have e2 : v'.heap.size = w'.heap.size := @WSim.size _ trueAsks _ _ _ _ hW1
                have e3 : x.2.heap.size ≤ v'.heap.size := hsz
                omega
              · intro e he
                have e2 : v'.heap.size = w'.heap.size := @WSim.size _ trueAsks _ _ _ _ hW1
                show EvOK S w'.heap.size e
                rw [← e2]; exact hes e he
              · rw [List.append_nil]
                exact ih 0 _ _ (san_san (shiftT w.tape d)) rfl fr' L' S _ hg' hf2 hL2 (@WSim.re _ trueAsks _ _ _ _ hW1 _ _ _ _)
        | _ => cases hgs
  exact key _ hT ⟨0, fun _ _ => 0, fun _ => rfl, rfl⟩ 0 (fun _ _ => 0) _ (fun _ => rfl) rfl _ [] S w rfl (@FrOK.enter _ trueAsks P _ f args hf) (fun f h => by cases h) (@WSim.re _ trueAsks _ _ _ _ hW _ w.tape _ w.drawn)
end
end Go.Sf
