/- Lifting library, part 11 -/
import Derived.Test.YtphgnbjikgglmaaNA
import Derived.Control
import Derived.RunT
import Derived.Conc.Beside
import Derived.Calls
import Derived.RunNT
import Derived.DuoClaim
set_option linter.all false
/-! Lifting library, part 11 -/
namespace Go.Sf
open Go Go.Conc
section
variable [Bad] [Asks] {S : Nat → Nat} {P : Program} [BadIn P] {α β γ : Type} {A : α → Prop} {B : β → Prop}
def collected (d : Deferred) : Prop := ∃ r, d.target = .collected r
theorem SOk.enterLoop {f : FuncId} {tmps : Array Value} {ps : Array Tmp} {a b : Code} {o : Option Nat} (ha : codeFine P a = true) (hb : codeFine P b = true) (hf : fnOK P f) : SOk S P (fun x => ∀ d ∈ x.2, collected d) (Instr.enterLoop f tmps ps a b o) := by
  unfold Instr.enterLoop
  have rest : ∀ (ds : Nat) (mk : List Deferred), (∀ d ∈ mk, collected d) → SOk S P (fun x : Nat × List Deferred => ∀ d ∈ x.2, collected d) (do Pure.pure (← Go.newObj (.loop { state := .ready, pending := none, fn := f, tmps := tmps, params := ps, assign := a, body := b, defers := ds }), mk) : Sem (Nat × List Deferred)) := fun ds mk hm =>
    SOk.bind1 (SOk.newObj ⟨ha, hb, fun c h => (nomatch h), hf⟩) fun _ => SOk.pure hm
  cases o with
  | some l => exact SOk.bind1 (SOk.any SOk.getLoop) fun r => SOk.bind (A := fun p : Nat × List Deferred => p.2 = []) (SOk.pure rfl) fun q hq => rest _ _ (by rw [hq]; simp)
  | none => exact SOk.bind1 (SOk.newObj (rfl : ([] : List Deferred) = [])) fun r => SOk.bind (A := fun p : Nat × List Deferred => p.2 = [{ target := .collected r, args := #[] }]) (SOk.pure rfl) fun q hq => rest _ _ (by
      rw [hq]; intro d hd; simp at hd; subst hd; exact ⟨r, rfl⟩)
theorem SOk.beginRound {l : Nat} : SOk S P Any (Instr.beginRound l) := by
  unfold Instr.beginRound
  refine SOk.bind SOk.getLoop fun r hr => ?_
  refine SOk.bind1 (SOk.setObj hr.2 ?_) fun _ => ?_
  · exact hr.1
  · split <;> first | exact SOk.pure1 | exact SOk.runtimePanic
theorem SOk.endRound {l : Nat} {j : Option Code} (hj : ∀ c, j = some c → codeFine P c = true) : SOk S P Any (Instr.endRound l j) := by
  unfold Instr.endRound
  refine SOk.bind SOk.getLoop fun r hr => ?_
  refine SOk.bind1 (SOk.setObj hr.2 ?_) fun _ => SOk.pure1
  exact ⟨hr.1.1, hr.1.2.1, hj, hr.1.2.2.2⟩
theorem SOk.endLoop {l : Nat} : SOk S P (fun j => ∀ c, j = some c → codeFine P c = true) (Instr.endLoop l) := by
  unfold Instr.endLoop
  refine SOk.bind SOk.getLoop fun r hr => ?_
  have rest : SOk S P (fun j => ∀ c, j = some c → codeFine P c = true) (do Go.setObj l (.loop { r with state := .exhausted }); Pure.pure r.pending : Sem (Option Code)) :=
    SOk.bind1 (SOk.setObj hr.2 hr.1) fun _ => SOk.pure hr.1.2.2.1
  exact SOk.pite (fun _ => SOk.bind1 SOk.runtimePanic fun _ => rest) fun _ => rest
theorem SOk.takeDeferred {r : Nat} : SOk S P (fun x => x = []) (Instr.takeDeferred r) := by
  unfold Instr.takeDeferred
  refine SOk.getObj (fun o h1 h2 => ?_) fun b o' ho => ?_
  · cases o <;> first | exact SOk.stuck | skip
    next ds =>
    cases ds with
    | none => exact SOk.stuck
    | some ds => exact SOk.bind1 (SOk.setObj h1 trivial) fun _ => SOk.pure h2
  · exact SimS.haltL rfl (by simp [badHalt]) (by simp)
theorem SOk.results {fn : Func} {tmps : Array Value} : SOk S P Any (Go.results fn tmps) := by
  unfold Go.results
  refine SOk.bind1 (SOk.mapM fun x => ?_) fun _ => SOk.pure1
  cases x with
  | tmp t => exact SOk.pure1
  | cell a t => exact SOk.bind1 SOk.asAddr fun _ => SOk.loadVar
end
theorem seen_sub (p : Program) (fn : FuncId) (es : Array Event) : ∀ e ∈ seen p fn es, e ∈ es := by
  unfold seen
  simp only []
  rw [← Array.foldl_toList]
  have : ∀ (l : List Event) (q : Bool × Array Event), (∀ e ∈ q.2, e ∈ es) → (∀ e ∈ l, e ∈ es) → ∀ e ∈ (l.foldl (fun (x : Bool × Array Event) e => match e.loc with
      | .mark (.extern f) => ((p.funcs[f]?).any (·.norace), x.2)
      | _ => (x.1, if x.1 && !e.sync then x.2 else x.2.push e)) q).2, e ∈ es := by
    intro l
    induction l with
    | nil => intro q h1 _; exact h1
    | cons a l ih =>
      intro q h1 h2
      refine ih _ ?_ fun e he => h2 e (List.mem_cons_of_mem _ he)
      have hp : ∀ e ∈ (if q.1 && !a.sync then q.2 else q.2.push a), e ∈ es := by
        split
        · exact h1
        · intro e he
          rcases Array.mem_push.1 he with he | rfl
          · exact h1 e he
          · exact h2 e List.mem_cons_self
      cases hl : a.loc with
      | mark m => cases m <;> simp only [hl] <;> first | exact h1 | exact hp
      | _ => simp only [hl]; exact hp
  exact this es.toList _ (by simp) (by simp)
end Go.Sf

/-! Lifting library, part 12 -/
namespace Go.Sf
open Go Go.Conc
variable [Bad] [Asks]
/-- what stands in a frame of the ghost's, still to do -/
def itemOK (P : Program) : Item → Prop
  | .code c | .inLoop c | .inScope c => codeFine P c = true
  | .inRegion ops _ => (ops.all fun o => opFine P o.op) = true
  | .inBlock _ | .inRangeFunc _ | .endRangeFunc _ | .beginRound => True
  | _ => False
structure FrOK (P : Program) (fr : Frame) : Prop where
  fn : fnOK P fr.fn
  todo : ∀ it ∈ fr.todo, itemOK P it
  defers : ∀ d ∈ fr.defers, collected d
  kind : fr.kind = .normal
abbrev gor (fr : Frame) (cs : List Frame) : Goroutine := { frame := fr, callers := cs, status := .running, dying := none }
/-- a step of the ghost's, and what the true goroutine does then: the frames below the ghost's last are others -/
def StepAt (S : Nat → Nat) (P : Program) (bot : Frame) (cs : List Frame) (v w : World) (x : GStep) (y : World → GStep) : Prop :=
  match x with
  | .go g' v' _ =>
    ((g'.callers = [] ∧ ((∃ u, g' = gor (bot.finish u) []) ∨ ∃ ch, g' = gor (bot.raise ch) [])) ∨
      ∃ k args fr L, g' = gor (Frame.enter (ghostProg P) Bad.f args .normal) (fr :: (L ++ [bot])) ∧ FrOK P fr ∧ (∀ f ∈ L, FrOK P f) ∧ ∃ w' es, v'.tape = v.tape ∧ v'.drawn = v.drawn + k ∧ v.heap.size ≤ v'.heap.size ∧ WSim P S v' w' ∧ (∀ e ∈ es, EvOK S v'.heap.size e) ∧
        ∀ τ d, Agree k v τ d → y (w.re τ d) = .go (gor (Frame.enter P Bad.f args .normal) (fr :: (L ++ cs))) (w'.re τ (d + k)) es) ∨
    ∃ k fr L, g' = gor fr (L ++ [bot]) ∧ FrOK P fr ∧ (∀ f ∈ L, FrOK P f) ∧ ∃ w' es, v'.tape = v.tape ∧ v'.drawn = v.drawn + k ∧ v.heap.size ≤ v'.heap.size ∧ WSim P S v' w' ∧ (∀ e ∈ es, EvOK S v'.heap.size e) ∧
      ∀ τ d, Agree k v τ d → y (w.re τ d) = .go (gor fr (L ++ cs)) (w'.re τ (d + k)) es
  | .ended _ _ _ => True
  | _ => False
section
variable {S : Nat → Nat} {P : Program} [BadIn P] {bot : Frame} {cs : List Frame} {v w : World}
theorem StepAt.still (hW : WSim P S v w) {fr : Frame} {L : List Frame} (hf : FrOK P fr) (hL : ∀ f ∈ L, FrOK P f) {x : GStep} {y : World → GStep} (hx : x = .go (gor fr (L ++ [bot])) v) (hy : ∀ τ d, y (w.re τ d) = .go (gor fr (L ++ cs)) (w.re τ d)) : StepAt S P bot cs v w x y := by
  subst hx
  exact .inr ⟨0, fr, L, rfl, hf, hL, w, #[], rfl, rfl, Nat.le_refl _, hW, by simp, fun τ d _ => hy τ d⟩
theorem StepAt.ended {o : Outcome} {v' : World} {es : Array Event} {y : World → GStep} {x : GStep} (hx : x = .ended o v' es) : StepAt S P bot cs v w x y := by subst hx; exact trivial
theorem FrOK.set {fr : Frame} (h : FrOK P fr) {todo : List Item} (ht : ∀ it ∈ todo, itemOK P it) : FrOK P { fr with todo } := ⟨h.fn, ht, h.defers, h.kind⟩
theorem FrOK.mode {fr : Frame} (h : FrOK P fr) (m : FrameMode) : FrOK P { fr with mode := m } := ⟨h.fn, h.todo, h.defers, h.kind⟩
theorem FrOK.raise {fr : Frame} (h : FrOK P fr) (vs : List PanicEntry) : FrOK P (fr.raise vs) := by
  unfold Frame.raise
  split <;> exact h.mode _
theorem FrOK.finish {fr : Frame} (h : FrOK P fr) (x : Value) : FrOK P (fr.finish x) := by
  unfold Frame.finish
  have ht := h.todo
  split
  · next heq =>
    rw [heq] at ht
    exact ⟨h.fn, fun it hi => by
      rcases List.mem_cons.1 hi with rfl | hi
      · exact ht (.inRegion _ (_ :: _)) List.mem_cons_self
      · exact ht _ (List.mem_cons_of_mem _ hi), h.defers, h.kind⟩
  · next heq =>
    rw [heq] at ht
    exact h.set fun it hi => by
      rcases List.mem_cons.1 hi with rfl | hi
      · exact trivial
      · exact ht _ (List.mem_cons_of_mem _ hi)
  · next heq =>
    rw [heq] at ht
    exact h.set fun it hi => ht _ (List.mem_cons_of_mem _ hi)
  · next heq => rw [heq] at ht; exact (ht _ List.mem_cons_self).elim
  · next heq => rw [heq] at ht; exact (ht _ List.mem_cons_self).elim
  · exact h
theorem FrOK.enter {f : FuncId} {args : Array Value} (hf : fnOK P f) : FrOK P (Frame.enter P f args .normal) := by
  obtain ⟨fn, h1, h2, h3⟩ := hf
  refine ⟨⟨fn, h1, h2, h3⟩, fun it hi => ?_, fun d hd => (by cases hd), rfl⟩
  simp only [Frame.enter, List.mem_singleton] at hi
  subst hi
  simp only [h1, Option.bind]
  unfold funcFine at h2
  cases hb : fn.body with
  | none => rw [hb] at h2; cases h2
  | some c => rw [hb] at h2; simp only [Bool.and_eq_true] at h2; exact h2.1
theorem enter_ghost {f : FuncId} (hf : fnOK P f) (args : Array Value) : Frame.enter (ghostProg P) f args .normal = Frame.enter P f args .normal := by
  obtain ⟨fn, h1, h2, h3⟩ := hf
  have : (ghostProg P).funcs[f]? = P.funcs[f]? := by rw [fn_ghost h1 h2 h3.1, h1]
  unfold Frame.enter
  rw [this]
theorem FrOK.round {l : Nat} {f : FuncId} {tmps : Array Value} {a b : Code} (h1 : codeFine P a = true) (h2 : codeFine P b = true) (hf : fnOK P f) : FrOK P (Frame.round l f tmps a b .normal) := by
  refine ⟨hf, fun it hi => ?_, fun d hd => (by cases hd), rfl⟩
  simp only [Frame.round, List.mem_cons, List.not_mem_nil, or_false] at hi
  rcases hi with rfl | rfl | rfl
  · exact h1
  · exact trivial
  · exact h2
theorem seen_ok {P : Program} {f : FuncId} {es : Array Event} {n : Nat} (h : ∀ e ∈ es, EvOK S n e) : ∀ e ∈ seen P f es, EvOK S n e := fun e he => h e (seen_sub P f es e he)
theorem kind_normal {fr : Frame} (h : FrOK P fr) : (match fr.todo with | .call _ true _ _ :: _ => CallKind.wrapped | _ => .normal) = .normal := by
  have ht := h.todo
  cases hl : fr.todo with
  | nil => rfl
  | cons it k =>
    rw [hl] at ht
    cases it <;> first | rfl | exact (ht _ List.mem_cons_self).elim
theorem after_go {P : Program} {f : FuncId} {es : Array Event} {g : Goroutine} {w : World} : GStep.after (seen P f (#[] ++ es)) (.go g w) = .go g w (seen P f es) := by simp [GStep.after]
/-- a call or an operation -/
theorem apply_sim {s : Sem Next} (hs : SOk S P (NextOK P) s) (hW : WSim P S v w) {fr : Frame} {L : List Frame} (hf : FrOK P fr) (hL : ∀ f ∈ L, FrOK P f) :
    StepAt S P bot cs v w (stepG.apply (ghostProg P) true fr (L ++ [bot]) none s v) (fun w => stepG.apply P true fr (L ++ cs) none s w) := by
  obtain ⟨k, h⟩ := hs v w #[] hW
  have hke : (fr.kind == CallKind.early) = false := by rw [hf.kind]; rfl
  have hk0 := kind_normal hf
  unfold stepG.apply
  simp only [if_true]
  generalize hr : s.runT (ghostProg P) v #[] = r
  obtain ⟨res, esq⟩ := r
  have hres : s.run (ghostProg P) v = res := by rw [← Sem.runT_fst _ s v #[], hr]
  rw [hres] at h
  cases res with
  | ok a v1 =>
    obtain ⟨hA, w1, es1, ht, hd, hsz, hW1, hes, hrun⟩ := h
    cases a with
    | value x =>
      refine .inr ⟨k, fr.finish x, L, rfl, hf.finish x, hL, w1, seen P fr.fn es1, ht, hd, hsz, hW1, seen_ok hes, fun τ d hag => ?_⟩
      simp only [hrun τ d hag, hke, Bool.false_eq_true, if_false]
      exact after_go
    | skip =>
      refine .inr ⟨k, fr.finish undef, L, rfl, hf.finish _, hL, w1, seen P fr.fn es1, ht, hd, hsz, hW1, seen_ok hes, fun τ d hag => ?_⟩
      simp only [hrun τ d hag, hke, Bool.false_eq_true, if_false]
      exact after_go
    | enter f args =>
      rcases hA.symm with rfl | hA
      · refine .inl (.inr ⟨k, args, fr, L, ?_, hf, hL, w1, seen P fr.fn es1, ht, hd, hsz, hW1, seen_ok hes, fun τ d hag => ?_⟩)
        · split
          · next heq => exact False.elim (hf.todo _ (heq ▸ List.mem_cons_self) : itemOK P (.call _ true _ _))
          · rfl
        · simp only [hrun τ d hag, hke, Bool.false_eq_true, if_false]
          split
          · next heq => exact False.elim (hf.todo _ (heq ▸ List.mem_cons_self) : itemOK P (.call _ true _ _))
          · exact after_go
      refine .inr ⟨k, Frame.enter P f args .normal, fr :: L, ?_, .enter hA, fun g hg => ?_, w1, seen P fr.fn es1, ht, hd, hsz, hW1, seen_ok hes, fun τ d hag => ?_⟩
      · split
        · next heq => exact False.elim (hf.todo _ (heq ▸ List.mem_cons_self) : itemOK P (.call _ true _ _))
        · rw [enter_ghost hA]; rfl
      · rcases List.mem_cons.1 hg with rfl | hg
        · exact hf
        · exact hL _ hg
      · simp only [hrun τ d hag, hke, Bool.false_eq_true, if_false]
        split
        · next heq => exact False.elim (hf.todo _ (heq ▸ List.mem_cons_self) : itemOK P (.call _ true _ _))
        · exact after_go
    | round l f tmps a b =>
      refine .inr ⟨k, Frame.round l f tmps a b .normal, fr :: L, ?_, .round hA.1 hA.2.1 hA.2.2, fun g hg => ?_, w1, seen P fr.fn es1, ht, hd, hsz, hW1, seen_ok hes, fun τ d hag => ?_⟩
      · rfl
      · rcases List.mem_cons.1 hg with rfl | hg
        · exact hf
        · exact hL _ hg
      · simp only [hrun τ d hag, hke, Bool.false_eq_true, if_false]
        exact after_go
    | _ => exact hA.elim
  | halt hh v1 =>
    obtain ⟨hb, hp⟩ := h
    cases hh with
    | panic x =>
      obtain ⟨w1, es1, ht, hd, hsz, hW1, hes, hrun⟩ := hp x rfl
      refine .inr ⟨k, fr.raise [{ v := x, recovered := false }], L, rfl, hf.raise _, hL, w1, seen P fr.fn es1, ht, hd, hsz, hW1, seen_ok hes, fun τ d hag => ?_⟩
      simp only [hrun τ d hag, hke, Bool.false_eq_true, if_false]
      exact after_go
    | stuck x => exact trivial
    | unsupported u => cases u <;> first | exact trivial | exact (hb trivial).elim
    | _ => exact (hb trivial).elim
end
end Go.Sf

/-! Lifting library, part 13 -/
namespace Go.Sf
open Go Go.Conc
section
variable [Bad] [Asks] {S : Nat → Nat} {P : Program} [BadIn P] {bot : Frame} {cs : List Frame} {v w : World}
theorem oper_fine {fr : Frame} (hf : FrOK P fr) {o : Oper} (h : fr.oper? = some o) : opFine P o.op = true := by
  unfold Frame.oper? at h
  split at h
  · next heq =>
    have hh : itemOK P (.inRegion _ _) := hf.todo _ (heq ▸ List.mem_cons_self)
    have hh' := Array.all_eq_true_iff_forall_mem.1 hh
    exact hh' _ (Array.mem_of_getElem? h)
  · cases h
theorem oper_eq {p : Program} {fr : Frame} {callers : List Frame} {o : Oper} {w : World} (ho : fr.oper? = some o) (hop : opFine P o.op = true) : stepG.oper p true fr callers none w = stepG.apply p true fr callers none (execOp fr.eval o) w := by
  unfold stepG.oper
  rw [ho]
  simp only []
  split
  · next heq => rw [heq] at hop; cases hop
  · rfl
theorem oper_sim (hW : WSim P S v w) {fr : Frame} {L : List Frame} (hf : FrOK P fr) (hL : ∀ f ∈ L, FrOK P f) :
    StepAt S P bot cs v w (stepG.oper (ghostProg P) true fr (L ++ [bot]) none v) (fun w => stepG.oper P true fr (L ++ cs) none w) := by
  cases ho : fr.oper? with
  | none =>
    unfold stepG.oper
    rw [ho]
    exact trivial
  | some o =>
    have hop := oper_fine hf ho
    simp only [oper_eq ho hop]
    exact apply_sim (SOk.execOp hop) hW hf hL
theorem pop_sim {fr : Frame} {L : List Frame} (hk : fr.kind = .normal) (hL : ∀ f ∈ L, FrOK P f) {x : Value} {k : Nat} {v1 w1 : World} {es es1 : Array Event} {y : World → GStep} (ht : v1.tape = v.tape) (hd : v1.drawn = v.drawn + k) (hsz : v.heap.size ≤ v1.heap.size) (hW1 : WSim P S v1 w1) (hes : ∀ e ∈ es1, EvOK S v1.heap.size e)
    (hy : ∀ τ d, Agree k v τ d → y (w.re τ d) = GStep.after (seen P fr.fn (#[] ++ es1)) (doReturn P true fr (L ++ cs) none x (w1.re τ (d + k)))) :
    StepAt S P bot cs v w (GStep.after es (doReturn (ghostProg P) true fr (L ++ [bot]) none x v1)) y := by
  cases L with
  | nil =>
    simp only [List.nil_append, doReturn, hk]
    exact Or.inl (.inl ⟨rfl, .inl ⟨x, rfl⟩⟩)
  | cons c L =>
    simp only [List.cons_append, doReturn, hk]
    refine Or.inr ⟨k, c.finish x, L, rfl, (hL c List.mem_cons_self).finish x, fun f h => hL f (List.mem_cons_of_mem _ h), w1, seen P fr.fn es1, ht, hd, hsz, hW1, seen_ok hes, fun τ d hag => ?_⟩
    rw [hy τ d hag]
    simp only [List.cons_append, doReturn, hk]
    exact after_go
theorem unwind_sim (hW : WSim P S v w) {fr : Frame} {L : List Frame} (hf : FrOK P fr) (hL : ∀ f ∈ L, FrOK P f) :
    StepAt S P bot cs v w (Go.unwind (ghostProg P) true fr (L ++ [bot]) none v) (fun w => Go.unwind P true fr (L ++ cs) none w) := by
  obtain ⟨fn, hfn, hfine, hfb⟩ := hf.fn
  have hgn := fn_ghost hfn hfine hfb.1
  unfold Go.unwind
  cases hdf : fr.defers with
  | cons d ds =>
    obtain ⟨r, hr⟩ := hf.defers d (hdf ▸ List.mem_cons_self)
    obtain ⟨tg, ar⟩ := d
    simp only at hr
    subst hr
    simp only []
    obtain ⟨k, h⟩ := (SOk.takeDeferred (S := S) (P := P) (r := r)) v w #[] hW
    generalize hq : (Instr.takeDeferred r).runT (ghostProg P) v #[] = q
    obtain ⟨res, esq⟩ := q
    have hres : (Instr.takeDeferred r).run (ghostProg P) v = res := by rw [← Sem.runT_fst _ _ v #[], hq]
    rw [hres] at h
    cases res with
    | ok a v1 =>
      obtain ⟨rfl, w1, es1, ht, hd, hsz, hW1, hes, hrun⟩ := h
      refine Or.inr ⟨k, { fr with defers := ds }, L, rfl, ⟨hf.fn, hf.todo, fun d hd => hf.defers d (hdf ▸ List.mem_cons_of_mem _ hd), hf.kind⟩, hL, w1, seen P fr.fn es1, ht, hd, hsz, hW1, seen_ok hes, fun τ d hag => ?_⟩
      simp only [hrun τ d hag]
      exact after_go
    | halt hh v1 => exact trivial
  | nil =>
    simp only []
    cases hm : fr.mode with
    | run => exact trivial
    | panicking chain =>
      have hc : ∀ p : Program, p.funcs[fr.fn]? = some fn → fr.catches p = false := fun p hp => by
        unfold Frame.catches; rw [hp]
      simp only [hc _ hgn, hc _ hfn, Bool.false_eq_true, if_false]
      cases L with
      | nil => exact Or.inl (.inl ⟨rfl, .inr ⟨chain, rfl⟩⟩)
      | cons c L =>
        exact Or.inr ⟨0, c.raise chain, L, rfl, (hL c List.mem_cons_self).raise _, fun f h => hL f (List.mem_cons_of_mem _ h), w, #[], rfl, rfl, Nat.le_refl _, hW, by simp, fun τ d _ => rfl⟩
    | returning =>
      simp only [hgn, hfn]
      obtain ⟨k, h⟩ := (SOk.results (S := S) (P := P) (fn := fn) (tmps := fr.tmps)) v w #[] hW
      generalize hq : (Go.results fn fr.tmps).runT (ghostProg P) v #[] = q
      obtain ⟨res, esq⟩ := q
      have hres : (Go.results fn fr.tmps).run (ghostProg P) v = res := by rw [← Sem.runT_fst _ _ v #[], hq]
      rw [hres] at h
      cases res with
      | ok a v1 =>
        obtain ⟨-, w1, es1, ht, hd, hsz, hW1, hes, hrun⟩ := h
        refine pop_sim hf.kind hL ht hd hsz hW1 hes fun τ d hag => ?_
        simp only [hrun τ d hag]
      | halt hh v1 => cases hh <;> exact trivial
end
end Go.Sf

/-! Lifting library, part 14 -/
namespace Go.Sf
open Go Go.Conc
section
variable [Bad] [Asks] {S : Nat → Nat} {P : Program} [BadIn P] {bot : Frame} {cs : List Frame} {v w : World}
def leaveE (p : Program) (fr : Frame) (callers : List Frame) (jump : Option Code) (w : World) : GStep :=
  match fr.roundOf with
  | none => if jump matches none | some .ret then .go { frame := { fr with mode := .returning }, callers, status := .running, dying := none } w else .ended (.stuck "exit, goto: no such block or label" (fr.pos p)) w
  | some l =>
    let (r, es) := (Instr.endRound l jump).runT p w #[]
    GStep.after (seen p fr.fn es) <| match r with
    | .ok v w => doReturn p true fr callers none v w
    | .halt _ w => .ended (.stuck "range over a function: no such loop" (fr.pos p)) w
theorem leaveE_none {p : Program} {fr : Frame} {callers : List Frame} {jump : Option Code} {w : World} (h : fr.roundOf = none) :
    leaveE p fr callers jump w = if jump matches none | some .ret then .go { frame := { fr with mode := .returning }, callers, status := .running, dying := none } w else .ended (.stuck "exit, goto: no such block or label" (fr.pos p)) w := by
  unfold leaveE; rw [h]
theorem leaveE_some {p : Program} {fr : Frame} {callers : List Frame} {jump : Option Code} {w : World} {l : Nat} (h : fr.roundOf = some l) :
    leaveE p fr callers jump w = GStep.after (seen p fr.fn ((Instr.endRound l jump).runT p w #[]).2) (match ((Instr.endRound l jump).runT p w #[]).1 with
      | .ok v w => doReturn p true fr callers none v w
      | .halt _ w => .ended (.stuck "range over a function: no such loop" (fr.pos p)) w) := by
  unfold leaveE; rw [h]
theorem leave_sim (hW : WSim P S v w) {fr : Frame} {L : List Frame} (hf : FrOK P fr) (hL : ∀ f ∈ L, FrOK P f) {jump : Option Code} (hj : ∀ c, jump = some c → codeFine P c = true) :
    StepAt S P bot cs v w (leaveE (ghostProg P) fr (L ++ [bot]) jump v) (fun w => leaveE P fr (L ++ cs) jump w) := by
  cases hro : fr.roundOf with
  | none =>
    simp only [leaveE_none hro]
    split
    · exact StepAt.still hW (hf.mode .returning) hL rfl fun _ _ => rfl
    · exact StepAt.still hW (hf.mode .returning) hL rfl fun _ _ => rfl
    · exact trivial
  | some l =>
    simp only [leaveE_some hro]
    obtain ⟨k, h⟩ := (SOk.endRound (S := S) (P := P) (l := l) hj) v w #[] hW
    generalize hq : (Instr.endRound l jump).runT (ghostProg P) v #[] = q
    obtain ⟨res, esq⟩ := q
    have hres : (Instr.endRound l jump).run (ghostProg P) v = res := by rw [← Sem.runT_fst _ _ v #[], hq]
    rw [hres] at h
    cases res with
    | ok a v1 =>
      obtain ⟨-, w1, es1, ht, hd, hsz, hW1, hes, hrun⟩ := h
      refine pop_sim hf.kind hL ht hd hsz hW1 hes fun τ d hag => ?_
      simp only [hrun τ d hag]
    | halt hh v1 => exact trivial
theorem exitTo_ok {id : Nat} : ∀ {k k' : List Item}, exitTo id k = some k' → (∀ it ∈ k, itemOK P it) → ∀ it ∈ k', itemOK P it
  | [], k', h, _ => by cases h
  | a :: k, k', h, hk => by
    cases a with
    | inBlock b =>
      unfold exitTo at h
      split at h
      · cases h; exact fun it hi => hk it (List.mem_cons_of_mem _ hi)
      · exact exitTo_ok h fun it hi => hk it (List.mem_cons_of_mem _ hi)
    | _ => exact exitTo_ok (k := k) h fun it hi => hk it (List.mem_cons_of_mem _ hi)
theorem findLabel_ok {l : Nat} : ∀ {c c' : Code}, findLabel c l = some c' → codeFine P c = true → codeFine P c' = true := by
  intro c
  induction c with
  | seq a b iha ihb =>
    intro c' h hc
    unfold codeFine at hc
    simp only [Bool.and_eq_true] at hc
    unfold findLabel at h
    cases ha : findLabel a l with
    | some r =>
      rw [ha] at h; cases h
      unfold codeFine
      simp only [Bool.and_eq_true]
      exact ⟨iha ha hc.1, hc.2⟩
    | none => rw [ha] at h; exact ihb h hc.2
  | label l' =>
    intro c' h _
    unfold findLabel at h
    split at h
    · cases h; rfl
    · cases h
  | _ => intro c' h _; cases h
theorem gotoIn_ok {l : Nat} : ∀ {k k' : List Item}, gotoIn l k = some k' → (∀ it ∈ k, itemOK P it) → ∀ it ∈ k', itemOK P it
  | [], k', h, _ => by cases h
  | a :: k, k', h, hk => by
    have hk1 : ∀ it ∈ k, itemOK P it := fun it hi => hk it (List.mem_cons_of_mem _ hi)
    cases a with
    | inScope b =>
      unfold gotoIn at h
      cases hl : findLabel b l with
      | some r =>
        rw [hl] at h; cases h
        have hb : codeFine P b = true := hk (.inScope b) List.mem_cons_self
        intro it hi
        rcases List.mem_cons.1 hi with rfl | hi
        · exact findLabel_ok hl hb
        · rcases List.mem_cons.1 hi with rfl | hi
          · exact hb
          · exact hk1 it hi
      | none => rw [hl] at h; exact gotoIn_ok h hk1
    | _ => exact gotoIn_ok (k := k) h hk1
section
variable {p : Program} {fr : Frame} {callers : List Frame} {k : List Item}
theorem exec_nil (h : fr.todo = []) : stepG.exec p true true fr callers none w = leaveE p fr callers none w := by
  unfold stepG.exec leaveE; rw [h]; try rfl
theorem exec_ret (h : fr.todo = .code .ret :: k) : stepG.exec p true true fr callers none w = leaveE p fr callers (some .ret) w := by
  unfold stepG.exec leaveE; rw [h]; try rfl
theorem exec_exit {id : Nat} (h : fr.todo = .code (.exit id) :: k) : stepG.exec p true true fr callers none w = (exitTo id k).elim (leaveE p fr callers (some (.exit id)) w) fun todo => .go (gor { fr with todo } callers) w := by
  unfold stepG.exec leaveE; rw [h]; try rfl
theorem exec_goto {id : Nat} (h : fr.todo = .code (.goto id) :: k) : stepG.exec p true true fr callers none w = (gotoIn id k).elim (leaveE p fr callers (some (.goto id)) w) fun todo => .go (gor { fr with todo } callers) w := by
  unfold stepG.exec leaveE; rw [h]; try rfl
theorem exec_to {it : Item} (hi : it = .code .skip ∨ (∃ l, it = .code (.label l)) ∨ (∃ b, it = .inBlock b) ∨ ∃ c, it = .inScope c) (h : fr.todo = it :: k) : stepG.exec p true true fr callers none w = .go (gor { fr with todo := k } callers) w := by
  rcases hi with rfl | ⟨l, rfl⟩ | ⟨l, rfl⟩ | ⟨l, rfl⟩ <;> (unfold stepG.exec; rw [h]; try rfl)
theorem exec_seq {a b : Code} (h : fr.todo = .code (.seq a b) :: k) : stepG.exec p true true fr callers none w = .go (gor { fr with todo := .code a :: .code b :: k } callers) w := by
  unfold stepG.exec; rw [h]; try rfl
theorem exec_block {id : Nat} {b : Code} (h : fr.todo = .code (.block id b) :: k) : stepG.exec p true true fr callers none w = .go (gor { fr with todo := .code b :: .inBlock id :: k } callers) w := by
  unfold stepG.exec; rw [h]; try rfl
theorem exec_loop {it : Item} {b : Code} (hi : it = .code (.loop b) ∨ it = .inLoop b) (h : fr.todo = it :: k) : stepG.exec p true true fr callers none w = .go (gor { fr with todo := .code b :: .inLoop b :: k } callers) w := by
  rcases hi with rfl | rfl <;> (unfold stepG.exec; rw [h]; try rfl)
theorem exec_scope {b : Code} (h : fr.todo = .code (.scope b) :: k) : stepG.exec p true true fr callers none w = .go (gor { fr with todo := .code b :: .inScope b :: k } callers) w := by
  unfold stepG.exec; rw [h]; try rfl
theorem exec_cond {c : Operand} {a b : Code} (h : fr.todo = .code (.cond c a b) :: k) : stepG.exec p true true fr callers none w = match fr.eval c with
    | .bool t => .go (gor { fr with todo := .code (if t then a else b) :: k } callers) w
    | _ => .ended (.stuck "cond: bool expected" (fr.pos p)) w := by
  unfold stepG.exec; rw [h]; try rfl
theorem exec_inRegion {ops : Array Oper} {l : List Nat} (h : fr.todo = .inRegion ops l :: k) : stepG.exec p true true fr callers none w = match l with
    | [] => .go (gor { fr with todo := k } callers) w
    | i :: _ => if ((ops[i]?).map (Region.wanted · (yielded ops fr.tmps))).getD false then stepG.oper p true fr callers none w else .go (gor (fr.finish undef) callers) w := by
  obtain ⟨fn, tmps, todo, defers, mode, kind, ro⟩ := fr
  simp only at h; subst h
  unfold stepG.exec
  cases l <;> rfl
theorem exec_begin (h : fr.todo = .beginRound :: k) : stepG.exec p true true fr callers none w = stepG.apply p true fr callers none (do fr.roundOf.elim (stuck "beginRound: no round") Instr.beginRound; pure .skip) w := by
  unfold stepG.exec; rw [h]; try rfl
theorem exec_refuse {y : String} (h : fr.todo = .code (.refuse y) :: k) : stepG.exec p true true fr callers none w = .ended (.unsupported (Unsupported.elab y) (fr.pos p)) w := by
  unfold stepG.exec; rw [h]; try rfl
theorem exec_inRF {l : Nat} (h : fr.todo = .inRangeFunc l :: k) : stepG.exec p true true fr callers none w = .ended (.unsupported (.noEntry "a range function without a Go body that blocks") (fr.pos p)) w := by
  unfold stepG.exec; rw [h]; try rfl
theorem exec_region {id : Nat} {ops : Array Oper} {draw : Bool} (h : fr.todo = .code (.region id ops draw) :: k) : stepG.exec p true true fr callers none w = if !draw then .go (gor { fr with todo := .inRegion ops (List.range ops.size) :: k } callers) w
      else match (choose (.order fr.fn id)).run p w with
        | .ok t w => .go (gor { fr with todo := .inRegion ops (Region.schedule (p.follows .mixedOrders) ops t) :: k } callers) w
        | .halt _ w => .ended (.stuck "order" (fr.pos p)) w := by
  unfold stepG.exec; rw [h]; try rfl
theorem exec_endRF {l : Nat} (h : fr.todo = .endRangeFunc l :: k) : stepG.exec p true true fr callers none w = GStep.after (seen p fr.fn ((Instr.endLoop l).runT p w #[]).2) (match ((Instr.endLoop l).runT p w #[]).1 with
      | .ok jump w => .go (gor { fr with todo := (jump.map Item.code).toList ++ k } callers) w
      | .halt (.panic v) w => .go (gor (fr.raise [{ v, recovered := false }]) callers) w
      | .halt _ w => .ended (.stuck "range over a function: no such loop" (fr.pos p)) w) := by
  unfold stepG.exec; rw [h]; try rfl
theorem exec_rf {f : Operand} {params : Array Tmp} {a b : Code} (h : fr.todo = .code (.rangeFunc f params a b) :: k) : stepG.exec p true true fr callers none w =
    GStep.after (seen p fr.fn ((Instr.enterLoop fr.fn fr.tmps params a b fr.roundOf).runT p w #[]).2) (match ((Instr.enterLoop fr.fn fr.tmps params a b fr.roundOf).runT p w #[]).1 with
      | .ok (l, mk) w => stepG.apply p true { fr with todo := .inRangeFunc l :: k, defers := mk ++ fr.defers } callers none (do let d ← resolve fr.eval { callee := .value f, args := #[.const (.func (.yield l) #[] #[])], argTypes := #[] } 0; invoke d.target d.args) w
      | .halt _ w => .ended (.stuck "range over a function: no such loop" (fr.pos p)) w) := by
  unfold stepG.exec; rw [h]; try rfl
end
theorem StepAt.after {x : GStep} {y y1 : World → GStep} {k : Nat} {v1 w1 : World} {es es1 : Array Event} {f : FuncId} (ht : v1.tape = v.tape) (hd : v1.drawn = v.drawn + k) (hsz : v.heap.size ≤ v1.heap.size) (hes : ∀ e ∈ es1, EvOK S v1.heap.size e)
    (h : StepAt S P bot cs v1 w1 x y1) (hy : ∀ τ d, Agree k v τ d → y (w.re τ d) = GStep.after (seen P f (#[] ++ es1)) (y1 (w1.re τ (d + k)))) : StepAt S P bot cs v w (GStep.after es x) y := by
  cases x with
  | go g' v' es' =>
    rcases h with (h | ⟨k2, args, fr, L, hg, hf, hL, w', es2, ht2, hd2, hsz2, hW2, hes2, hrun⟩) | ⟨k2, fr, L, hg, hf, hL, w', es2, ht2, hd2, hsz2, hW2, hes2, hrun⟩
    · exact Or.inl (.inl h)
    · refine Or.inl (.inr ⟨k + k2, args, fr, L, hg, hf, hL, w', seen P f (#[] ++ es1) ++ es2, ht2.trans ht, by omega, Nat.le_trans hsz hsz2, hW2, fun e he => ?_, fun τ d hag => ?_⟩)
      · rcases Array.mem_append.1 he with he | he
        · rw [Array.empty_append] at he
          exact (seen_ok hes e he).mono hsz2
        · exact hes2 e he
      · rw [hy τ d hag.left, hrun τ (d + k) (hag.right ht hd), Nat.add_assoc]
        rfl
    · refine Or.inr ⟨k + k2, fr, L, hg, hf, hL, w', seen P f (#[] ++ es1) ++ es2, ht2.trans ht, by omega, Nat.le_trans hsz hsz2, hW2, fun e he => ?_, fun τ d hag => ?_⟩
      · rcases Array.mem_append.1 he with he | he
        · rw [Array.empty_append] at he
          exact (seen_ok hes e he).mono hsz2
        · exact hes2 e he
      · rw [hy τ d hag.left, hrun τ (d + k) (hag.right ht hd), Nat.add_assoc]
        rfl
  | _ => exact h
theorem exec_sim (hW : WSim P S v w) {fr : Frame} {L : List Frame} (hf : FrOK P fr) (hL : ∀ f ∈ L, FrOK P f) :
    StepAt S P bot cs v w (stepG.exec (ghostProg P) true true fr (L ++ [bot]) none v) (fun w => stepG.exec P true true fr (L ++ cs) none w) := by
  have ht := hf.todo
  have leave : ∀ {jump : Option Code}, (∀ c, jump = some c → codeFine P c = true) → StepAt S P bot cs v w (leaveE (ghostProg P) fr (L ++ [bot]) jump v) (fun w => leaveE P fr (L ++ cs) jump w) := fun hj => leave_sim hW hf hL hj
  have to : ∀ {todo : List Item}, (∀ it ∈ todo, itemOK P it) → StepAt S P bot cs v w (.go (gor { fr with todo } (L ++ [bot])) v) (fun w => .go (gor { fr with todo } (L ++ cs)) w) := fun h => StepAt.still hW (hf.set h) hL rfl fun _ _ => rfl
  cases hl : fr.todo with
  | nil =>
    simp only [exec_nil hl]
    exact leave fun c h => by cases h
  | cons it k =>
    rw [hl] at ht
    have hk : ∀ it ∈ k, itemOK P it := fun x hx => ht x (List.mem_cons_of_mem _ hx)
    have h0 : itemOK P it := ht it List.mem_cons_self
    have to1 : ∀ {i1 : Item}, itemOK P i1 → ∀ it ∈ i1 :: k, itemOK P it := fun h x hx => by
      rcases List.mem_cons.1 hx with rfl | hx
      · exact h
      · exact hk x hx
    have to2 : ∀ {i1 i2 : Item}, itemOK P i1 → itemOK P i2 → ∀ it ∈ i1 :: i2 :: k, itemOK P it := fun h h' x hx => by
      rcases List.mem_cons.1 hx with rfl | hx
      · exact h
      · exact to1 h' x hx
    cases it with
    | code c =>
      cases c with
      | ret => simp only [exec_ret hl]; exact leave fun c h => by cases h; rfl
      | skip => simp only [exec_to (.inl rfl) hl]; exact to hk
      | label l => simp only [exec_to (.inr (.inl ⟨l, rfl⟩)) hl]; exact to hk
      | seq a b =>
        have h1 : codeFine P (.seq a b) = true := h0
        unfold codeFine at h1
        simp only [Bool.and_eq_true] at h1
        simp only [exec_seq hl]; exact to (to2 h1.1 h1.2)
      | cond c a b =>
        have h1 : codeFine P (.cond c a b) = true := h0
        unfold codeFine at h1
        simp only [Bool.and_eq_true] at h1
        simp only [exec_cond hl]
        split
        · next t _ => cases t <;> first | exact to (to1 h1.1) | exact to (to1 h1.2)
        · exact trivial
      | block id b => simp only [exec_block hl]; exact to (to2 h0 trivial)
      | loop b => simp only [exec_loop (.inl rfl) hl]; exact to (to2 h0 h0)
      | scope b => simp only [exec_scope hl]; exact to (to2 h0 h0)
      | exit id =>
        simp only [exec_exit hl]
        cases he : exitTo id k with
        | none => exact leave (jump := some (.exit id)) fun c h => by cases h; rfl
        | some k' => exact to (exitTo_ok he hk)
      | goto id =>
        simp only [exec_goto hl]
        cases he : gotoIn id k with
        | none => exact leave (jump := some (.goto id)) fun c h => by cases h; rfl
        | some k' => exact to (gotoIn_ok he hk)
      | refuse y => simp only [exec_refuse hl]; exact trivial
      | region id ops draw =>
        simp only [exec_region hl]
        cases draw with
        | false => exact to (to1 h0)
        | true =>
          simp only [Bool.not_true, Bool.false_eq_true, if_false]
          obtain ⟨k1, h⟩ := (SOk.choose (S := S) (P := P) (q := .order fr.fn id) (hf.fn.choose_spec.2.2.2 id)) v w #[] hW
          cases hq : (choose (.order fr.fn id)).run (ghostProg P) v with
          | ok t v1 =>
            rw [hq] at h
            obtain ⟨-, w1, es1, ht, hd, hsz, hW1, hes, hrun⟩ := h
            refine Or.inr ⟨k1, { fr with todo := .inRegion ops (Region.schedule (P.follows .mixedOrders) ops t) :: k }, L, rfl, hf.set (to1 h0), hL, w1, #[], ht, hd, hsz, hW1, by simp, fun τ d hag => ?_⟩
            have := congrArg Prod.fst (hrun τ d hag)
            rw [Sem.runT_fst] at this
            simp only [this]
          | halt hh v1 => exact trivial
      | rangeFunc f params a b =>
        simp only [exec_rf hl]
        have h1 : codeFine P (.rangeFunc f params a b) = true := h0
        unfold codeFine at h1
        simp only [Bool.and_eq_true] at h1
        obtain ⟨k1, h⟩ := (SOk.enterLoop (S := S) (P := P) (f := fr.fn) (tmps := fr.tmps) (ps := params) (o := fr.roundOf) h1.1 h1.2 hf.fn) v w #[] hW
        generalize hq : (Instr.enterLoop fr.fn fr.tmps params a b fr.roundOf).runT (ghostProg P) v #[] = q
        obtain ⟨res, esq⟩ := q
        have hres : (Instr.enterLoop fr.fn fr.tmps params a b fr.roundOf).run (ghostProg P) v = res := by rw [← Sem.runT_fst _ _ v #[], hq]
        rw [hres] at h
        cases res with
        | ok x v1 =>
          obtain ⟨l, mk⟩ := x
          obtain ⟨hA, w1, es1, ht, hd, hsz, hW1, hes, hrun⟩ := h
          have hf1 : FrOK P { fr with todo := .inRangeFunc l :: k, defers := mk ++ fr.defers } := ⟨hf.fn, to1 trivial, fun d hd => by
            rcases List.mem_append.1 hd with hd | hd
            · exact hA d hd
            · exact hf.defers d hd, hf.kind⟩
          refine StepAt.after ht hd hsz hes (apply_sim (s := do let d ← resolve fr.eval { callee := .value f, args := #[.const (.func (.yield l) #[] #[])], argTypes := #[] } 0; invoke d.target d.args) SOk.callValue hW1 hf1 hL) (f := fr.fn) fun τ d hag => ?_
          simp only [hrun τ d hag]
        | halt hh v1 => exact trivial
    | inBlock b => simp only [exec_to (.inr (.inr (.inl ⟨b, rfl⟩))) hl]; exact to hk
    | inScope b => simp only [exec_to (.inr (.inr (.inr ⟨b, rfl⟩))) hl]; exact to hk
    | inLoop b => simp only [exec_loop (.inr rfl) hl]; exact to (to2 h0 h0)
    | inRangeFunc l => simp only [exec_inRF hl]; exact trivial
    | beginRound =>
      simp only [exec_begin hl]
      refine apply_sim ?_ hW hf hL
      cases fr.roundOf with
      | none => exact SOk.stuck
      | some l => exact SOk.bind1 SOk.beginRound fun _ => SOk.pure trivial
    | endRangeFunc l =>
      simp only [exec_endRF hl]
      obtain ⟨k1, h⟩ := (SOk.endLoop (S := S) (P := P) (l := l)) v w #[] hW
      generalize hq : (Instr.endLoop l).runT (ghostProg P) v #[] = q
      obtain ⟨res, esq⟩ := q
      have hres : (Instr.endLoop l).run (ghostProg P) v = res := by rw [← Sem.runT_fst _ _ v #[], hq]
      rw [hres] at h
      cases res with
      | ok x v1 =>
        obtain ⟨hA, w1, es1, ht, hd, hsz, hW1, hes, hrun⟩ := h
        refine Or.inr ⟨k1, { fr with todo := (x.map Item.code).toList ++ k }, L, rfl, hf.set fun it hi => ?_, hL, w1, seen P fr.fn es1, ht, hd, hsz, hW1, seen_ok hes, fun τ d hag => ?_⟩
        · rcases List.mem_append.1 hi with hi | hi
          · cases x with
            | none => cases hi
            | some c =>
              simp at hi
              subst hi
              exact hA c rfl
          · exact hk it hi
        · simp only [hrun τ d hag]
          exact after_go
      | halt hh v1 =>
        cases hh with
        | panic x =>
          obtain ⟨w1, es1, ht, hd, hsz, hW1, hes, hrun⟩ := h.2 x rfl
          refine Or.inr ⟨k1, fr.raise [{ v := x, recovered := false }], L, rfl, hf.raise _, hL, w1, seen P fr.fn es1, ht, hd, hsz, hW1, seen_ok hes, fun τ d hag => ?_⟩
          simp only [hrun τ d hag]
          exact after_go
        | _ => exact trivial
    | inRegion ops l =>
      simp only [exec_inRegion hl]
      cases l with
      | nil => exact to hk
      | cons i r =>
        simp only []
        split
        · exact oper_sim hW hf hL
        · exact StepAt.still hW (hf.finish undef) hL rfl fun _ _ => rfl
    | call a b c d => exact h0.elim
    | extern a b => exact h0.elim
end
end Go.Sf

/-! Lifting library, part 15 -/
namespace Go.Sf
open Go Go.Conc
section
variable [Bad] [Asks] {S : Nat → Nat} {P : Program} [BadIn P] {bot : Frame} {cs : List Frame} {v w : World}
/-- a step of the ghost's is a step of the true goroutine's -/
theorem step_sim (hW : WSim P S v w) {fr : Frame} {L : List Frame} (hf : FrOK P fr) (hL : ∀ f ∈ L, FrOK P f) :
    StepAt S P bot cs v w (stepG (ghostProg P) true (gor fr (L ++ [bot])) v) (fun w => stepG P true (gor fr (L ++ cs)) w) := by
  have hu : ∀ m, fr.mode = m → m ≠ .run → StepAt S P bot cs v w (Go.unwind (ghostProg P) true fr (L ++ [bot]) none v) (fun w => Go.unwind P true fr (L ++ cs) none w) := fun _ _ _ => unwind_sim hW hf hL
  have e1 : ∀ (p : Program) callers (w : World), fr.mode = .run → stepG p true (gor fr callers) w = stepG.exec p true true fr callers none w := fun p callers w h => by
    unfold stepG
    simp only [h]
  have e2 : ∀ (p : Program) callers (w : World), fr.mode ≠ .run → stepG p true (gor fr callers) w = Go.unwind p true fr callers none w := fun p callers w h => by
    unfold stepG
    cases hm : fr.mode with
    | run => exact (h hm).elim
    | _ => simp only [hm]
  by_cases hm : fr.mode = .run
  · simp only [e1 _ _ _ hm]; exact exec_sim hW hf hL
  · simp only [e2 _ _ _ hm]; exact unwind_sim hW hf hL
end
end Go.Sf

/-! Lifting library, part 16 -/
namespace Go.Sf
open Go Go.Conc
/-- all that the ghost is told counts -/
class AsksAll [Bad] [Asks] : Prop where
  all : ∀ q, Asks.ok q
variable [Bad] [Asks]
theorem opFine_ghost (P : Program) (o : Op) : opFine (ghostProg P) o = opFine P o := by cases o <;> rfl
theorem codeFine_ghost (P : Program) (c : Code) : codeFine (ghostProg P) c = codeFine P c := by
  induction c with
  | region i ops d =>
    unfold codeFine
    simp only [opFine_ghost]
  | seq a b ha hb => unfold codeFine; rw [ha, hb]
  | cond x a b ha hb => unfold codeFine; rw [ha, hb]
  | rangeFunc f ps a b ha hb => unfold codeFine; rw [ha, hb]
  | block i a ha => unfold codeFine; exact ha
  | loop a ha => unfold codeFine; exact ha
  | scope a ha => unfold codeFine; exact ha
  | _ => rfl
theorem funcFine_ghost (P : Program) (f : Func) : funcFine (ghostProg P) f = funcFine P f := by
  unfold funcFine
  cases f.body with
  | none => rfl
  | some c => simp only [codeFine_ghost]
theorem funcFine_gone (P : Program) : funcFine P gone = false := rfl
instance badIn_ghost {P : Program} [BadIn P] : BadIn (ghostProg P) where
  isHere := ⟨Bad.seq, ghost_bad, Bad.named, Bad.bodied⟩
  fine := by rw [funcFine_ghost]; exact BadIn.fine
theorem ghost_idem (P : Program) [BadIn P] : ghostProg (ghostProg P) = ghostProg P := by
  show ({ ghostProg P with funcs := ((ghostProg P).funcs.map fun f => if funcFine (ghostProg P) f then f else gone).setIfInBounds Bad.f Bad.seq } : Program) = ghostProg P
  have : (((ghostProg P).funcs.map fun f => if funcFine (ghostProg P) f then f else gone).setIfInBounds Bad.f Bad.seq) = (ghostProg P).funcs := by
    refine Array.ext_getElem? fun i => ?_
    by_cases hi : i = Bad.f
    · subst hi
      rw [ghost_bad, Array.getElem?_setIfInBounds_self_of_lt]
      rw [Array.size_map]
      exact (Array.getElem?_eq_some_iff.1 (ghost_bad (P := P))).1
    · rw [Array.getElem?_setIfInBounds_ne (Ne.symm hi), Array.getElem?_map, ghost_func hi]
      cases P.funcs[i]? with
      | none => rfl
      | some f =>
        simp only [Option.map, funcFine_ghost]
        by_cases h : funcFine P f = true
        · simp [h]
        · simp [h, funcFine_gone]
  rw [this]
theorem fnOK_ghost {P : Program} [BadIn P] {f : FuncId} (h : fnOK P f) : fnOK (ghostProg P) f := by
  obtain ⟨fn, h1, h2, h3⟩ := h
  exact ⟨fn, fn_ghost h1 h2 h3.1, by rw [funcFine_ghost]; exact h2, h3⟩
theorem fnOK_bad {P : Program} [BadIn P] [AsksAll] : fnOK (ghostProg P) Bad.f := ⟨Bad.seq, ghost_bad, BadIn.fine, fun _ => rfl, fun i => AsksAll.all _⟩
theorem itemOK_ghost {P : Program} {it : Item} (h : itemOK P it) : itemOK (ghostProg P) it := by
  cases it with
  | code c => exact (codeFine_ghost P c).trans h
  | inLoop c => exact (codeFine_ghost P c).trans h
  | inScope c => exact (codeFine_ghost P c).trans h
  | inRegion ops l =>
    show (ops.all fun o => opFine (ghostProg P) o.op) = true
    simp only [opFine_ghost]
    exact h
  | _ => exact h
theorem FrOK.ghost {P : Program} [BadIn P] {fr : Frame} (h : FrOK P fr) : FrOK (ghostProg P) fr := ⟨fnOK_ghost h.fn, fun it hi => itemOK_ghost (h.todo it hi), h.defers, h.kind⟩
theorem plainObj_ghost {P : Program} [BadIn P] {o : Obj} (h : plainObj P o) : plainObj (ghostProg P) o := by
  cases o with
  | loop l => exact ⟨(codeFine_ghost P _).trans h.1, (codeFine_ghost P _).trans h.2.1, fun c hc => (codeFine_ghost P _).trans (h.2.2.1 c hc), fnOK_ghost h.2.2.2⟩
  | deferred ds => cases ds <;> exact h
  | _ => exact h
/-- the ghost's world is like itself -/
theorem WSim.self {S : Nat → Nat} {P : Program} [BadIn P] {v w : World} (h : WSim P S v w) (hodd : ∀ b, Asks.odd b (.view ⟨b, 0, none⟩ 0)) : WSim (ghostProg P) (fun b => if S b = 2 then 2 else 0) v v where
  size := rfl
  obj := fun b hb => by
    obtain ⟨ov, ow, h1, h2, h3⟩ := h.obj b hb
    refine ⟨ov, ov, h1, h1, ?_⟩
    generalize hs : S b = s at h3
    cases h3 with
    | alive hp => exact .alive (plainObj_ghost hp)
    | cells => exact .alive trivial
    | odd ho => exact .odd trivial (hodd b)
  out := fun b hb => by
    rw [h.out b hb]; rfl
  os := rfl
  output := rfl
end Go.Sf

/-! Lifting library, part 17 -/
namespace Go.Sf
open Go Go.Conc
theorem least_ex {p : Nat → Prop} (h : ∃ n, p n) : ∃ n, p n ∧ ∀ m, m < n → ¬ p m := by
  obtain ⟨n, hn⟩ := h
  induction n using Nat.strongRecOn with
  | ind n ih =>
    apply Classical.byContradiction
    intro hc
    apply hc
    exact ⟨n, hn, fun m hm hp => hc (ih m hm hp)⟩
noncomputable def leastN {p : Nat → Prop} (h : ∃ n, p n) : Nat := Classical.choose (least_ex h)
theorem leastN_spec {p : Nat → Prop} (h : ∃ n, p n) : p (leastN h) := (Classical.choose_spec (least_ex h)).1
theorem leastN_min {p : Nat → Prop} (h : ∃ n, p n) {m : Nat} (hm : m < leastN h) : ¬ p m := (Classical.choose_spec (least_ex h)).2 m hm
theorem leastN_eq {p : Nat → Prop} (h : ∃ n, p n) {n : Nat} (h1 : p n) (h2 : ∀ m, m < n → ¬ p m) : leastN h = n := by
  rcases Nat.lt_trichotomy (leastN h) n with h3 | h3 | h3
  · exact (h2 _ h3 (leastN_spec h)).elim
  · exact h3
  · exact (leastN_min h h3 h1).elim
section Bar
variable {X : Type} (st : X → TapeT → Option (X × Nat)) (Z : X → Prop)
def shiftT (τ : TapeT) (k : Nat) : TapeT := fun j => τ (k + j)
def runX : Nat → X → TapeT → Option X
  | 0, x, _ => some x
  | n + 1, x, τ => match st x τ with
    | some (y, k) => runX n y (shiftT τ k)
    | none => none
/-- whatever the tape answers, one step after the other comes to a stop -/
inductive Tree : X → Prop
  | stop {x : X} : Z x → Tree x
  | step {x : X} (f : TapeT → X × Nat) : (∀ τ, st x τ = some (f τ)) → (∀ τ, Tree (f τ).1) → Tree x
variable {st Z}
open Classical in
theorem bar {Inv : X → Prop} (hI : ∀ x τ y k, Inv x → st x τ = some (y, k) → Inv y ∧ ∀ σ : TapeT, (∀ j q, j < k → σ j q = τ j q) → st x σ = some (y, k)) {x : X} (hx : Inv x)
    (h : ∀ τ, ∃ n y, runX st n x τ = some y ∧ Z y) : Tree st Z x := by
  apply Classical.byContradiction
  intro hn
  have key : ∀ x, ¬ Tree st Z x → ∃ τ, ∀ y k, st x τ = some (y, k) → ¬ Tree st Z y := fun x hx => by
    apply Classical.byContradiction
    intro hc
    apply hx
    have hh : ∀ τ, ∃ y k, st x τ = some (y, k) ∧ Tree st Z y := fun τ => by
      apply Classical.byContradiction
      intro hc2
      apply hc
      exact ⟨τ, fun y k hy ht => hc2 ⟨y, k, hy, ht⟩⟩
    refine .step (fun τ => (st x τ).getD (x, 0)) (fun τ => ?_) fun τ => ?_
    · obtain ⟨y, k, h1, _⟩ := hh τ
      rw [h1]; rfl
    · obtain ⟨y, k, h1, h2⟩ := hh τ
      rw [h1]; exact h2
  let F : X → TapeT := fun x => if hx : ¬ Tree st Z x then Classical.choose (key x hx) else fun _ _ => 0
  have hF : ∀ x, ¬ Tree st Z x → ∀ y k, st x (F x) = some (y, k) → ¬ Tree st Z y := fun x hx => by
    show ∀ y k, st x (if hx : ¬ Tree st Z x then Classical.choose (key x hx) else fun _ _ => 0) = some (y, k) → _
    rw [dif_pos hx]
    exact Classical.choose_spec (key x hx)
  let xs : Nat → X := fun n => Nat.rec x (fun _ x => match st x (F x) with | some (y, _) => y | none => x) n
  let ks : Nat → Nat := fun n => match st (xs n) (F (xs n)) with | some (_, k) => k | none => 0
  let ps : Nat → Nat := fun n => Nat.rec 0 (fun n p => p + ks n) n
  have xs1 : ∀ n, xs (n + 1) = match st (xs n) (F (xs n)) with | some (y, _) => y | none => xs n := fun n => rfl
  have ps1 : ∀ n, ps (n + 1) = ps n + ks n := fun n => rfl
  have hA : ∀ n, ¬ Tree st Z (xs n) ∧ Inv (xs n) := fun n => by
    induction n with
    | zero => exact ⟨hn, hx⟩
    | succ n ih =>
      rw [xs1]
      cases hs : st (xs n) (F (xs n)) with
      | none => exact ih
      | some yk =>
        obtain ⟨y, k⟩ := yk
        exact ⟨hF _ ih.1 _ _ hs, (hI _ _ _ _ ih.2 hs).1⟩
  have mono : ∀ m n, m ≤ n → ps m ≤ ps n := fun m n hmn => by
    induction hmn with
    | refl => exact Nat.le_refl _
    | step _ ih => rw [Nat.succ_eq_add_one, ps1]; omega
  let dead : Nat → Prop := fun n => st (xs n) (F (xs n)) = none
  let cond : Nat → Nat → Prop := fun j n => dead n ∨ j < ps (n + 1)
  let τ' : TapeT := fun j q => if hc : ∃ n, cond j n then F (xs (leastN hc)) (j - ps (leastN hc)) q else 0
  have hB : ∀ n, (∀ m, m < n → ¬ dead m) → ∀ j, (dead n ∨ j < ks n) → ∀ q, shiftT τ' (ps n) j q = F (xs n) j q := fun n hd j hj q => by
    have hc : cond (ps n + j) n := hj.imp id fun h => by rw [ps1]; omega
    have hex : ∃ n', cond (ps n + j) n' := ⟨n, hc⟩
    have hfind : leastN hex = n := by
      refine leastN_eq hex hc fun m hm hcm => ?_
      rcases hcm with hcm | hcm
      · exact hd m hm hcm
      · have := mono (m + 1) n hm
        omega
    show (if hc : ∃ n', cond (ps n + j) n' then F (xs (leastN hc)) (ps n + j - ps (leastN hc)) q else 0) = _
    rw [dif_pos hex, hfind, Nat.add_sub_cancel_left]
  have hC : ∀ n N, (∀ m, m < n → ¬ dead m) → runX st (n + N) x τ' = runX st N (xs n) (shiftT τ' (ps n)) := fun n => by
    induction n with
    | zero =>
      intro N _
      rw [Nat.zero_add]
      have : shiftT τ' (ps 0) = τ' := by funext j; show τ' (0 + j) = _; rw [Nat.zero_add]
      rw [this]; rfl
    | succ n ih =>
      intro N hd
      have e := ih (N + 1) fun m hm => hd m (by omega)
      rw [show n + 1 + N = n + (N + 1) by omega, e]
      cases hs : st (xs n) (F (xs n)) with
      | none => exact (hd n (by omega) hs).elim
      | some yk =>
        obtain ⟨y, k⟩ := yk
        have hk : ks n = k := by show (match st (xs n) (F (xs n)) with | some (_, k) => k | none => 0) = k; rw [hs]
        have hy : xs (n + 1) = y := by rw [xs1, hs]
        have hst := (hI _ _ _ _ (hA n).2 hs).2 (shiftT τ' (ps n)) fun j q hj => hB n (fun m hm => hd m (by omega)) j (.inr (by rw [hk]; exact hj)) q
        have e2 : runX st (N + 1) (xs n) (shiftT τ' (ps n)) = runX st N y (shiftT (shiftT τ' (ps n)) k) := by
          show (match st (xs n) (shiftT τ' (ps n)) with | some (y, k) => runX st N y (shiftT (shiftT τ' (ps n)) k) | none => none) = _
          rw [hst]
        have e3 : shiftT (shiftT τ' (ps n)) k = shiftT τ' (ps (n + 1)) := by
          funext j
          show τ' (ps n + (k + j)) = τ' (ps (n + 1) + j)
          rw [ps1, hk, Nat.add_assoc]
        rw [e2, e3, hy]
  obtain ⟨N, y, hrun, hz⟩ := h τ'
  by_cases hall : ∀ m, m < N → ¬ dead m
  · have e := hC N 0 hall
    rw [Nat.add_zero, hrun] at e
    have : y = xs N := Option.some.inj e
    subst this
    exact (hA N).1 (.stop hz)
  · have hex : ∃ m, m < N ∧ dead m := by
      apply Classical.byContradiction
      intro hc
      exact hall fun m hm hd => hc ⟨m, hm, hd⟩
    have hsp := leastN_spec hex
    have hmin : ∀ m, m < leastN hex → ¬ dead m := fun m hm hd => leastN_min hex hm ⟨by omega, hd⟩
    generalize leastN hex = n at hsp hmin
    have e := hC n (N - n) hmin
    rw [show n + (N - n) = N by omega, hrun] at e
    have hT : shiftT τ' (ps n) = F (xs n) := by
      funext j q
      exact hB n hmin j (.inl hsp.2) q
    rw [hT, show N - n = (N - n - 1) + 1 by omega] at e
    unfold runX at e
    have hd : st (xs n) (F (xs n)) = none := hsp.2
    rw [hd] at e
    cases e
end Bar
theorem runX_some {X : Type} {st : X → TapeT → Option (X × Nat)} {n : Nat} {x y : X} {τ : TapeT} {k : Nat} (h : st x τ = some (y, k)) : runX st (n + 1) x τ = runX st n y (shiftT τ k) := by
  show (match st x τ with | some (y, k) => runX st n y (shiftT τ k) | none => none) = _
  rw [h]
theorem runX_none {X : Type} {st : X → TapeT → Option (X × Nat)} {n : Nat} {x : X} {τ : TapeT} (h : st x τ = none) : runX st (n + 1) x τ = none := by
  show (match st x τ with | some (y, k) => runX st n y (shiftT τ k) | none => none) = _
  rw [h]
end Go.Sf

/-! Lifting library, part 18 -/
namespace Go.Sf
open Go Go.Conc
variable [Bad] [Asks]
/-- the frame that stands below the ghost's: whoever comes back to it ends -/
def botF : Frame := { fn := 0, tmps := #[], todo := [.code (.refuse "bottom")], defers := [{ target := .nil, args := #[] }], mode := .run, kind := .normal }
theorem bot_finish (P : Program) (u : Value) (v : World) : ∃ o, stepG P true (gor (botF.finish u) []) v = .ended o v := ⟨_, rfl⟩
theorem bot_raise (P : Program) (ch : List PanicEntry) (v : World) : ∃ o, stepG P true (gor (botF.raise ch) []) v = .ended o v := ⟨_, rfl⟩
theorem WSim.re {S : Nat → Nat} {P : Program} {v w : World} (h : WSim P S v w) (τ σ : TapeT) (d e : Nat) : WSim P S (v.re τ d) (w.re σ e) := ⟨h.size, h.obj, h.out, h.os, h.output⟩
theorem re_nil (w : World) (τ : TapeT) (d : Nat) : (w.re τ d).nil = w.nil := rfl
/-- one step of the ghost's, for a tape of its own -/
def gst (Q : Program) (x : Goroutine × World) (τ : TapeT) : Option ((Goroutine × World) × Nat) :=
  match stepG Q true x.1 (x.2.re τ 0) with
  | .go g v _ => if g.callers.isEmpty then none else some ((g, v.nil), v.drawn)
  | _ => none
structure GInv (P : Program) (S : Nat → Nat) (x : Goroutine × World) : Prop where
  shape : ∃ fr L, x.1 = gor fr (L ++ [botF]) ∧ FrOK P fr ∧ ∀ f ∈ L, FrOK P f
  world : WSim P S x.2 x.2
  nil : x.2 = x.2.nil
/-- the three ways of a ghost's step -/
theorem ghost_step {P : Program} [BadIn P] [AsksAll] {S : Nat → Nat} {x : Goroutine × World} (h : GInv (ghostProg P) S x) (τ : TapeT) (d0 : Nat) :
    (∃ g v es, stepG (ghostProg P) true x.1 (x.2.re τ d0) = .go g v es ∧ ((∃ u, g = gor (botF.finish u) []) ∨ ∃ ch, g = gor (botF.raise ch) [])) ∨
    (∃ o v es, stepG (ghostProg P) true x.1 (x.2.re τ d0) = .ended o v es) ∨
    ∃ k y es, GInv (ghostProg P) S y ∧ y.1.callers.isEmpty = false ∧ ∀ σ d, (∀ j q, j < k → σ (d + j) q = τ (d0 + j) q) → stepG (ghostProg P) true x.1 (x.2.re σ d) = .go y.1 (y.2.re σ (d + k)) es := by
  obtain ⟨⟨fr, L, hx, hf, hL⟩, hW, hn⟩ := h
  have hs := step_sim (P := ghostProg P) (S := S) (bot := botF) (cs := [botF]) (hW.re τ τ d0 d0) hf hL
  rw [ghost_idem] at hs
  rw [hx]
  generalize hg : stepG (ghostProg P) true (gor fr (L ++ [botF])) (x.2.re τ d0) = r at hs
  cases r with
  | go g v es =>
    have hs : (g.callers = [] ∧ ((∃ u, g = gor (botF.finish u) []) ∨ ∃ ch, g = gor (botF.raise ch) [])) ∨
        ∃ k fr' L', g = gor fr' (L' ++ [botF]) ∧ FrOK (ghostProg P) fr' ∧ (∀ f ∈ L', FrOK (ghostProg P) f) ∧ ∃ w' es1, v.tape = (x.2.re τ d0).tape ∧ v.drawn = (x.2.re τ d0).drawn + k ∧ (x.2.re τ d0).heap.size ≤ v.heap.size ∧ WSim (ghostProg P) S v w' ∧ (∀ e ∈ es1, EvOK S v.heap.size e) ∧
          ∀ τ' d, Agree k (x.2.re τ d0) τ' d → stepG (ghostProg P) true (gor fr (L ++ [botF])) ((x.2.re τ d0).re τ' d) = .go (gor fr' (L' ++ [botF])) (w'.re τ' (d + k)) es1 := by
      rcases hs with (hs | ⟨k, args, fr', L', hg', hf', hL', w', es1, ht, hd, hsz, hW1, hes, hrun⟩) | hs
      · exact .inl hs
      · refine .inr ⟨k, Frame.enter (ghostProg P) Bad.f args .normal, fr' :: L', ?_, .enter fnOK_bad, fun f hf => ?_, w', es1, ht, hd, hsz, hW1, hes, hrun⟩
        · rw [hg', ghost_idem]; rfl
        · rcases List.mem_cons.1 hf with rfl | hf
          · exact hf'
          · exact hL' _ hf
      · exact .inr hs
    rcases hs with hs | ⟨k, fr', L', hg', hf', hL', w', es1, ht, hd, hsz, hW1, hes, hrun⟩
    · exact .inl ⟨g, v, es, rfl, hs.2⟩
    · refine .inr (.inr ⟨k, (g, w'.nil), es1, ⟨⟨fr', L', hg', hf', hL'⟩, ?_, rfl⟩, ?_, fun σ d hag => ?_⟩)
      · have h0 := hrun τ d0 fun j q hj _ => rfl
        have h1 : stepG (ghostProg P) true (gor fr (L ++ [botF])) ((x.2.re τ d0).re τ d0) = .go g v es := hg
        have h2 := h0.symm.trans h1
        have h3 : w'.re τ (d0 + k) = v := by injection h2
        have h4 := hW1.re (fun _ _ => 0) (fun _ _ => 0) 0 0
        rw [← h3] at h4
        exact h4
      · rw [hg']; simp
      · have h0 := hrun σ d fun j q hj _ => hag j q hj
        have h1 : stepG (ghostProg P) true (gor fr (L ++ [botF])) (x.2.re σ d) = .go (gor fr' (L' ++ [botF])) (w'.re σ (d + k)) es1 := h0
        rw [h1, hg']
        rfl
  | ended o v es => exact .inr (.inl ⟨o, v, es, rfl⟩)
  | _ => exact hs.elim
theorem gst_inv {P : Program} [BadIn P] [AsksAll] {S : Nat → Nat} {x y : Goroutine × World} {τ : TapeT} {k : Nat} (h : GInv (ghostProg P) S x) (hs : gst (ghostProg P) x τ = some (y, k)) :
    GInv (ghostProg P) S y ∧ ∀ σ : TapeT, (∀ j q, j < k → σ j q = τ j q) → gst (ghostProg P) x σ = some (y, k) := by
  rcases ghost_step h τ 0 with ⟨g, v, es, hg, hb⟩ | ⟨o, v, es, hg⟩ | ⟨k', y', es, hI, hc, hrun⟩
  · unfold gst at hs
    rw [hg] at hs
    have : g.callers.isEmpty = true := by rcases hb with ⟨u, rfl⟩ | ⟨u, rfl⟩ <;> rfl
    simp only [this, if_true] at hs
    cases hs
  · unfold gst at hs
    rw [hg] at hs
    cases hs
  · have e : ∀ σ : TapeT, (∀ j q, j < k' → σ j q = τ j q) → gst (ghostProg P) x σ = some (y', k') := fun σ hσ => by
      unfold gst
      rw [hrun σ 0 fun j q hj => by rw [Nat.zero_add]; exact hσ j q hj]
      simp only [hc, Bool.false_eq_true, if_false]
      rw [re_nil, ← hI.nil]
      show some (y', 0 + k') = _
      rw [Nat.zero_add]
    have e0 := e τ fun _ _ _ => rfl
    rw [hs] at e0
    cases e0
    exact ⟨hI, e⟩
end Go.Sf

/-! Lifting library, part 19 -/
namespace Go.Sf
open Go Go.Conc
variable [Bad] [Asks]
theorem lone_step {P : Program} {g : Goroutine} {fr : Frame} {cs : List Frame} {v v' : World} {es : Array Event} {fr' : Frame} {cs' : List Frame} (hg : g = gor fr' cs') (h : stepG P true (gor fr cs) v = .go g v' es) : step P (lone fr cs v) = .next (lone fr' cs' v') := by
  subst hg
  exact step_lone_go (by rw [show ({ frame := fr, callers := cs, status := .running, dying := none } : Goroutine) = gor fr cs from rfl, h]; rfl)
theorem lone_end {P : Program} {fr : Frame} {cs : List Frame} {v v' : World} {es : Array Event} {o : Outcome} (h : stepG P true (gor fr cs) v = .ended o v' es) : step P (lone fr cs v) = .ended o v' :=
  step_lone_ended (by rw [show ({ frame := fr, callers := cs, status := .running, dying := none } : Goroutine) = gor fr cs from rfl, h]; rfl)
theorem lone_inj {fr fr' : Frame} {cs cs' : List Frame} {v v' : World} (h : lone fr cs v = lone fr' cs' v') : fr = fr' ∧ cs = cs' ∧ v = v' := by
  unfold lone at h
  simp only [Machine.mk.injEq, Array.mk.injEq, List.cons.injEq, Goroutine.mk.injEq, and_true, true_and] at h
  exact ⟨h.2.1, h.2.2, h.1⟩
/-- a lone run of the ghost's is a row of its steps -/
theorem steps_run {P : Program} [BadIn P] [AsksAll] {S : Nat → Nat} {K : List Frame} (hK : K ≠ []) : ∀ (n : Nat) (x : Goroutine × World) (fr0 : Frame) (cs0 : List Frame) (τ : TapeT) (k : Nat) (fr : Frame) (v' : World), GInv (ghostProg P) S x → x.1 = gor fr0 cs0 →
    runN (ghostProg P) n (lone fr0 cs0 (x.2.re τ k)) = .next (lone fr K v') → runX (gst (ghostProg P)) n x (shiftT τ k) = some (gor fr K, v'.nil) ∧ v'.tape = τ
  | 0, x, fr0, cs0, τ, k, fr, v', hI, hx, h => by
    have h' : lone fr0 cs0 (x.2.re τ k) = lone fr K v' := by injection h
    obtain ⟨rfl, rfl, h2⟩ := lone_inj h'
    refine ⟨?_, by rw [← h2]; rfl⟩
    show some x = _
    rw [← h2, re_nil, ← hI.nil, ← hx]
  | n + 1, x, fr0, cs0, τ, k, fr, v', hI, hx, h => by
    have h1 : (match step (ghostProg P) (lone fr0 cs0 (x.2.re τ k)) with | .next m' => runN (ghostProg P) n m' | o => o) = .next (lone fr K v') := h
    obtain ⟨g0, v0⟩ := x
    simp only at hx
    subst hx
    rcases ghost_step hI τ k with ⟨g, v, es, hg, hb⟩ | ⟨o, v, es, hg⟩ | ⟨k', y', es, hI', hc, hrun⟩
    · have hend : ∃ b, g = gor b [] ∧ ∃ o, stepG (ghostProg P) true (gor b []) v = .ended o v := by
        rcases hb with ⟨u, rfl⟩ | ⟨ch, rfl⟩
        · exact ⟨_, rfl, bot_finish _ u v⟩
        · exact ⟨_, rfl, bot_raise _ ch v⟩
      obtain ⟨b, hb, o, ho⟩ := hend
      rw [lone_step hb hg] at h1
      cases n with
      | zero =>
        have h2 : lone b [] v = lone fr K v' := by injection h1
        have := (lone_inj h2).2.1
        exact (hK this.symm).elim
      | succ n =>
        have h2 : (match step (ghostProg P) (lone b [] v) with | .next m' => runN (ghostProg P) n m' | o => o) = .next (lone fr K v') := h1
        rw [lone_end ho] at h2
        cases h2
    · rw [lone_end hg] at h1
      cases h1
    · have hr := hrun τ k fun j q hj => rfl
      obtain ⟨fr1, L1, hy, _, _⟩ := hI'.shape
      rw [lone_step hy hr] at h1
      have ih := steps_run hK n y' fr1 (L1 ++ [botF]) τ (k + k') fr v' hI' hy h1
      have e : gst (ghostProg P) (gor fr0 cs0, v0) (shiftT τ k) = some (y', k') := by
        unfold gst
        rw [hrun (shiftT τ k) 0 fun j q hj => by rw [Nat.zero_add]; rfl]
        simp only [hc, Bool.false_eq_true, if_false]
        rw [re_nil, ← hI'.nil]
        show some (y', 0 + k') = _
        rw [Nat.zero_add]
      rw [runX_some e]
      have e3 : shiftT (shiftT τ k) k' = shiftT τ (k + k') := by funext j; show τ (k + (k' + j)) = τ (k + k' + j); rw [Nat.add_assoc]
      rw [e3]
      exact ih
/-- what is reached hangs on the answers taken on the way alone -/
theorem runX_local {P : Program} [BadIn P] [AsksAll] {S : Nat → Nat} : ∀ (n : Nat) (x y : Goroutine × World) (τ : TapeT), GInv (ghostProg P) S x → runX (gst (ghostProg P)) n x τ = some y →
    GInv (ghostProg P) S y ∧ ∃ D, ∀ σ : TapeT, (∀ j, j < D → σ j = τ j) → ∀ m, runX (gst (ghostProg P)) (n + m) x σ = runX (gst (ghostProg P)) m y (shiftT σ D)
  | 0, x, y, τ, hI, h => by
    have h1 : some x = some y := h
    cases h1
    refine ⟨hI, 0, fun σ _ m => ?_⟩
    have : shiftT σ 0 = σ := by funext j; show σ (0 + j) = _; rw [Nat.zero_add]
    rw [this, Nat.zero_add]
  | n + 1, x, y, τ, hI, h => by
    cases hs : gst (ghostProg P) x τ with
    | none => rw [runX_none hs] at h; cases h
    | some zk =>
      obtain ⟨z, k⟩ := zk
      have h1 := h
      rw [runX_some hs] at h1
      obtain ⟨hz, hloc⟩ := gst_inv hI hs
      obtain ⟨hy, D, hD⟩ := runX_local n z y (shiftT τ k) hz h1
      refine ⟨hy, k + D, fun σ hσ m => ?_⟩
      have hsσ := hloc σ fun j q hj => by rw [hσ j (by omega)]
      rw [Nat.add_right_comm, runX_some hsσ, hD (shiftT σ k) (fun j hj => hσ (k + j) (by omega)) m]
      have : shiftT (shiftT σ k) D = shiftT σ (k + D) := by funext j; show σ (k + (D + j)) = σ (k + D + j); rw [Nat.add_assoc]
      rw [this]
end Go.Sf

/-! Lifting library, part 20 -/
namespace Go.Sf
open Go Go.Conc
/-- goroutine 0's walk beside leavers: ahead of each of its steps the others may have moved the count of draws; no bound for its length is known ahead -/
inductive GoesW (P : Program) (S : Nat → Nat) (Stop : Goroutine → World → Prop) : Goroutine → World → Prop
  | stop {a : Goroutine} {w : World} : (∀ d, Stop a (w.at d)) → GoesW P S Stop a w
  | step {a : Goroutine} {w : World} (f : Nat → Goroutine × World × Array Event) : a.status = .running → (∀ d, stepG P true a (w.at d) = .go (f d).1 (f d).2.1 (f d).2.2) →
      (∀ d, w.heap.size ≤ (f d).2.1.heap.size ∧ ∀ e ∈ (f d).2.2, EvOK S (f d).2.1.heap.size e) → (∀ d, GoesW P S Stop (f d).1 (f d).2.1) → GoesW P S Stop a w
/-- a step, told by what it comes to -/
theorem GoesW.one {P : Program} {S : Nat → Nat} {Stop : Goroutine → World → Prop} {a : Goroutine} {w : World} (hr : a.status = .running)
    (h : ∀ d, ∃ a' w' es, stepG P true a (w.at d) = .go a' w' es ∧ w.heap.size ≤ w'.heap.size ∧ (∀ e ∈ es, EvOK S w'.heap.size e) ∧ GoesW P S Stop a' w') : GoesW P S Stop a w := by
  let f : Nat → Goroutine × World × Array Event := fun d => (Classical.choose (h d), Classical.choose (Classical.choose_spec (h d)), Classical.choose (Classical.choose_spec (Classical.choose_spec (h d))))
  have hf : ∀ d, stepG P true a (w.at d) = .go (f d).1 (f d).2.1 (f d).2.2 ∧ w.heap.size ≤ (f d).2.1.heap.size ∧ (∀ e ∈ (f d).2.2, EvOK S (f d).2.1.heap.size e) ∧ GoesW P S Stop (f d).1 (f d).2.1 := fun d =>
    Classical.choose_spec (Classical.choose_spec (Classical.choose_spec (h d)))
  exact .step f hr (fun d => (hf d).1) (fun d => ⟨(hf d).2.1, (hf d).2.2.1⟩) fun d => (hf d).2.2.2
theorem GoesW.weak {P : Program} {S : Nat → Nat} {Stop Stop' : Goroutine → World → Prop} (hs : ∀ a w, Stop a w → Stop' a w) {a : Goroutine} {w : World} (h : GoesW P S Stop a w) : GoesW P S Stop' a w := by
  induction h with
  | stop h => exact .stop fun d => hs _ _ (h d)
  | step f h1 h2 h3 _ ih => exact .step f h1 h2 h3 ih
theorem GoesW.bind {P : Program} {S : Nat → Nat} {Stop Stop' : Goroutine → World → Prop} {a : Goroutine} {w : World} (h : GoesW P S Stop a w) (hs : ∀ a w, (∀ d, Stop a (w.at d)) → GoesW P S Stop' a w) : GoesW P S Stop' a w := by
  induction h with
  | stop h => exact hs _ _ h
  | step f h1 h2 h3 _ ih => exact .step f h1 h2 h3 ih
end Go.Sf

/-! Lifting library, part 21 -/
namespace Go.Sf
open Go Go.Conc
open Go.ConcN (sumTo upd sumTo_upd upd_ne upd_same)
/-- the places that goroutine 0 keeps off: blocks of the ghost's dead rows -/
def ShunS (S : Nat → Nat) : Loc → Prop
  | .cell a => S a.block = 1
  | .obj r => S r = 1
  | _ => False
theorem EvOK.evL {S : Nat → Nat} {n : Nat} {e : Event} (h : EvOK S n e) : EvL (ShunS S) n e := by
  obtain ⟨loc, wr, sy⟩ := e
  cases loc with
  | cell a =>
    refine ⟨fun x hx hs => ?_, by simp, by simp, h.2⟩
    have : x = ⟨.cell a, wr, if sy then .atomic else .plain⟩ := (Option.some.inj hx).symm
    subst this
    exact (h.1 hs).elim
  | obj r =>
    cases wr <;> cases sy
    · exact ⟨fun x hx hs => by
        have : x = ⟨.obj r, false, .plain⟩ := (Option.some.inj hx).symm
        subst this
        exact (h.1 hs).elim, by simp, by simp, h.2⟩
    · exact ⟨fun x hx hs => by
        have : x = ⟨.obj r, false, .atomic⟩ := (Option.some.inj hx).symm
        subst this
        exact (h.1 hs).elim, by simp, by simp, h.2⟩
    · exact ⟨fun x hx hs => by
        have : x = ⟨.obj r, true, .plain⟩ := (Option.some.inj hx).symm
        subst this
        exact (h.1 hs).elim, by simp, by simp, h.2⟩
    · exact ⟨fun x hx hs => (by cases hx), by simp, by simp, h.2⟩
  | mark m => cases m <;> first | exact h.elim | exact ⟨fun x hx => (by cases hx), by simp, by simp, trivial⟩
  | _ => exact h.elim
section
variable {P : Program} {S : Nat → Nat} {Stop : Goroutine → World → Prop}
/-- one step of the machine: goroutine 0's, or a leaver's -/
theorem beside_step {a : Goroutine} {w : World} {f : Nat → Goroutine × World × Array Event} (hrun : a.status = .running) (hstep : ∀ d, stepG P true a (w.at d) = .go (f d).1 (f d).2.1 (f d).2.2)
    (hsz : ∀ d, w.heap.size ≤ (f d).2.1.heap.size ∧ ∀ e ∈ (f d).2.2, EvOK S (f d).2.1.heap.size e) (d0 : Nat) (gs : Array Goroutine) (sl : Option (Nat × Nat)) (t : Trace) (q : Nat → Nat) (h0 : gs[0]? = some a) (hL : Leavers P t gs q) (hP : Past (ShunS S) w.heap.size t) :
    ∃ (gs' : Array Goroutine) (sl' : Option (Nat × Nat)) (t' : Trace) (q' : Nat → Nat) (d : Nat), gs'.size = gs.size ∧ Leavers P t' gs' q' ∧
      ((gs'[0]? = some (f d).1 ∧ Past (ShunS S) (f d).2.1.heap.size t' ∧ ∀ N, runNT P (N + 1) (crowd gs (w.at d0) sl) t = runNT P N (crowd gs' (f d).2.1 sl') t') ∨
       (gs'[0]? = some a ∧ Past (ShunS S) w.heap.size t' ∧ sumTo gs'.size q' < sumTo gs.size q ∧ ∀ N, runNT P (N + 1) (crowd gs (w.at d0) sl) t = runNT P N (crowd gs' (w.at d) sl') t')) := by
  have haw : ∀ g ∈ gs, awake g := by
    intro g hg
    obtain ⟨i, hi, rfl⟩ := Array.mem_iff_getElem.1 hg
    rcases Nat.eq_zero_or_pos i with rfl | hpos
    · have : gs[0] = a := by simpa [Array.getElem?_eq_getElem hi] using h0
      rw [this]; exact awake_of (.inl hrun)
    · exact awake_of ((hL.old i _ hpos (Array.getElem?_eq_getElem hi)).status.elim .inl fun x => .inr (.inr x))
  obtain ⟨i, g, d, sl', hi, hg, hst⟩ := crowd_pick (P := P) (w := w.at d0) (sl := sl) haw ⟨0, a, h0, hrun⟩
  rcases Nat.eq_zero_or_pos i with rfl | hpos
  · obtain rfl : g = a := by rw [h0] at hi; exact (Option.some.inj hi).symm
    have hgo := hstep d
    have hrunT := runT_crowd_go (P := P) (sl := sl') (i := 0) hi (show stepG P (0 == 0) g (w.at d) = _ from hgo)
    have hlt : 0 < gs.size := (Array.getElem?_eq_some_iff.1 h0).1
    refine ⟨(gs.map (woken P g (f d).1 (f d).2.1)).setIfInBounds 0 (f d).1, sl', t ++ MemOp.ofEvents 0 g.frame.fn g.frame.place (f d).2.2, q, d, by simp, ⟨fun j x hj hx => ?_, fun j hj => ?_⟩, .inl ⟨by simp [hlt], ?_, fun N => ?_⟩⟩
    · have hne : 0 ≠ j := by omega
      rw [Array.getElem?_setIfInBounds_ne hne, Array.getElem?_map] at hx
      obtain ⟨y, hy, rfl⟩ := Option.map_eq_some_iff.1 hx
      have hq := hL.old j y hj hy
      rw [woken_quitsD hq, Deaf_other t (by omega) (MemOp.ofEvents 0 g.frame.fn g.frame.place (f d).2.2) (fun op hop => by obtain ⟨e, _, rfl⟩ := Go.Conc.mem_ofEvents hop; rfl)]
      exact hq
    · rw [Deaf_other t (g' := 0) (by simp at hj; omega) (MemOp.ofEvents 0 g.frame.fn g.frame.place (f d).2.2) (fun op hop => by obtain ⟨e, _, rfl⟩ := Go.Conc.mem_ofEvents hop; rfl)]
      exact hL.above j (by simpa using hj)
    · exact (hP.mono (hsz d).1).own fun e he => ((hsz d).2 e he).evL
    · simp only [runNT, hst]
      rw [show ((w.at d0).at d) = w.at d from rfl] at *
      simp only [hrunT]
  · have hq := hL.old i g hpos hi
    have hi0 : (i == 0) = false := by simp; omega
    have hlt : i < gs.size := (Array.getElem?_eq_some_iff.1 hi).1
    cases hqi : q i with
    | zero => rw [hqi] at hq; rw [hq.1] at hg; cases hg
    | succ k =>
      rw [hqi] at hq
      rcases hq with ⟨hf, _⟩ | ⟨_, g', es, hm, hstp, hq'⟩
      · rw [hf] at hg; cases hg
      have hrunT := runT_crowd_go (P := P) (sl := sl') (i := i) hi (by rw [hi0]; exact hstp (w.at d))
      have hsum : sumTo gs.size (upd q i k) + (k + 1) = sumTo gs.size q + k := by
        have := sumTo_upd q k id hlt
        simpa [hqi] using this
      refine ⟨(gs.map (woken P g g' (w.at d))).setIfInBounds i g', sl', t ++ MemOp.ofEvents i g.frame.fn g.frame.place es, upd q i k, d, by simp, ⟨fun j x hj hx => ?_, fun j hj => ?_⟩, .inr ⟨?_, hP.mute (by omega) hm, ?_, fun N => ?_⟩⟩
      · by_cases hji : i = j
        · subst hji
          rw [Array.getElem?_setIfInBounds_self_of_lt (by simpa using hlt)] at hx
          obtain rfl := Option.some.inj hx
          rw [upd_same, Deaf_own]
          exact hq'
        · rw [Array.getElem?_setIfInBounds_ne hji, Array.getElem?_map] at hx
          obtain ⟨y, hy, rfl⟩ := Option.map_eq_some_iff.1 hx
          have hqj := hL.old j y hj hy
          rw [woken_quitsD hqj, upd_ne q k (Ne.symm hji), Deaf_other t hji (MemOp.ofEvents i g.frame.fn g.frame.place es) (fun op hop => by obtain ⟨e, _, rfl⟩ := Go.Conc.mem_ofEvents hop; rfl)]
          exact hqj
      · rw [Deaf_other t (g' := i) (by simp at hj; omega) (MemOp.ofEvents i g.frame.fn g.frame.place es) (fun op hop => by obtain ⟨e, _, rfl⟩ := Go.Conc.mem_ofEvents hop; rfl)]
        exact hL.above j (by simpa using hj)
      · have hne : i ≠ 0 := by omega
        rw [Array.getElem?_setIfInBounds_ne hne, Array.getElem?_map, h0]
        simp [woken_run hrun]
      · simp only [Array.size_setIfInBounds, Array.size_map]
        omega
      · simp only [runNT, hst]
        rw [show ((w.at d0).at d) = w.at d from rfl] at *
        simp only [hrunT]
/-- goroutine 0's walk, carried out by the machine beside leavers, on whatever tape -/
theorem goesW_beside {a : Goroutine} {w : World} (hG : GoesW P S Stop a w) : ∀ (M : Nat) (d0 : Nat) (gs : Array Goroutine) (sl : Option (Nat × Nat)) (t : Trace) (q : Nat → Nat), sumTo gs.size q ≤ M → gs[0]? = some a → Leavers P t gs q → Past (ShunS S) w.heap.size t →
      ∃ (N : Nat) (gs' : Array Goroutine) (a' : Goroutine) (w' : World) (sl' : Option (Nat × Nat)) (t' : Trace) (q' : Nat → Nat),
        runNT P N (crowd gs (w.at d0) sl) t = (.next (crowd gs' w' sl'), t') ∧ gs'.size = gs.size ∧ gs'[0]? = some a' ∧ Stop a' w' ∧ Leavers P t' gs' q' ∧ Past (ShunS S) w'.heap.size t' := by
  induction hG with
  | stop h => intro M d0 gs sl t q _ h0 hL hP; exact ⟨0, gs, _, _, sl, t, q, rfl, rfl, h0, h d0, hL, hP⟩
  | @step a w f hrun hstep hsz _ ih =>
    intro M
    induction M with
    | zero =>
      intro d0 gs sl t q hM h0 hL hP
      obtain ⟨gs1, sl1, t1, q1, d, hs1, hL1, ⟨h01, hP1, hr1⟩ | ⟨_, _, hlt, _⟩⟩ := beside_step hrun hstep hsz d0 gs sl t q h0 hL hP
      · obtain ⟨N, gs2, a2, w2, sl2, t2, q2, hr, hs2, h02, hS, hL2, hP2⟩ := ih d _ (f d).2.1.drawn gs1 sl1 t1 q1 (Nat.le_refl _) h01 hL1 hP1
        exact ⟨N + 1, gs2, a2, w2, sl2, t2, q2, (hr1 N).trans hr, hs2.trans hs1, h02, hS, hL2, hP2⟩
      · omega
    | succ M ihM =>
      intro d0 gs sl t q hM h0 hL hP
      obtain ⟨gs1, sl1, t1, q1, d, hs1, hL1, ⟨h01, hP1, hr1⟩ | ⟨h01, hP1, hlt, hr1⟩⟩ := beside_step hrun hstep hsz d0 gs sl t q h0 hL hP
      · obtain ⟨N, gs2, a2, w2, sl2, t2, q2, hr, hs2, h02, hS, hL2, hP2⟩ := ih d _ (f d).2.1.drawn gs1 sl1 t1 q1 (Nat.le_refl _) h01 hL1 hP1
        exact ⟨N + 1, gs2, a2, w2, sl2, t2, q2, (hr1 N).trans hr, hs2.trans hs1, h02, hS, hL2, hP2⟩
      · obtain ⟨N, gs2, a2, w2, sl2, t2, q2, hr, hs2, h02, hS, hL2, hP2⟩ := ihM d gs1 sl1 t1 q1 (by omega) h01 hL1 hP1
        exact ⟨N + 1, gs2, a2, w2, sl2, t2, q2, (hr1 N).trans hr, hs2.trans hs1, h02, hS, hL2, hP2⟩
end
end Go.Sf

/-! Lifting library, part 22 -/
namespace Go.Sf
open Go Go.Conc
/-- from here the run comes to a good end -/
def Wins0 (P : Program) (Post : Value → World → Prop) (m : Machine) (t : Trace) : Prop :=
  ∃ N last o w' t', runNT P (N + 1) m t = (.ended o w', t') ∧ runN P N m = .next last ∧ step P last = .ended o w' ∧ Conc.Good P Post last o w' t'
/-- whoever else is there only leaves: whatever the draws, the run comes to a good end -/
def Wins (P : Program) (Post : Value → World → Prop) (S : Nat → Nat) (a : Goroutine) (w : World) : Prop :=
  ∀ (gs : Array Goroutine) (sl : Option (Nat × Nat)) (t : Trace) (q : Nat → Nat) (d : Nat), gs[0]? = some a → Leavers P t gs q → Past (ShunS S) w.heap.size t → Wins0 P Post (crowd gs (w.at d) sl) t
section
variable {P : Program} {Post : Value → World → Prop} {S : Nat → Nat}
theorem Wins0.after {m m' : Machine} {t t' : Trace} {N : Nat} (h : runNT P N m t = (.next m', t')) (hw : Wins0 P Post m' t') : Wins0 P Post m t := by
  obtain ⟨K, last, o, w', t2, h1, h2, h3, h4⟩ := hw
  refine ⟨N + K, last, o, w', t2, ?_, ?_, h3, h4⟩
  · rw [Nat.add_assoc, runNT_add, h]
    exact h1
  · have e := runNT_fst P (N + K) m t
    rw [runNT_add, h] at e
    have e2 := runNT_fst P K m' t'
    rw [h2] at e2
    rw [← e]
    exact e2
theorem Wins.of_goes {Stop : Goroutine → World → Prop} {a : Goroutine} {w : World} (hG : GoesW P S Stop a w) (h : ∀ a' w', Stop a' w' → Wins P Post S a' w') : Wins P Post S a w := by
  intro gs sl t q d h0 hL hP
  obtain ⟨N, gs', a', w', sl', t', q', hr, -, h0', hS, hL', hP'⟩ := goesW_beside hG _ d gs sl t q (Nat.le_refl _) h0 hL hP
  exact Wins0.after hr (h a' w' hS gs' sl' t' q' w'.drawn h0' hL' hP')
/-- one plain step of goroutine 0's -/
theorem Wins.one {a : Goroutine} {w : World} (hr : a.status = .running)
    (h : ∀ d, ∃ a' w' es, stepG P true a (w.at d) = .go a' w' es ∧ w.heap.size ≤ w'.heap.size ∧ (∀ e ∈ es, EvOK S w'.heap.size e) ∧ Wins P Post S a' w') : Wins P Post S a w :=
  Wins.of_goes (Stop := fun a' w' => Wins P Post S a' w') (GoesW.one hr fun d => by
    obtain ⟨a', w', es, h1, h2, h3, h4⟩ := h d
    exact ⟨a', w', es, h1, h2, h3, .stop fun d' => fun gs sl t q e h0 hL hP => h4 gs sl t q e h0 hL hP⟩) fun _ _ h => h
theorem Wins.end {a : Goroutine} {w : World} (hr : a.status = .running) (h : ∀ d, ∃ v es, stepG P true a (w.at d) = .ended (.done v) (w.at d) es ∧ (∀ e ∈ es, EvOK S w.heap.size e) ∧ Post v (w.at d)) : Wins P Post S a w := by
  intro gs sl t q d h0 hL hP
  refine beside_ends (Shun := ShunS S) (B := w.heap.size) (D := fun _ _ _ => False) (n := 0) (fun _ _ _ h => h.elim) h0 hL hP fun w1 hw1 => ?_
  obtain ⟨d1, rfl⟩ := hw1
  obtain ⟨v, es, h1, h2, h3⟩ := h d1
  exact ⟨hr, v, es, h1, fun e he => (h2 e he).evL, h3⟩
end
end Go.Sf
