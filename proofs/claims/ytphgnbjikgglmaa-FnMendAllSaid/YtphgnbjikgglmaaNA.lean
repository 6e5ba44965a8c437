/- Lifting library, part 1 -/
import Derived.Conc.Own
import GoSem.Dispatch
import Derived.KernelRfl
set_option linter.all false
/-! Lifting library, part 1 -/
namespace Go.Sf
open Go Go.Conc

abbrev TapeT := Nat → Question → Nat
end Go.Sf
namespace Go
/-- the world with another tape, from another place -/
def World.re (w : World) (τ : Nat → Question → Nat) (d : Nat) : World := { w with tape := τ, drawn := d }
/-- the world without a tape -/
def World.nil (w : World) : World := w.re (fun _ _ => 0) 0
end Go
namespace Go.Sf
open Go Go.Conc

/-- types whose values the ghost may compare -/
def plainType (P : Program) (t : TypeId) : Bool :=
  match P.underlying t with
  | some (.int _) | some .bool | some .string | some (.slice _) => true
  | _ => false
/-- operations that goroutine 0 may meet beside others -/
def opFine (P : Program) : Op → Bool
  | .move _ | .assign _ | .pick _ _ _ | .alloc _ | .box _ _ | .build _ _ | .buildSlice _ _ _ | .load _ _ | .store _ _ _ | .nilCheck _ => true
  | .binOp op t _ _ _ => (match op with | .eql | .neq => plainType P t | _ => true)
  | .unOp .not _ _ => true
  | .convert s t _ => (match P.underlying s, P.underlying t with | some (.int _), some (.int _) => true | _, _ => false)
  | .makeFunc _ _ _ | .makeSlice _ _ _ | .fieldAddr _ _ _ | .field _ _ _ | .indexAddr _ _ _ | .index _ _ _ => true
  | .makeMap _ none => true
  | .slice t _ _ _ _ => (match P.underlying t with | some (.array _ _) | some (.pointer _) => false | _ => true)
  | .lookup t _ _ _ | .mapUpdate t _ _ _ => (match P.underlying t with | some (.map k _) => (match P.underlying k with | some (.int _) => true | _ => false) | _ => false)
  | .range _ _ | .next _ false | .entry _ | .extract _ _ => true
  | .call c => (match c.callee with | .value _ | .builtin .len | .builtin .append => true | _ => false)
  | _ => false
def codeFine (P : Program) : Code → Bool
  | .region _ ops _ => ops.all fun o => opFine P o.op
  | .seq a b | .cond _ a b | .rangeFunc _ _ a b => codeFine P a && codeFine P b
  | .block _ c | .loop c | .scope c => codeFine P c
  | _ => true
def funcFine (P : Program) (f : Func) : Bool := (match f.body with | some c => codeFine P c | none => false) && f.name != "runtime.NumGoroutine"
/-- a function that nothing runs -/
def gone : Func := { name := "gone", origin := "", params := #[], resultTypes := #[], nfree := 0, ntmps := 0, results := #[], body := none, norace := false, tmpNames := #[] }
/-- a function that starts goroutines, and what the ghost does in its place -/
class Bad where
  f : FuncId
  seq : Func
  named : (seq.name == "runtime.NumGoroutine") = false
  bodied : seq.body.isNone = false
/-- .. in this program -/
class BadIn [Bad] (P : Program) : Prop where
  isHere : ∃ fn, P.funcs[Bad.f]? = some fn ∧ (fn.name == "runtime.NumGoroutine") = false ∧ fn.body.isNone = false
  fine : funcFine P Bad.seq = true
/-- the questions of which the ghost is told what the true goroutine is told -/
class Asks [Bad] where
  ok : Question → Prop
  other : ∀ q, (∀ f i, q ≠ .order f i) → ok q
  fns : ∀ f i, f ≠ Bad.f → ok (.order f i)
  odd : Nat → Obj → Prop
variable [Bad] [Asks]
/-- the program without the functions that do more than goroutine 0 may -/
def ghostProg (P : Program) : Program := { P with funcs := (P.funcs.map fun f => if funcFine P f then f else gone).setIfInBounds Bad.f Bad.seq }
def fnOK (P : Program) (f : FuncId) : Prop := ∃ fn, P.funcs[f]? = some fn ∧ funcFine P fn = true ∧ (f = Bad.f → fn = Bad.seq) ∧ ∀ i, Asks.ok (.order f i)
def loopFine (P : Program) (l : Loop) : Prop := codeFine P l.assign = true ∧ codeFine P l.body = true ∧ (∀ c, l.pending = some c → codeFine P c = true) ∧ fnOK P l.fn
/-- objects that both worlds may hold and hand out -/
def plainObj (P : Program) (o : Obj) : Prop :=
  match o with
  | .view _ _ | .pending _ _ => False
  | .loop l => loopFine P l
  | .deferred (some ds) => ds = []
  | _ => True
def oddObj : Obj → Prop
  | .view _ _ | .pending _ _ | .loop _ | .deferred _ | .stringIter _ _ => True
  | _ => False
/-- what the ghost has where a row stands that it must not touch -/
abbrev dud : Obj := .stringIter ⟨#[]⟩ 0
/-- what stands at block b in the ghost world and in the true one; 0: the same; 1: a row that the ghost must not touch; 2: what the ghost does not know -/
inductive ObjSim (P : Program) (b : Nat) : Nat → Obj → Obj → Prop
  | alive {o : Obj} : plainObj P o → ObjSim P b 0 o o
  | cells {cs : Array Value} {e : TypeId} {fr : Nat × Nat} : ObjSim P b 1 dud (.cells cs e fr)
  | odd {o : Obj} : oddObj o → Asks.odd b o → ObjSim P b 2 (.view ⟨b, 0, none⟩ 0) o

structure WSim (P : Program) (S : Nat → Nat) (v w : World) : Prop where
  size : v.heap.size = w.heap.size
  obj : ∀ b, b < v.heap.size → ∃ ov ow, v.heap[b]? = some ov ∧ w.heap[b]? = some ow ∧ ObjSim P b (S b) ov ow
  out : ∀ b, v.heap.size ≤ b → S b = 0
  os : v.os = w.os
  output : v.output = w.output

/-- an entry of the trace that goroutine 0 may leave -/
def EvOK (S : Nat → Nat) (n : Nat) (e : Event) : Prop :=
  match e.loc with
  | .cell a => S a.block ≠ 1 ∧ a.block < n
  | .obj r => S r ≠ 1 ∧ r < n
  | .mark .noRoom => True
  | .mark (.extern _) => True
  | _ => False

def badHalt : Halt → Prop
  | .panic _ => False
  | .stuck _ => False
  | .unsupported (.initOrder _) => True
  | .unsupported _ => False
  | _ => True

/-- w with tape τ at d is what the ghost is not told: the answers that the ghost took (k of them) are those of τ from d on -/
def Agree (k : Nat) (v : World) (τ : TapeT) (d : Nat) : Prop := ∀ j q, j < k → Asks.ok q → τ (d + j) q = v.tape (v.drawn + j) q

def SimAt (S : Nat → Nat) (P Q : Program) {α : Type} (A : α → Prop) (s t : Sem α) (v w : World) (es : Array Event) : Prop :=
  ∃ k, match s.run Q v with
    | .ok a v1 => A a ∧ ∃ w1 es1, v1.tape = v.tape ∧ v1.drawn = v.drawn + k ∧ v.heap.size ≤ v1.heap.size ∧ WSim P S v1 w1 ∧ (∀ e ∈ es1, EvOK S v1.heap.size e) ∧
        ∀ τ d, Agree k v τ d → t.runT P (w.re τ d) es = (.ok a (w1.re τ (d + k)), es ++ es1)
    | .halt h v1 => ¬ badHalt h ∧ ∀ x, h = .panic x → ∃ w1 es1, v1.tape = v.tape ∧ v1.drawn = v.drawn + k ∧ v.heap.size ≤ v1.heap.size ∧ WSim P S v1 w1 ∧ (∀ e ∈ es1, EvOK S v1.heap.size e) ∧
        ∀ τ d, Agree k v τ d → t.runT P (w.re τ d) es = (.halt h (w1.re τ (d + k)), es ++ es1)
/-- what the ghost does, the true run does, too, on a tape that gives the same answers -/
def SimS (S : Nat → Nat) (P Q : Program) {α : Type} (A : α → Prop) (s t : Sem α) : Prop := ∀ v w es, WSim P S v w → SimAt S P Q A s t v w es

section
variable {S : Nat → Nat} {P Q : Program} {α β : Type}
theorem EvOK.mono {n m : Nat} (h : n ≤ m) {e : Event} (he : EvOK S n e) : EvOK S m e := by
  unfold EvOK at *
  split at he <;> first | exact ⟨he.1, Nat.lt_of_lt_of_le he.2 h⟩ | trivial | exact he
theorem SimS.pure {A : α → Prop} {a : α} (ha : A a) : SimS S P Q A (.pure a) (.pure a) := fun v w es h =>
  ⟨0, ha, w, #[], rfl, rfl, Nat.le_refl _, h, by simp, fun τ d _ => by simp [Sem.runT]⟩
theorem EvOK.app {n : Nat} {es1 es2 : Array Event} (h1 : ∀ e ∈ es1, EvOK S n e) (h2 : ∀ e ∈ es2, EvOK S n e) : ∀ e ∈ es1 ++ es2, EvOK S n e := fun e he => by
  rcases Array.mem_append.1 he with he | he
  · exact h1 e he
  · exact h2 e he
theorem Agree.left {k k' : Nat} {v : World} {τ : TapeT} {d : Nat} (h : Agree (k + k') v τ d) : Agree k v τ d := fun j q hj hq => h j q (by omega) hq
theorem Agree.right {k k' : Nat} {v v1 : World} {τ : TapeT} {d : Nat} (h : Agree (k + k') v τ d) (ht : v1.tape = v.tape) (hd : v1.drawn = v.drawn + k) : Agree k' v1 τ (d + k) := fun j q hj hq => by
  have := h (k + j) q (by omega) hq
  rw [ht, hd, Nat.add_assoc d, Nat.add_assoc v.drawn]
  exact this
/-- one step of both, then the rest -/
theorem SimAt.of_step {A : α → Prop} {s t s' t' : Sem α} {v v' w w' : World} {es es0 : Array Event} {k0 : Nat} (hs : s.run Q v = s'.run Q v') (ht : ∀ τ d, Agree k0 v τ d → t.runT P (w.re τ d) es = t'.runT P (w'.re τ (d + k0)) (es ++ es0))
    (h1 : v'.tape = v.tape) (h2 : v'.drawn = v.drawn + k0) (h3 : v.heap.size ≤ v'.heap.size) (he : ∀ e ∈ es0, EvOK S v'.heap.size e) (h : SimAt S P Q A s' t' v' w' (es ++ es0)) : SimAt S P Q A s t v w es := by
  obtain ⟨k, hk⟩ := h
  refine ⟨k0 + k, ?_⟩
  rw [hs]
  cases hr : s'.run Q v' with
  | ok b v1 =>
    rw [hr] at hk
    obtain ⟨hA, w1, es1, g1, g2, g3, g4, g5, g6⟩ := hk
    refine ⟨hA, w1, es0 ++ es1, g1.trans h1, by rw [g2, h2]; omega, Nat.le_trans h3 g3, g4, EvOK.app (fun e h => (he e h).mono g3) g5, fun τ d ha => ?_⟩
    rw [ht τ d ha.left, g6 τ _ (ha.right h1 h2), Array.append_assoc, Nat.add_assoc]
  | halt hh v1 =>
    rw [hr] at hk
    refine ⟨hk.1, fun x hx => ?_⟩
    obtain ⟨w1, es1, g1, g2, g3, g4, g5, g6⟩ := hk.2 x hx
    refine ⟨w1, es0 ++ es1, g1.trans h1, by rw [g2, h2]; omega, Nat.le_trans h3 g3, g4, EvOK.app (fun e h => (he e h).mono g3) g5, fun τ d ha => ?_⟩
    rw [ht τ d ha.left, g6 τ _ (ha.right h1 h2), Array.append_assoc, Nat.add_assoc]
/-- .. that lists nothing and takes no answer -/
theorem SimAt.of_still {A : α → Prop} {s t s' t' : Sem α} {v v' w w' : World} {es : Array Event} (hs : s.run Q v = s'.run Q v') (ht : ∀ τ d, t.runT P (w.re τ d) es = t'.runT P (w'.re τ d) es)
    (h1 : v'.tape = v.tape) (h2 : v'.drawn = v.drawn) (h3 : v.heap.size ≤ v'.heap.size) (h : SimAt S P Q A s' t' v' w' es) : SimAt S P Q A s t v w es :=
  SimAt.of_step (k0 := 0) (es0 := #[]) hs (fun τ d _ => by simpa using ht τ d) h1 (by simpa using h2) h3 (by simp) (by simpa using h)
theorem SimAt.of_halt {A : α → Prop} {s t : Sem α} {v w : World} {es : Array Event} {hh : Halt} {v' : World} (hs : s.run Q v = .halt hh v') (h1 : ¬ badHalt hh) (h2 : ∀ x, hh ≠ .panic x) : SimAt S P Q A s t v w es :=
  ⟨0, by rw [hs]; exact ⟨h1, fun x hx => absurd hx (h2 x)⟩⟩
theorem run_bind (p : Program) (s : Sem α) (f : α → Sem β) : ∀ w, (s.bind f).run p w = match s.run p w with | .ok a w1 => (f a).run p w1 | .halt h w1 => .halt h w1 := by
  induction s with
  | pure a => intro w; rfl
  | halt h => intro w; rfl
  | load m a k ih => 
    intro w
    simp only [Sem.bind, Sem.run]
    split
    · exact ih _ _
    · split
      · exact ih _ _
      · rfl
  | store m a x k ih =>
    intro w
    cases x <;> simp only [Sem.bind, Sem.run] <;> first
      | rfl
      | (cases hc : w.cell? a with
         | some u =>
           simp only
           by_cases hf : w.frozen? a = true
           · simp only [hf, if_true]
           · simp only [hf, Bool.false_eq_true, if_false]; exact ih _
         | none =>
           simp only
           split
           · exact ih _
           · rfl)
  | new o k ih => intro w; simp only [Sem.bind, Sem.run]; exact ih _ _
  | shape r k ih => intro w; simp only [Sem.bind, Sem.run]; exact ih _ _
  | freeze a n k ih => intro w; simp only [Sem.bind, Sem.run]; exact ih _
  | frozen a k ih => intro w; simp only [Sem.bind, Sem.run]; exact ih _ _
  | getObj r k ih => intro w; simp only [Sem.bind, Sem.run]; split <;> first | exact ih _ _ | rfl
  | setObj r o k ih => intro w; simp only [Sem.bind, Sem.run]; split <;> first | exact ih _ | rfl
  | choose q k ih => intro w; simp only [Sem.bind, Sem.run]; split <;> exact ih _ _
  | sys c k ih => intro w; simp only [Sem.bind, Sem.run]; exact ih _ _
  | program k ih => intro w; simp only [Sem.bind, Sem.run]; exact ih _ _
  | mark m k ih => intro w; simp only [Sem.bind, Sem.run]; exact ih _
theorem runT_bind (p : Program) (s : Sem α) (f : α → Sem β) : ∀ w es, (s.bind f).runT p w es = match s.runT p w es with | (.ok a w1, es1) => (f a).runT p w1 es1 | (.halt h w1, es1) => (.halt h w1, es1) := by
  induction s with
  | pure a => intro w es; rfl
  | halt h => intro w es; rfl
  | load m a k ih =>
    intro w es
    simp only [Sem.bind, Sem.runT]
    split
    · exact ih _ _ _
    · split
      · exact ih _ _ _
      · rfl
  | store m a x k ih =>
    intro w es
    cases x <;> simp only [Sem.bind, Sem.runT] <;> first
      | rfl
      | (cases hc : w.cell? a with
         | some u =>
           simp only
           by_cases hf : w.frozen? a = true
           · simp only [hf, if_true]
           · simp only [hf, Bool.false_eq_true, if_false]; exact ih _ _
         | none =>
           simp only
           split
           · exact ih _ _
           · rfl)
  | new o k ih => intro w es; simp only [Sem.bind, Sem.runT]; exact ih _ _ _
  | shape r k ih => intro w es; simp only [Sem.bind, Sem.runT]; exact ih _ _ _
  | freeze a n k ih => intro w es; simp only [Sem.bind, Sem.runT]; exact ih _ _
  | frozen a k ih => intro w es; simp only [Sem.bind, Sem.runT]; exact ih _ _ _
  | getObj r k ih => intro w es; simp only [Sem.bind, Sem.runT]; split <;> first | exact ih _ _ _ | rfl
  | setObj r o k ih => intro w es; simp only [Sem.bind, Sem.runT]; split <;> first | exact ih _ _ | rfl
  | choose q k ih => intro w es; simp only [Sem.bind, Sem.runT]; split <;> exact ih _ _ _
  | sys c k ih => intro w es; simp only [Sem.bind, Sem.runT]; exact ih _ _ _
  | program k ih => intro w es; simp only [Sem.bind, Sem.runT]; exact ih _ _ _
  | mark m k ih => intro w es; simp only [Sem.bind, Sem.runT]; exact ih _ _
theorem SimS.weak {A B : α → Prop} {s t : Sem α} (h : SimS S P Q A s t) (hab : ∀ a, A a → B a) : SimS S P Q B s t := fun v w es hw => by
  obtain ⟨k, hk⟩ := h v w es hw
  refine ⟨k, ?_⟩
  cases hs : s.run Q v with
  | ok a v1 => rw [hs] at hk; exact ⟨hab a hk.1, hk.2⟩
  | halt hh v1 => rw [hs] at hk; exact hk
theorem SimS.bind {A : α → Prop} {B : β → Prop} {s t : Sem α} {f g : α → Sem β} (h : SimS S P Q A s t) (hf : ∀ a, A a → SimS S P Q B (f a) (g a)) : SimS S P Q B (s.bind f) (t.bind g) := fun v w es hw => by
  obtain ⟨k, hk⟩ := h v w es hw
  unfold SimAt
  rw [run_bind]
  cases hs : s.run Q v with
  | ok a v1 =>
    rw [hs] at hk
    obtain ⟨hA, w1, es1, h1, h2, h3, h4, h5, h6⟩ := hk
    obtain ⟨k', hk'⟩ := hf a hA v1 w1 (es ++ es1) h4
    refine ⟨k + k', ?_⟩
    simp only
    cases hf1 : (f a).run Q v1 with
    | ok b v2 =>
      rw [hf1] at hk'
      obtain ⟨hB, w2, es2, g1, g2, g3, g4, g5, g6⟩ := hk'
      refine ⟨hB, w2, es1 ++ es2, g1.trans h1, by rw [g2, h2]; omega, Nat.le_trans h3 g3, g4, fun e he => ?_, fun τ d ha => ?_⟩
      · rcases Array.mem_append.1 he with he | he
        · exact (h5 e he).mono g3
        · exact g5 e he
      · rw [runT_bind, h6 τ d ha.left]
        simp only
        rw [g6 τ (d + k) (ha.right h1 h2), Array.append_assoc, Nat.add_assoc]
    | halt hh v2 =>
      rw [hf1] at hk'
      refine ⟨hk'.1, fun x hx => ?_⟩
      obtain ⟨w2, es2, g1, g2, g3, g4, g5, g6⟩ := hk'.2 x hx
      refine ⟨w2, es1 ++ es2, g1.trans h1, by rw [g2, h2]; omega, Nat.le_trans h3 g3, g4, fun e he => ?_, fun τ d ha => ?_⟩
      · rcases Array.mem_append.1 he with he | he
        · exact (h5 e he).mono g3
        · exact g5 e he
      · rw [runT_bind, h6 τ d ha.left]
        simp only
        rw [g6 τ (d + k) (ha.right h1 h2), Array.append_assoc, Nat.add_assoc]
  | halt hh v1 =>
    rw [hs] at hk
    refine ⟨k, hk.1, fun x hx => ?_⟩
    obtain ⟨w1, es1, h1, h2, h3, h4, h5, h6⟩ := hk.2 x hx
    refine ⟨w1, es1, h1, h2, h3, h4, h5, fun τ d ha => ?_⟩
    rw [runT_bind, h6 τ d ha]
end
end Go.Sf

/-! Lifting library, part 2 -/
namespace Go.Sf
open Go Go.Conc
section
variable [Bad] [Asks] {S : Nat → Nat} {P Q : Program} {α β : Type} {v w : World}
theorem WSim.get (h : WSim P S v w) {b : Nat} {o : Obj} (hb : v.heap[b]? = some o) : ∃ ow, w.heap[b]? = some ow ∧ ObjSim P b (S b) o ow ∧ b < v.heap.size := by
  have hlt : b < v.heap.size := (Array.getElem?_eq_some_iff.1 hb).1
  obtain ⟨ov, ow, h1, h2, h3⟩ := h.obj b hlt
  rw [hb] at h1
  cases h1
  exact ⟨ow, h2, h3, hlt⟩
/-- a cell that the ghost reads -/
theorem WSim.cell (h : WSim P S v w) {a : Addr} {u : Value} (hc : v.cell? a = some u) : S a.block = 0 ∧ a.block < v.heap.size ∧ w.cell? a = some u ∧ w.frozen? a = v.frozen? a ∧ w.heap[a.block]? = v.heap[a.block]? := by
  unfold World.cell? at hc
  split at hc
  · next c e fr hb =>
    obtain ⟨ow, h1, h2, h3⟩ := h.get hb
    generalize hS : S a.block = s at h2
    cases h2 with
    | alive _ => 
      refine ⟨rfl, h3, ?_, ?_, by rw [h1, hb]⟩
      · unfold World.cell?; rw [h1]; exact hc
      · unfold World.frozen?; rw [h1, hb]
  · cases hc
theorem seen_self {p : Program} {u : TypeId} {k : Addr} {b : Nat} {at_ : Bool} {t : TypeId} {a : Addr} (hb : v.heap[b]? = some (.view a t)) : ∃ m, v.seen p ⟨b, 0, none⟩ u k at_ = .error m := by
  cases hs : v.seen p ⟨b, 0, none⟩ u k at_ with
  | error m => exact ⟨m, rfl⟩
  | ok x =>
    exfalso
    unfold World.seen at hs
    simp only [hb] at hs
    revert hs
    simp only [bind, Except.bind, pure, Except.pure, throw, throwThe, MonadExceptOf.throw]
    repeat' split
    all_goals (intro hs; first | cases hs | (revert hs; simp))
theorem viewLoad_self {p : Program} {u : TypeId} {k : Addr} {b : Nat} {at_ : Bool} {t : TypeId} {a : Addr} (hb : v.heap[b]? = some (.view a t)) : ∃ m, v.viewLoad p ⟨b, 0, none⟩ u k at_ = .error m := by
  obtain ⟨m, hm⟩ := seen_self (p := p) (u := u) (k := k) (at_ := at_) hb
  exact ⟨m, by unfold World.viewLoad; rw [hm]; rfl⟩
theorem viewStore_self {p : Program} {u : TypeId} {k : Addr} {b : Nat} {x : Value} {at_ : Bool} {t : TypeId} {a : Addr} (hb : v.heap[b]? = some (.view a t)) : ∃ m, v.viewStore p ⟨b, 0, none⟩ u k x at_ = .error m := by
  obtain ⟨m, hm⟩ := seen_self (p := p) (u := u) (k := k) (at_ := at_) hb
  unfold World.viewStore
  rw [hm]
  by_cases ht : tight p p.depth u = true
  · exact ⟨m, by simp [ht, bind, Except.bind, pure, Except.pure]⟩
  · exact ⟨_, by simp [ht, bind, Except.bind, throw, throwThe, MonadExceptOf.throw]; rfl⟩
theorem noCell_ok (h : WSim P S v w) (a : Addr) (what : String) : ¬ badHalt (v.noCell a what) ∧ ∀ x, v.noCell a what ≠ .panic x := by
  unfold World.noCell
  split
  · next c t hb =>
    obtain ⟨ow, -, h2, -⟩ := h.get hb
    generalize S a.block = s at h2
    cases h2 with
    | alive hp => exact absurd hp (by simp [plainObj])
  · exact ⟨by simp [badHalt], by simp⟩
  · exact ⟨by simp [badHalt], by simp⟩
theorem farLoad_no (h : WSim P S v w) {a : Addr} (at_ : Bool) (hc : v.cell? a = none) : ∃ hh, v.farLoad Q a at_ = .error hh ∧ ¬ badHalt hh ∧ ∀ x, hh ≠ .panic x := by
  unfold World.farLoad
  split
  · next b u hb =>
    obtain ⟨ow, -, h2, -⟩ := h.get hb
    generalize S a.block = s at h2
    have hself : b = ⟨a.block, 0, none⟩ := by
      cases h2 with
      | alive hv => exact absurd hv (by simp [plainObj])
      | odd _ => rfl
    subst hself
    obtain ⟨m, hm⟩ := viewLoad_self (p := Q) (u := u) (k := a) (at_ := at_) hb
    rw [hm]
    exact ⟨_, rfl, by simp [badHalt], by simp⟩
  · exact ⟨_, rfl, (noCell_ok h a _).1, (noCell_ok h a _).2⟩
theorem farStore_no (h : WSim P S v w) {a : Addr} (x : Value) (at_ : Bool) (hc : v.cell? a = none) : ∃ hh, v.farStore Q a x at_ = .error hh ∧ ¬ badHalt hh ∧ ∀ x, hh ≠ .panic x := by
  unfold World.farStore
  split
  · next b u hb =>
    obtain ⟨ow, -, h2, -⟩ := h.get hb
    generalize S a.block = s at h2
    have hself : b = ⟨a.block, 0, none⟩ := by
      cases h2 with
      | alive hv => exact absurd hv (by simp [plainObj])
      | odd _ => rfl
    subst hself
    obtain ⟨m, hm⟩ := viewStore_self (p := Q) (u := u) (k := a) (x := x) (at_ := at_) hb
    rw [hm]
    exact ⟨_, rfl, by simp [badHalt], by simp⟩
  · exact ⟨_, rfl, (noCell_ok h a _).1, (noCell_ok h a _).2⟩
/-- one block is changed alike -/
theorem WSim.set (h : WSim P S v w) {v' w' : World} {b : Nat} (hS : S b = 0) (hv : v'.heap.size = v.heap.size) (hw : w'.heap.size = w.heap.size) (hov : ∀ c, c ≠ b → v'.heap[c]? = v.heap[c]?) (how : ∀ c, c ≠ b → w'.heap[c]? = w.heap[c]?)
    (hb : ∀ o, v.heap[b]? = some o → ∃ o', v'.heap[b]? = some o' ∧ w'.heap[b]? = some o' ∧ plainObj P o') (hos : v'.os = v.os) (hos' : w'.os = w.os) (hou : v'.output = v.output) (hou' : w'.output = w.output) : WSim P S v' w' := by
  refine ⟨by rw [hv, hw, h.size], fun c hc => ?_, fun c hc => h.out c (by rw [← hv]; exact hc), by rw [hos, hos', h.os], by rw [hou, hou', h.output]⟩
  rw [hv] at hc
  obtain ⟨ov, ow, g1, g2, g3⟩ := h.obj c hc
  by_cases e : c = b
  · subst e
    obtain ⟨o', k1, k2, k3⟩ := hb ov g1
    exact ⟨o', o', k1, k2, by rw [hS]; exact .alive k3⟩
  · exact ⟨ov, ow, (hov c e).trans g1, (how c e).trans g2, g3⟩
theorem cell_block {a : Addr} {u : Value} (hc : v.cell? a = some u) : ∃ c e fr, v.heap[a.block]? = some (.cells c e fr) ∧ a.spot.isSome = false := by
  unfold World.cell? at hc
  split at hc
  · next c e fr hb =>
    refine ⟨c, e, fr, hb, ?_⟩
    cases hsp : a.spot.isSome with
    | false => rfl
    | true => rw [hsp] at hc; simp at hc
  · cases hc
theorem WSim.setCell (h : WSim P S v w) {a : Addr} {u : Value} (hc : v.cell? a = some u) (x : Value) : WSim P S (v.setCell a x) (w.setCell a x) := by
  obtain ⟨h1, h2, h3, h4, h5⟩ := h.cell hc
  obtain ⟨c, e, fr, hb, hsp⟩ := cell_block hc
  refine h.set (b := a.block) h1 (by simp [World.setCell]) (by simp [World.setCell]) (fun c hne => by simp [World.setCell, Array.getElem?_modify, Ne.symm hne]) (fun c hne => by simp [World.setCell, Array.getElem?_modify, Ne.symm hne]) (fun o ho => ?_) rfl rfl rfl rfl
  rw [hb] at ho h5
  cases ho
  exact ⟨.cells (c.setIfInBounds a.off x) e fr, by simp [World.setCell, Array.getElem?_modify, hb, hsp], by simp [World.setCell, Array.getElem?_modify, h5, hsp], trivial⟩
theorem SimS.load {A : α → Prop} {m : Mode} {a : Addr} {k k' : Value → Sem α} (hk : ∀ x, SimS S P Q A (k x) (k' x)) : SimS S P Q A (.load m a k) (.load m a k') := fun v w es h => by
  cases hc : v.cell? a with
  | some u =>
    obtain ⟨h1, h2, h3, -, -⟩ := h.cell hc
    refine SimAt.of_step (k0 := 0) (es0 := #[⟨.cell a, false, m == .atomic⟩]) (by simp only [Sem.run, hc]) (fun τ d _ => ?_) rfl rfl (Nat.le_refl _) (fun e he => ?_) (hk u v w _ h)
    · have : (w.re τ d).cell? a = some u := h3
      simp only [Sem.runT, this, Nat.add_zero]; rfl
    · simp at he; subst he; exact ⟨by rw [h1]; decide, h2⟩
  | none =>
    obtain ⟨hh, h1, h2, h3⟩ := farLoad_no (Q := Q) h (m == .atomic) hc
    exact SimAt.of_halt (by simp only [Sem.run, hc, h1]; rfl) h2 h3
theorem SimS.store {A : α → Prop} {m : Mode} {a : Addr} {x : Value} {k k' : Sem α} (hk : SimS S P Q A k k') : SimS S P Q A (.store m a x k) (.store m a x k') := fun v w es h => by
  have agg : (∀ c, x ≠ .agg c) → (∀ c, x ≠ .tuple c) → SimAt S P Q A (.store m a x k) (.store m a x k') v w es := fun n1 n2 => by
    have run_store : ∀ (p : Program) (k : Sem α) (w : World), (Sem.store m a x k).run p w = match w.cell? a with
        | some _ => if w.frozen? a then .halt (.unsupported (.unsafePointer "a write to bytes that a string shares")) w else k.run p (w.setCell a x)
        | none => match w.farStore p a x (m == .atomic) with | .ok (w, _) => k.run p w | .error h => .halt h w := fun p k w => by
      cases x <;> first | rfl | (exact absurd rfl (n1 _)) | (exact absurd rfl (n2 _))
    have runT_store : ∀ (p : Program) (k : Sem α) (w : World) (es : Array Event), (Sem.store m a x k).runT p w es = match w.cell? a with
        | some _ => if w.frozen? a then (.halt (.unsupported (.unsafePointer "a write to bytes that a string shares")) w, es) else k.runT p (w.setCell a x) (es.push ⟨.cell a, true, m == .atomic⟩)
        | none => match w.farStore p a x (m == .atomic) with | .ok (w, touched) => k.runT p w (es ++ touched.toArray.map (⟨.cell ·, true, m == .atomic⟩)) | .error h => (.halt h w, es) := fun p k w es => by
      cases x <;> first | rfl | (exact absurd rfl (n1 _)) | (exact absurd rfl (n2 _))
    cases hc : v.cell? a with
    | some u =>
      obtain ⟨h1, h2, h3, h4, -⟩ := h.cell hc
      cases hf : v.frozen? a with
      | true => exact SimAt.of_halt (by rw [run_store, hc]; simp only [hf, if_true]; rfl) (by simp [badHalt]) (by simp)
      | false =>
        refine SimAt.of_step (k0 := 0) (es0 := #[⟨.cell a, true, m == .atomic⟩]) (v' := v.setCell a x) (w' := w.setCell a x) (by rw [run_store, hc]; simp only [hf, Bool.false_eq_true, if_false]) (fun τ d _ => ?_) rfl rfl (by simp [World.setCell]) (fun e he => ?_) (hk _ _ _ (h.setCell hc x))
        · have e1 : (w.re τ d).cell? a = some u := h3
          have e2 : (w.re τ d).frozen? a = false := h4.trans hf
          rw [runT_store, e1]
          simp only [e2, Bool.false_eq_true, if_false]; rfl
        · simp at he; subst he; exact ⟨by rw [h1]; decide, by simpa [World.setCell] using h2⟩
    | none =>
      obtain ⟨hh, h1, h2, h3⟩ := farStore_no (Q := Q) h x (m == .atomic) hc
      exact SimAt.of_halt (by rw [run_store, hc]; simp only [h1]; rfl) h2 h3
  cases x with
  | agg c => exact SimAt.of_halt (hh := .stuck "store: not the value of one cell") rfl (by simp [badHalt]) (by simp)
  | tuple c => exact SimAt.of_halt (hh := .stuck "store: not the value of one cell") rfl (by simp [badHalt]) (by simp)
  | _ => exact agg (by simp) (by simp)
theorem SimS.new {A : α → Prop} {o : Obj} {k k' : Nat → Sem α} (h1 : plainObj P o) (hk : ∀ x, SimS S P Q A (k x) (k' x)) : SimS S P Q A (.new o k) (.new o k') := fun v w es h => by
  refine SimAt.of_still (s' := k v.heap.size) (t' := k' v.heap.size) (v' := { v with heap := v.heap.push o }) (w' := { w with heap := w.heap.push o }) rfl (fun τ d => ?_) rfl rfl (by simp) (hk _ _ _ _ ⟨by simp [h.size], fun b hb => ?_, fun b hb => h.out b (by simp at hb; omega), h.os, h.output⟩)
  · simp only [Sem.runT]
    show (k' w.heap.size).runT P _ es = _
    rw [← h.size]; rfl
  · simp at hb
    by_cases e : b = v.heap.size
    · subst e
      refine ⟨o, o, by simp, by rw [h.size]; simp, ?_⟩
      rw [h.out _ (Nat.le_refl _)]; exact .alive h1
    · have hlt : b < v.heap.size := by omega
      obtain ⟨ov, ow, g1, g2, g3⟩ := h.obj b hlt
      exact ⟨ov, ow, by simp only [Array.getElem?_push, e, if_false]; exact g1, by simp only [Array.getElem?_push, ← h.size, e, if_false]; exact g2, g3⟩
/-- what the ghost and the true world may answer of a block's shape -/
def ShEq (x y : Option (TypeId × Nat)) : Prop := x = y ∨ (x = none ∧ ∃ z, y = some z)
theorem WSim.shape (h : WSim P S v w) (r : Nat) : ShEq (v.shape? r) (w.shape? r) := by
  by_cases hr : r < v.heap.size
  · obtain ⟨ov, ow, g1, g2, g3⟩ := h.obj r hr
    unfold World.shape?
    rw [g1, g2]
    generalize S r = s at g3
    cases g3 with
    | alive _ => exact .inl rfl
    | cells => exact .inr ⟨rfl, _, rfl⟩
    | odd ho => cases ow <;> first | exact .inl rfl | (exact absurd ho (by simp [oddObj]))
  · have e1 : v.heap[r]? = none := Array.getElem?_eq_none (by omega)
    have e2 : w.heap[r]? = none := Array.getElem?_eq_none (by have := h.size; omega)
    unfold World.shape?
    rw [e1, e2]; exact .inl rfl
theorem SimS.shape {A : α → Prop} {r : Nat} {k k' : Option (TypeId × Nat) → Sem α} (hk : ∀ x y, ShEq x y → SimS S P Q A (k x) (k' y)) : SimS S P Q A (.shape r k) (.shape r k') := fun v w es h =>
  SimAt.of_still (s' := k (v.shape? r)) (t' := k' (w.shape? r)) (v' := v) (w' := w) rfl (fun τ d => rfl) rfl rfl (Nat.le_refl _) (hk _ _ (h.shape r) v w es h)
theorem SimS.choose {A : α → Prop} {q : Question} {k k' : Nat → Sem α} (hok : Asks.ok q) (hk : ∀ x, SimS S P Q A (k x) (k' x)) : SimS S P Q A (.choose q k) (.choose q k') := fun v w es h => by
  cases hq : q.forced with
  | true => exact SimAt.of_still (s' := k 0) (t' := k' 0) (v' := v) (w' := w) (by simp only [Sem.run, hq, if_true]) (fun τ d => by simp only [Sem.runT, hq, if_true]) rfl rfl (Nat.le_refl _) (hk _ v w es h)
  | false =>
    refine SimAt.of_step (k0 := 1) (es0 := #[]) (s' := k (q.cut (v.tape v.drawn q))) (t' := k' (q.cut (v.tape v.drawn q))) (v' := { v with drawn := v.drawn + 1 }) (w' := w) (by simp only [Sem.run, hq, Bool.false_eq_true, if_false]) (fun τ d ha => ?_) rfl rfl (Nat.le_refl _) (by simp) (hk _ _ _ _ ⟨h.size, h.obj, h.out, h.os, h.output⟩)
    have := ha 0 q (by omega) hok
    simp only [Nat.add_zero] at this
    simp only [Sem.runT, hq, Bool.false_eq_true, if_false, Array.append_empty]
    rw [← this]; rfl
theorem SimS.program {A : α → Prop} {k k' : Program → Sem α} (hk : SimS S P Q A (k Q) (k' P)) : SimS S P Q A (.program k) (.program k') := fun v w es h =>
  SimAt.of_still (s' := k Q) (t' := k' P) (v' := v) (w' := w) rfl (fun τ d => rfl) rfl rfl (Nat.le_refl _) (hk v w es h)
theorem SimS.mark {A : α → Prop} {m : Mark} {k k' : Sem α} (hm : m = .noRoom ∨ ∃ f, m = .extern f) (hk : SimS S P Q A k k') : SimS S P Q A (.mark m k) (.mark m k') := fun v w es h =>
  SimAt.of_step (k0 := 0) (es0 := #[⟨.mark m, false, true⟩]) (s' := k) (t' := k') (v' := v) (w' := w) rfl (fun τ d _ => by simp only [Sem.runT, Nat.add_zero]; rfl) rfl rfl (Nat.le_refl _) (fun e he => by
    simp at he; subst he
    rcases hm with rfl | ⟨f, rfl⟩ <;> exact trivial) (hk v w _ h)
theorem SimS.halt {A : α → Prop} {hh : Halt} (h1 : ¬ badHalt hh) : SimS S P Q A (.halt hh) (.halt hh) := fun v w es h =>
  ⟨0, h1, fun x hx => ⟨w, #[], rfl, rfl, Nat.le_refl _, h, by simp, fun τ d _ => by simp [Sem.runT]⟩⟩
theorem SimS.getObj {A : α → Prop} {r : Nat} {k k' : Obj → Sem α} (hk : ∀ o, S r = 0 → plainObj P o → (∀ c e f, o ≠ .cells c e f) → SimS S P Q A (k o) (k' o)) (hv : ∀ b o', oddObj o' → SimS S P Q A (k (.view ⟨b, 0, none⟩ 0)) (k' o')) (hd : ∃ hh, k dud = .halt hh ∧ ¬ badHalt hh ∧ ∀ x, hh ≠ .panic x) : SimS S P Q A (.getObj r k) (.getObj r k') := fun v w es h => by
  by_cases hr : r < v.heap.size
  · obtain ⟨ov, ow, g1, g2, g3⟩ := h.obj r hr
    have main : (∀ c e f, ov ≠ .cells c e f) → (∀ c e f, ow ≠ .cells c e f) → S r ≠ 1 → SimS S P Q A (k ov) (k' ow) → SimAt S P Q A (.getObj r k) (.getObj r k') v w es := fun n1 n2 n3 hkk => by
      have e1 : (Sem.getObj r k).run Q v = (k ov).run Q v := by
        cases ov <;> first | (exact absurd rfl (n1 _ _ _)) | (simp only [Sem.run, g1])
      refine SimAt.of_step (k0 := 0) (es0 := #[⟨.obj r, false, ow.isChan⟩]) (s' := k ov) (t' := k' ow) (v' := v) (w' := w) e1 (fun τ d _ => ?_) rfl rfl (Nat.le_refl _) (fun e he => ?_) (hkk v w _ h)
      · have g2' : (w.re τ d).heap[r]? = some ow := g2
        cases ow <;> first | (exact absurd rfl (n2 _ _ _)) | (simp only [Sem.runT, g2', Nat.add_zero]; rfl)
      · simp at he; subst he; exact ⟨n3, hr⟩
    generalize hS : S r = s at g3
    cases g3 with
    | alive hv1 =>
      by_cases hc : ∃ c e f, ov = .cells c e f
      · obtain ⟨c, e, f, rfl⟩ := hc
        exact SimAt.of_halt (hh := .stuck "getObj: a row of cells") (by simp only [Sem.run, g1]; rfl) (by simp [badHalt]) (by simp)
      · have hc' : ∀ c e f, ov ≠ .cells c e f := fun c e f h => hc ⟨c, e, f, h⟩
        exact main hc' hc' (by rw [hS]; decide) (hk ov hS hv1 hc')
    | cells =>
      obtain ⟨hh, e, h1, h2⟩ := hd
      exact SimAt.of_halt (hh := hh) (by simp only [Sem.run, g1, e]; rfl) h1 h2
    | odd ho => exact main (by simp) (by rintro c e f rfl; exact ho) (by rw [hS]; decide) (hv _ _ ho)
  · have e1 : v.heap[r]? = none := Array.getElem?_eq_none (by omega)
    exact SimAt.of_halt (hh := .stuck "getObj: no such block") (by simp only [Sem.run, e1]; rfl) (by simp [badHalt]) (by simp)
/-- a question that is asked of an object, but not of a row -/
theorem SimS.shapeObj {A : α → Prop} {r : Nat} {f f' : Sem α} {k k' : Obj → Sem α} (h0 : SimS S P Q A f f') (hk : ∀ o, S r = 0 → plainObj P o → (∀ c e f, o ≠ .cells c e f) → SimS S P Q A (k o) (k' o)) (hv : ∀ b o', oddObj o' → SimS S P Q A (k (.view ⟨b, 0, none⟩ 0)) (k' o'))
    (hd : k dud = f) : SimS S P Q A (.shape r fun s => if s.isSome = true then f else .getObj r k) (.shape r fun s => if s.isSome = true then f' else .getObj r k') := fun v w es h => by
  have rest : S r ≠ 1 → (v.shape? r).isSome = (w.shape? r).isSome → SimAt S P Q A (.shape r fun s => if s.isSome = true then f else .getObj r k) (.shape r fun s => if s.isSome = true then f' else .getObj r k') v w es := fun hS he => by
    cases hs : (v.shape? r).isSome with
    | true =>
      refine SimAt.of_still (s' := f) (t' := f') (v' := v) (w' := w) (by simp only [Sem.run, hs, if_true]) (fun τ d => ?_) rfl rfl (Nat.le_refl _) (h0 v w es h)
      have : ((w.re τ d).shape? r).isSome = true := by rw [← hs, he]; rfl
      simp only [Sem.runT, this, if_true]
    | false =>
      refine SimAt.of_still (s' := .getObj r k) (t' := .getObj r k') (v' := v) (w' := w) (by simp only [Sem.run, hs, Bool.false_eq_true, if_false]) (fun τ d => ?_) rfl rfl (Nat.le_refl _) ?_
      · have : ((w.re τ d).shape? r).isSome = false := by rw [← hs, he]; rfl
        simp only [Sem.runT, this, Bool.false_eq_true, if_false]
      · by_cases hr : r < v.heap.size
        · obtain ⟨ov, ow, g1, g2, g3⟩ := h.obj r hr
          generalize hS' : S r = s at g3 hS
          cases g3 with
          | alive hv1 =>
            have n1 : ∀ c e f, ov ≠ .cells c e f := fun c e f he => by
              subst he
              unfold World.shape? at hs
              rw [g1] at hs
              cases hs
            have e1 : (Sem.getObj r k).run Q v = (k ov).run Q v := by
              cases ov <;> first | (exact absurd rfl (n1 _ _ _)) | (simp only [Sem.run, g1])
            refine SimAt.of_step (k0 := 0) (es0 := #[⟨.obj r, false, ov.isChan⟩]) (s' := k ov) (t' := k' ov) (v' := v) (w' := w) e1 (fun τ d _ => ?_) rfl rfl (Nat.le_refl _) (fun e he => ?_) (hk ov hS' hv1 n1 v w _ h)
            · have g2' : (w.re τ d).heap[r]? = some ov := g2
              cases ov <;> first | (exact absurd rfl (n1 _ _ _)) | (simp only [Sem.runT, g2', Nat.add_zero]; rfl)
            · simp at he; subst he; exact ⟨by rw [hS']; decide, hr⟩
          | cells => exact (hS rfl).elim
          | odd ho =>
            have n2 : ∀ c e f, ow ≠ .cells c e f := by rintro c e f rfl; exact ho
            refine SimAt.of_step (k0 := 0) (es0 := #[⟨.obj r, false, ow.isChan⟩]) (s' := k (.view ⟨r, 0, none⟩ 0)) (t' := k' ow) (v' := v) (w' := w) (by simp only [Sem.run, g1]) (fun τ d _ => ?_) rfl rfl (Nat.le_refl _) (fun e he => ?_) (hv _ _ ho v w _ h)
            · have g2' : (w.re τ d).heap[r]? = some ow := g2
              cases ow <;> first | (exact absurd rfl (n2 _ _ _)) | (simp only [Sem.runT, g2', Nat.add_zero]; rfl)
            · simp at he; subst he; exact ⟨by rw [hS']; decide, hr⟩
        · have e1 : v.heap[r]? = none := Array.getElem?_eq_none (by omega)
          exact SimAt.of_halt (hh := .stuck "getObj: no such block") (by simp only [Sem.run, e1]; rfl) (by simp [badHalt]) (by simp)
  by_cases hS : S r = 1
  · by_cases hr : r < v.heap.size
    · obtain ⟨ov, ow, g1, g2, g3⟩ := h.obj r hr
      rw [hS] at g3
      cases g3 with
      | cells =>
        have e1 : v.shape? r = none := by unfold World.shape?; rw [g1]
        refine SimAt.of_still (s' := f) (t' := f') (v' := v) (w' := w) ?_ (fun τ d => ?_) rfl rfl (Nat.le_refl _) (h0 v w es h)
        · simp only [Sem.run, e1, Option.isSome_none, Bool.false_eq_true, if_false, g1, hd]
        · have : ((w.re τ d).shape? r).isSome = true := by
            show (w.shape? r).isSome = true
            unfold World.shape?
            rw [g2]; rfl
          simp only [Sem.runT, this, if_true]
    · rw [h.out r (by omega)] at hS; cases hS
  · refine rest hS ?_
    by_cases hr : r < v.heap.size
    · obtain ⟨ov, ow, g1, g2, g3⟩ := h.obj r hr
      unfold World.shape?
      rw [g1, g2]
      generalize S r = s at g3 hS
      cases g3 with
      | alive _ => rfl
      | cells => exact (hS rfl).elim
      | odd ho => cases ow <;> first | rfl | (exact absurd ho (by simp [oddObj]))
    · have e1 : v.heap[r]? = none := Array.getElem?_eq_none (by omega)
      have e2 : w.heap[r]? = none := Array.getElem?_eq_none (by have := h.size; omega)
      unfold World.shape?
      rw [e1, e2]
/-- an object of a block that is no row is set: the block was handed out as a plain one (live) -/
theorem SimS.setObj {A : α → Prop} {r : Nat} {o : Obj} {k k' : Sem α} (hS : S r = 0) (h1 : plainObj P o) (hk : SimS S P Q A k k') : SimS S P Q A (.setObj r o k) (.setObj r o k') := fun v w es h => by
  by_cases hr : r < v.heap.size
  · obtain ⟨ov, ow, g1, g2, g3⟩ := h.obj r hr
    rw [hS] at g3
    cases g3 with
    | alive hv1 =>
      by_cases hc : ∃ c e f, ov = .cells c e f
      · obtain ⟨c, e, f, rfl⟩ := hc
        exact SimAt.of_halt (hh := .stuck "setObj: a row of cells") (by simp only [Sem.run, g1]; rfl) (by simp [badHalt]) (by simp)
      · have e1 : (Sem.setObj r o k).run Q v = k.run Q { v with heap := v.heap.setIfInBounds r o } := by
          cases ov <;> first | (exact absurd ⟨_, _, _, rfl⟩ hc) | (simp only [Sem.run, g1])
        refine SimAt.of_step (k0 := 0) (es0 := #[⟨.obj r, true, o.isChan⟩]) (s' := k) (t' := k') (v' := { v with heap := v.heap.setIfInBounds r o }) (w' := { w with heap := w.heap.setIfInBounds r o }) e1 (fun τ d _ => ?_) rfl rfl (by simp) (fun e he => ?_) (hk _ _ _ ?_)
        · have g2' : (w.re τ d).heap[r]? = some ov := g2
          cases ov <;> first | (exact absurd ⟨_, _, _, rfl⟩ hc) | (simp only [Sem.runT, g2', Nat.add_zero]; rfl)
        · simp at he; subst he; exact ⟨by rw [hS]; decide, by simpa using hr⟩
        · refine h.set (b := r) hS (by simp) (by simp) (fun c hne => by simp [Array.getElem?_setIfInBounds, Ne.symm hne]) (fun c hne => by simp [Array.getElem?_setIfInBounds, Ne.symm hne]) (fun o' ho' => ⟨o, by simp [hr], ?_, h1⟩) rfl rfl rfl rfl
          have : r < w.heap.size := by rw [← h.size]; exact hr
          simp [this]
  · have e1 : v.heap[r]? = none := Array.getElem?_eq_none (by omega)
    exact SimAt.of_halt (hh := .stuck "setObj: no such block") (by simp only [Sem.run, e1]; rfl) (by simp [badHalt]) (by simp)
end
end Go.Sf

/-! Lifting library, part 3 -/
namespace Go.Sf
open Go Go.Conc
/-- a piece of the model does in the true world what it does in the ghost's -/
def SOk [Bad] [Asks] (S : Nat → Nat) (P : Program) {α : Type} (A : α → Prop) (s : Sem α) : Prop := SimS S P (ghostProg P) A s s
def Any {α : Type} (_ : α) : Prop := True
section
variable [Bad] [Asks] {S : Nat → Nat} {P : Program} {α β : Type} {A : α → Prop} {B : β → Prop}
theorem SOk.bind {s : Sem α} {f : α → Sem β} (h : SOk S P A s) (hf : ∀ a, A a → SOk S P B (f a)) : SOk S P B (s >>= f) := SimS.bind h hf
theorem SOk.bind1 {s : Sem α} {f : α → Sem β} (h : SOk S P Any s) (hf : ∀ a, SOk S P B (f a)) : SOk S P B (s >>= f) := SimS.bind h fun a _ => hf a
theorem SOk.pure {a : α} (h : A a) : SOk S P A (Pure.pure a : Sem α) := SimS.pure h
theorem SOk.pure1 {a : α} : SOk S P Any (Pure.pure a : Sem α) := SimS.pure trivial
theorem SOk.weak {s : Sem α} {B : α → Prop} (h : SOk S P A s) (hb : ∀ a, A a → B a) : SOk S P B s := SimS.weak h hb
theorem SOk.stuck {w : String} : SOk S P A (Go.stuck w : Sem α) := SimS.halt (by simp [badHalt])
theorem SOk.unsup {u : Unsupported} (h : ∀ g, u ≠ .initOrder g) : SOk S P A (unsupported u : Sem α) := SimS.halt (by cases u <;> first | (exact absurd rfl (h _)) | simp [badHalt])
theorem SOk.goPanic {v : Value} : SOk S P A (Go.goPanic v : Sem α) := SimS.halt (by simp [badHalt])
theorem SOk.load {a : Addr} {m : Mode} : SOk S P Any (load a m) := SimS.load fun _ => SimS.pure trivial
theorem SOk.store {a : Addr} {v : Value} {m : Mode} : SOk S P Any (store a v m) := SimS.store (SimS.pure trivial)
theorem SOk.newObj {o : Obj} (h : plainObj P o) : SOk S P Any (newObj o) := SimS.new h fun _ => SimS.pure trivial
theorem SOk.choose {q : Question} (hok : Asks.ok q := by exact Asks.other _ (fun _ _ h => by cases h)) : SOk S P Any (choose q) := SimS.choose hok fun _ => SimS.pure trivial
theorem SOk.setObj {r : Nat} {o : Obj} (hS : S r = 0) (h : plainObj P o) : SOk S P Any (setObj r o) := SimS.setObj hS h (SimS.pure trivial)
theorem SOk.noRoom : SOk S P Any (mark .noRoom) := SimS.mark (.inl rfl) (SimS.pure trivial)
/-- the program is asked of its types alone -/
theorem SOk.program {f : Program → Sem β} (he : f (ghostProg P) = f P) (h : SOk S P B (f P)) : SOk S P B (program >>= f) := by
  refine SimS.program (k := fun p => (Sem.pure p).bind f) (k' := fun p => (Sem.pure p).bind f) ?_
  show SimS S P (ghostProg P) B (f (ghostProg P)) (f P)
  rw [he]; exact h
theorem SOk.shape {r : Nat} {f : Option (TypeId × Nat) → Sem β} (hf : ∀ x y, ShEq x y → SimS S P (ghostProg P) B (f x) (f y)) : SOk S P B (Go.shape r >>= f) :=
  SimS.shape (k := fun p => (Sem.pure p).bind f) (k' := fun p => (Sem.pure p).bind f) hf
theorem SOk.getObj {r : Nat} {f : Obj → Sem β} (hk : ∀ o, S r = 0 → plainObj P o → SOk S P B (f o)) (hv : ∀ b o', oddObj o' → SimS S P (ghostProg P) B (f (.view ⟨b, 0, none⟩ 0)) (f o')) (hd : ∃ hh, f dud = .halt hh ∧ ¬ badHalt hh ∧ ∀ x, hh ≠ .panic x := by exact ⟨_, rfl, by simp [badHalt], by simp⟩) : SOk S P B (Go.getObj r >>= f) :=
  SimS.getObj (k := fun p => (Sem.pure p).bind f) (k' := fun p => (Sem.pure p).bind f) (fun o h1 h2 _ => hk o h1 h2) hv hd
theorem SimS.haltL {s t : Sem α} {hh : Halt} (hs : s = .halt hh) (h1 : ¬ badHalt hh) (h2 : ∀ x, hh ≠ .panic x) {Q : Program} : SimS S P Q A s t := fun v w es h => by
  subst hs; exact SimAt.of_halt rfl h1 h2
theorem SOk.typeInfo {t : TypeId} : SOk S P (fun i => P.info? t = some i) (typeInfo t) := by
  unfold Go.typeInfo
  refine SOk.program (by rfl) ?_
  cases h : P.info? t with
  | some i => exact SOk.pure rfl
  | none => exact SOk.stuck
theorem SOk.underlying {t : TypeId} : SOk S P (fun d => P.underlying t = some d) (underlying t) := by
  unfold Go.underlying
  refine SOk.program (by rfl) ?_
  cases h : P.underlying t with
  | some i => exact SOk.pure rfl
  | none => exact SOk.stuck
theorem SOk.any {s : Sem α} (h : SOk S P A s) : SOk S P Any s := h.weak fun _ _ => trivial
theorem SOk.zeroValue {t : TypeId} : SOk S P Any (zeroValue t) := by
  unfold Go.zeroValue
  refine SOk.bind SOk.typeInfo fun i _ => ?_
  split
  · exact SOk.pure1
  · exact SOk.unsup (by simp)
theorem SOk.sizeOf {t : TypeId} : SOk S P Any (Go.sizeOf t) := by
  unfold Go.sizeOf
  exact SOk.bind SOk.typeInfo fun i _ => SOk.pure1
theorem SOk.isAgg {t : TypeId} : SOk S P Any (isAgg t) := by
  unfold Go.isAgg
  refine SOk.bind SOk.underlying fun i _ => ?_
  split <;> exact SOk.pure1
theorem SOk.loadCellsFrom {a : Addr} : ∀ (n i : Nat) (acc : Array Value), SOk S P Any (loadCellsFrom a i n acc)
  | 0, i, acc => SOk.pure1
  | n + 1, i, acc => SOk.bind1 SOk.load fun v => SOk.loadCellsFrom n (i + 1) _
theorem SOk.loadCells {a : Addr} {n : Nat} : SOk S P Any (loadCells a n) := SOk.loadCellsFrom n 0 _
theorem SOk.storeCells {a : Addr} : ∀ (vs : List Value) (i : Nat), SOk S P Any (storeCells a vs i)
  | [], i => SOk.pure1
  | v :: r, i => SOk.bind1 SOk.store fun _ => SOk.storeCells r (i + 1)
theorem SOk.loadVar {t : TypeId} {a : Addr} : SOk S P Any (loadVar t a) := by
  unfold Go.loadVar
  refine SOk.bind1 SOk.isAgg fun b => ?_
  split
  · exact SOk.bind1 SOk.sizeOf fun n => SOk.bind1 SOk.loadCells fun _ => SOk.pure1
  · exact SOk.load
theorem SOk.storeVar {t : TypeId} {a : Addr} {v : Value} : SOk S P Any (storeVar t a v) := by
  unfold Go.storeVar
  refine SOk.bind1 SOk.sizeOf fun n => ?_
  split
  · exact SOk.bind1 SOk.stuck fun _ => SOk.storeCells _ _
  · exact SOk.storeCells _ _
theorem SOk.newRow {e : TypeId} {c : Array Value} : SOk S P Any (newRow e c) := SOk.bind1 (SOk.newObj trivial) fun _ => SOk.pure1
theorem SOk.newVar {e : TypeId} {v : Value} : SOk S P Any (newVar e v) := SOk.newRow
theorem SOk.elemOf {t : TypeId} : SOk S P Any (elemOf t) := by
  unfold Go.elemOf
  refine SOk.bind SOk.underlying fun i _ => ?_
  split <;> first | exact SOk.pure1 | exact SOk.stuck
theorem SOk.part {t : TypeId} {cs : Array Value} {off : Nat} : SOk S P Any (part t cs off) := by
  unfold Go.part
  refine SOk.bind1 SOk.isAgg fun b => ?_
  split
  · exact SOk.bind1 SOk.sizeOf fun n => SOk.pure1
  · split <;> first | exact SOk.pure1 | exact SOk.stuck
theorem SOk.runtimePanic {e : RuntimeError} : SOk S P A (runtimePanic e : Sem α) := by
  unfold Go.runtimePanic
  refine SOk.program (by cases e <;> rfl) ?_
  cases e with
  | typeAssertion i c a m => exact SOk.bind1 SOk.elemOf fun t => SOk.bind1 SOk.newVar fun _ => SOk.goPanic
  | panicNil => exact SOk.bind1 SOk.elemOf fun t => SOk.bind1 SOk.newVar fun _ => SOk.goPanic
  | _ => exact SOk.goPanic
theorem SOk.map {f : α → β} {s : Sem α} (h : SOk S P Any s) : SOk S P Any (Functor.map f s) := SOk.bind1 h fun _ => SOk.pure1
theorem SOk.boundsPanic {k : IntKind} {x y : Int} {code : BoundsCode} : SOk S P A (boundsPanic k x y code : Sem α) := by
  unfold Go.boundsPanic
  simp only []
  split
  · exact SOk.bind1 (SOk.map SOk.choose) fun _ => SOk.runtimePanic
  · exact SOk.bind1 SOk.pure1 fun _ => SOk.runtimePanic
theorem SOk.asIntOf {v : Value} : SOk S P Any (asIntOf v) := by
  unfold Go.asIntOf
  split <;> first | exact SOk.pure1 | exact SOk.unsup (by simp) | exact SOk.stuck
theorem SOk.asInt {v : Value} : SOk S P Any (asInt v) := SOk.bind1 SOk.asIntOf fun _ => SOk.pure1
theorem SOk.asBool {v : Value} : SOk S P Any (asBool v) := by
  unfold Go.asBool
  split <;> first | exact SOk.pure1 | exact SOk.stuck
theorem SOk.asAgg {v : Value} : SOk S P Any (asAgg v) := by
  unfold Go.asAgg
  split <;> first | exact SOk.pure1 | exact SOk.stuck
theorem SOk.sureAddr {v : Value} : SOk S P Any (Instr.sureAddr v) := by
  unfold Instr.sureAddr
  split <;> first | exact SOk.pure1 | exact SOk.stuck
def viewOf : Obj → Option (Addr × TypeId)
  | .view a t => some (a, t)
  | _ => none
theorem viewAt_bind (r : Nat) (f : Option (Addr × TypeId) → Sem β) : (viewAt r >>= f) = Sem.shape r fun s => if s.isSome = true then f none else Sem.getObj r fun o => f (viewOf o) := by
  unfold Go.viewAt
  show Sem.shape r _ = _
  congr 1
  funext s
  cases s with
  | some x => rfl
  | none =>
    show Sem.getObj r _ = _
    simp only [Option.isSome_none, Bool.false_eq_true, if_false]
    congr 1
    funext o
    cases o <;> rfl
/-- what is seen as another type: the ghost goes on only where nothing is -/
theorem SOk.viewAt {r : Nat} {f : Option (Addr × TypeId) → Sem β} (h0 : SOk S P B (f none)) (h1 : ∀ x t, SimS S P (ghostProg P) B (f (some x)) t) : SOk S P B (viewAt r >>= f) := by
  unfold SOk
  rw [viewAt_bind]
  refine SimS.shapeObj h0 (fun o _ hp _ => ?_) (fun b o' _ => h1 _ _) rfl
  cases o <;> first | exact h0 | exact hp.elim
theorem SOk.noView {a : Addr} : SOk S P Any (noView a) := by
  unfold Go.noView
  refine SOk.viewAt ?_ fun x t => ?_
  · exact SOk.pure1
  · exact SimS.haltL (hh := .unsupported (.unsafePointer "memory seen as another type")) rfl (by simp [badHalt]) (by simp)
theorem numberAt_eq (r : Nat) : numberAt r = Sem.shape r fun s => if s.isSome = true then Sem.pure none else Sem.getObj r fun o => match o with | .number a lost => Sem.pure (some (a, lost)) | _ => Sem.pure none := by
  unfold Go.numberAt
  show Sem.shape r _ = _
  congr 1
theorem SOk.numberAt {r : Nat} : SOk S P Any (numberAt r) := by
  unfold SOk
  rw [numberAt_eq]
  refine SimS.shapeObj (SimS.pure trivial) (fun o _ hp _ => ?_) (fun b o' ho => ?_) rfl
  · cases o <;> exact SimS.pure trivial
  · cases o' <;> first | exact SimS.pure trivial | exact ho.elim
theorem SOk.behindNumber {a : Addr} : SOk S P Any (behindNumber a) := SOk.bind1 SOk.numberAt fun _ => SOk.pure1
theorem SOk.asNumber {a : Addr} {l : Bool} : SOk S P Any (asNumber a l) := SOk.bind1 (SOk.newObj trivial) fun _ => SOk.pure1
theorem byteOfCell_ghost (P : Program) : ∀ (d : Nat) (t : TypeId) (o : Nat), byteOfCell (ghostProg P) d t o = byteOfCell P d t o
  | 0, _, _ => rfl
  | d + 1, t, o => by
    unfold Go.byteOfCell
    simp only [byteOfCell_ghost P d]
    rfl
theorem cellOfByte_ghost (P : Program) : ∀ (d : Nat) (t : TypeId) (o : Nat), cellOfByte (ghostProg P) d t o = cellOfByte P d t o
  | 0, _, _ => rfl
  | d + 1, t, o => by
    unfold Go.cellOfByte
    simp only [cellOfByte_ghost P d]
    rfl
theorem SOk.byteOf {a : Addr} : SOk S P Any (byteOf a) := by
  unfold Go.byteOf
  cases a.spot with
  | some s => exact SOk.pure1
  | none =>
    refine SOk.program (by simp only [byteOfCell_ghost]; rfl) ?_
    refine SOk.bind1 SOk.noView fun _ => ?_
    refine SOk.shape fun x y hxy => ?_
    have key : ∀ (e : TypeId) (n m : Nat), SimS S P (ghostProg P) Any
        (let s := P.cellsOf e; if s = 0 then (Pure.pure 0 : Sem Nat) else match byteOfCell P P.depth e (a.off % s) with | some b => Pure.pure (a.off / s * P.bytesOf e + b) | x => Go.stuck "byteOf: no such cell")
        (let s := P.cellsOf e; if s = 0 then (Pure.pure 0 : Sem Nat) else match byteOfCell P P.depth e (a.off % s) with | some b => Pure.pure (a.off / s * P.bytesOf e + b) | x => Go.stuck "byteOf: no such cell") := fun e n m => by
      simp only []
      split
      · exact SimS.pure trivial
      · split
        · exact SimS.pure trivial
        · exact SOk.stuck
    rcases hxy with rfl | ⟨rfl, -⟩
    · cases x with
      | some z => exact key z.1 z.2 z.2
      | none => exact SOk.stuck
    · exact SimS.haltL (hh := .stuck "byteOf: no such block") rfl (by simp [badHalt]) (by simp)
theorem SOk.partAt {a : Addr} {c b : Nat} : SOk S P Any (partAt a c b) := by
  unfold Go.partAt
  exact SOk.bind1 SOk.byteOf fun _ => SOk.bind1 SOk.byteOf fun _ => SOk.pure1
theorem SOk.fieldPlace {a : Addr} {f : Field} : SOk S P Any (fieldPlace a f) := by
  unfold Go.fieldPlace
  refine SOk.bind1 SOk.sizeOf fun _ => ?_
  split
  · exact SOk.partAt
  · exact SOk.pure1
end
end Go.Sf

/-! Lifting library, part 4 -/
namespace Go.Sf
open Go Go.Conc
section
variable [Bad] [Asks] {S : Nat → Nat} {P : Program} {α β γ : Type} {A : α → Prop} {B : β → Prop}
theorem sem_bind_pure (s : Sem α) : s.bind Sem.pure = s := by
  induction s with
  | pure a => rfl
  | halt h => rfl
  | load m a k ih => simp only [Sem.bind, ih]
  | store m a v k ih => simp only [Sem.bind, ih]
  | new o k ih => simp only [Sem.bind, ih]
  | shape r k ih => simp only [Sem.bind, ih]
  | freeze a n k ih => simp only [Sem.bind, ih]
  | frozen a k ih => simp only [Sem.bind, ih]
  | getObj r k ih => simp only [Sem.bind, ih]
  | setObj r o k ih => simp only [Sem.bind, ih]
  | choose q k ih => simp only [Sem.bind, ih]
  | sys c k ih => simp only [Sem.bind, ih]
  | program k ih => simp only [Sem.bind, ih]
  | mark m k ih => simp only [Sem.bind, ih]
theorem sem_bind_assoc (s : Sem α) (f : α → Sem β) (g : β → Sem γ) : (s.bind f).bind g = s.bind fun a => (f a).bind g := by
  induction s with
  | pure a => rfl
  | halt h => rfl
  | load m a k ih => simp only [Sem.bind, ih]
  | store m a v k ih => simp only [Sem.bind, ih]
  | new o k ih => simp only [Sem.bind, ih]
  | shape r k ih => simp only [Sem.bind, ih]
  | freeze a n k ih => simp only [Sem.bind, ih]
  | frozen a k ih => simp only [Sem.bind, ih]
  | getObj r k ih => simp only [Sem.bind, ih]
  | setObj r o k ih => simp only [Sem.bind, ih]
  | choose q k ih => simp only [Sem.bind, ih]
  | sys c k ih => simp only [Sem.bind, ih]
  | program k ih => simp only [Sem.bind, ih]
  | mark m k ih => simp only [Sem.bind, ih]
theorem sem_lawful : LawfulMonad Sem := LawfulMonad.mk' Sem (fun s => sem_bind_pure s) (fun _ _ => rfl) (fun s f g => sem_bind_assoc s f g)
theorem SOk.foldlM {f : β → α → Sem β} : ∀ (l : List α) (b : β), (∀ b x, SOk S P Any (f b x)) → SOk S P Any (l.foldlM f b)
  | [], b, _ => SOk.pure1
  | x :: r, b, h => SOk.bind1 (h b x) fun b' => SOk.foldlM r b' h
theorem SOk.mapM {f : α → Sem β} {xs : Array α} (hf : ∀ x, SOk S P Any (f x)) : SOk S P Any (xs.mapM f) := by
  haveI := sem_lawful
  rw [Array.mapM_eq_foldlM, ← Array.foldlM_toList]
  exact SOk.foldlM _ _ fun b x => SOk.map (hf x)
theorem SOk.ite {c : Bool} {s t : Sem α} (hs : SOk S P A s) (ht : SOk S P A t) : SOk S P A (if c = true then s else t) := by
  split
  · exact hs
  · exact ht
theorem SOk.alloc {e : TypeId} : SOk S P Any (Instr.alloc e true (.tuple #[])) := SOk.bind1 SOk.zeroValue fun _ => SOk.bind1 SOk.newVar fun _ => SOk.pure1
theorem SOk.box {e : TypeId} {v : Value} : SOk S P Any (Instr.box e v) := SOk.bind1 SOk.newVar fun _ => SOk.pure1
theorem SOk.build {t : TypeId} {parts : Array (Nat × Value)} : SOk S P Any (Instr.build t parts) := by
  unfold Instr.build
  refine SOk.bind1 SOk.zeroValue fun z => SOk.bind SOk.underlying fun d _ => ?_
  cases d with
  | struct fs =>
    refine SOk.bind1 (SOk.mapM fun f => SOk.bind1 SOk.sizeOf fun _ => SOk.pure1) fun pl => ?_
    split <;> first | exact SOk.pure1 | exact SOk.stuck
  | array n e =>
    refine SOk.bind1 SOk.sizeOf fun n => ?_
    split <;> first | exact SOk.pure1 | exact SOk.stuck
  | _ => exact SOk.stuck
theorem SOk.buildSlice {t : TypeId} {n : Nat} {parts : Array (Nat × Value)} : SOk S P Any (Instr.buildSlice t n parts) := by
  unfold Instr.buildSlice
  refine SOk.bind SOk.underlying fun d _ => ?_
  cases d with
  | slice e =>
    refine SOk.bind1 SOk.sizeOf fun sz => ?_
    have fin : ∀ (z : Array Value), SOk S P Any (match Instr.fill (fun i => some (i * sz, sz)) ((Array.range (n * sz)).map (z[· % z.size]!)) parts.toList with
      | some cells => do Pure.pure (Value.slice (some (← Go.newRow e cells)) n n)
      | x => Go.stuck "buildSlice: a part of the wrong size") := fun z => by
      split
      · exact SOk.bind1 SOk.newRow fun _ => SOk.pure1
      · exact SOk.stuck
    simp only []
    split
    · exact SOk.bind1 (SOk.unsup (by simp)) fun _ => by
        split
        · exact SOk.bind1 SOk.pure1 fin
        · exact SOk.bind1 SOk.zeroValue fun _ => SOk.bind1 SOk.pure1 fin
    · split
      · exact SOk.bind1 SOk.pure1 fin
      · exact SOk.bind1 SOk.zeroValue fun _ => SOk.bind1 SOk.pure1 fin
  | _ => exact SOk.stuck
theorem SOk.loadAt {t : TypeId} {a : Value} : SOk S P Any (Instr.loadAt t a) := SOk.bind1 SOk.sureAddr fun _ => SOk.loadVar
theorem SOk.storeAt {t : TypeId} {a v : Value} : SOk S P Any (Instr.storeAt t a v) := SOk.bind1 SOk.sureAddr fun _ => SOk.storeVar
theorem SOk.fieldAt {t : TypeId} {a : Value} {f : Nat} : SOk S P Any (Instr.fieldAt t a f) := by
  unfold Instr.fieldAt
  refine SOk.bind SOk.underlying fun d _ => ?_
  cases d with
  | struct fs =>
    simp only []
    split
    · exact SOk.bind1 SOk.sureAddr fun _ => SOk.bind1 SOk.fieldPlace fun _ => SOk.pure1
    · exact SOk.stuck
  | _ => exact SOk.stuck
theorem SOk.field {t : TypeId} {a : Value} {f : Nat} : SOk S P Any (Instr.field t a f) := by
  unfold Instr.field
  refine SOk.bind SOk.underlying fun d _ => ?_
  cases d with
  | struct fs =>
    simp only []
    split
    · exact SOk.bind1 SOk.asAgg fun _ => SOk.part
    · exact SOk.stuck
  | _ => exact SOk.stuck
theorem SOk.indexAt {t : TypeId} {x i : Value} : SOk S P Any (Instr.indexAt t x i) := by
  unfold Instr.indexAt
  refine SOk.bind1 SOk.asIntOf fun ki => ?_
  obtain ⟨k, i⟩ := ki
  simp only []
  refine SOk.bind SOk.underlying fun d _ => ?_
  have key : ∀ (d2 : TypeDesc) (base : Option Addr) (len : Nat) (elem : TypeId), SOk S P Any (match base with
      | some a =>
        if 0 ≤ i ∧ i < (len : Int) then do Pure.pure (Value.pointer (some (a.add (i.toNat * (← Go.sizeOf elem)))))
        else if (decide (len ≤ 1) && (match d2 with | .array _ _ => true | _ => false)) = true then unsupported (.noEntry "op/indexAddr.an index out of range at an array of length 0 or 1 (ledger 616)")
        else Go.boundsPanic k i len .index
      | none => Go.boundsPanic k i 0 .index) := fun d2 base len elem => by
    cases base with
    | none => exact SOk.boundsPanic
    | some a =>
      simp only []
      split
      · exact SOk.bind1 SOk.sizeOf fun _ => SOk.pure1
      · exact SOk.ite (SOk.unsup (by intro g h; cases h)) SOk.boundsPanic
  split
  · exact SOk.bind1 SOk.sureAddr fun _ => SOk.bind1 SOk.pure1 fun z => SOk.bind1 (SOk.any SOk.underlying) fun d2 => key d2 z.1 z.2.1 z.2.2
  · exact SOk.bind1 SOk.pure1 fun z => SOk.bind1 (SOk.any SOk.underlying) fun d2 => key d2 z.1 z.2.1 z.2.2
  · exact SOk.bind1 SOk.stuck fun z => SOk.bind1 (SOk.any SOk.underlying) fun d2 => key d2 z.1 z.2.1 z.2.2
theorem SOk.index {t : TypeId} {x i : Value} : SOk S P Any (Instr.index t x i) := by
  unfold Instr.index
  refine SOk.bind1 SOk.asIntOf fun ki => ?_
  obtain ⟨k, i⟩ := ki
  simp only []
  refine SOk.bind SOk.underlying fun d _ => ?_
  split
  · split
    · exact SOk.bind1 SOk.sizeOf fun _ => SOk.part
    · exact SOk.boundsPanic
  · split
    · exact SOk.pure1
    · exact SOk.boundsPanic
  · exact SOk.stuck
theorem SOk.extract {t : Value} {i : Nat} : SOk S P Any (Instr.extract t i) := by
  unfold Instr.extract
  split
  · split <;> first | exact SOk.pure1 | exact SOk.stuck
  · exact SOk.stuck
theorem SOk.makeMap {t : TypeId} : SOk S P Any (Instr.makeMap t none) := SOk.bind1 (SOk.newObj trivial) fun _ => SOk.pure1
theorem SOk.askRoom {n : Nat} : SOk S P Any (askRoom n) := by
  unfold Go.askRoom
  split
  · exact SOk.noRoom
  · exact SOk.pure1
end
end Go.Sf

/-! Lifting library, part 5 -/
namespace Go.Sf
open Go Go.Conc
section
variable [Bad] [Asks] {S : Nat → Nat} {P : Program} {α β γ : Type} {A : α → Prop} {B : β → Prop}
theorem SOk.equal {t : TypeId} {x y : Value} (ht : plainType P t = true) : SOk S P Any (Op.equal t x y) := by
  unfold Op.equal Op.maxDepth
  unfold Op.equalIn
  refine SOk.bind SOk.underlying fun d hd => ?_
  unfold plainType at ht
  rw [hd] at ht
  cases d with
  | int k =>
    split
    all_goals first
      | contradiction
      | exact SOk.pure1
      | exact SOk.stuck
      | exact SOk.unsup (by intro g h; cases h)
      | (split <;> first | exact SOk.pure1 | exact SOk.stuck)
      | (refine SOk.bind1 SOk.behindNumber fun a => SOk.bind1 SOk.behindNumber fun b => ?_
         simp only []
         refine SOk.program (by rfl) ?_
         split
         · exact SOk.bind1 SOk.byteOf fun _ => SOk.bind1 SOk.byteOf fun _ => SOk.pure1
         · refine SOk.bind SOk.typeInfo fun i _ => ?_
           split
           · split
             · exact SOk.pure1
             · exact SOk.unsup (by intro g h; cases h)
           · exact SOk.unsup (by intro g h; cases h))
  | bool =>
    split
    all_goals first
      | contradiction
      | exact SOk.pure1
      | exact SOk.stuck
      | exact SOk.unsup (by intro g h; cases h)
      | (split <;> first | exact SOk.pure1 | exact SOk.stuck)
  | string =>
    split
    all_goals first
      | contradiction
      | exact SOk.pure1
      | exact SOk.stuck
      | exact SOk.unsup (by intro g h; cases h)
      | (split <;> first | exact SOk.pure1 | exact SOk.stuck)
  | slice e =>
    split
    all_goals first
      | contradiction
      | exact SOk.pure1
      | exact SOk.stuck
      | exact SOk.unsup (by intro g h; cases h)
      | (split <;> first | exact SOk.pure1 | exact SOk.stuck)
  | _ => cases ht
theorem SimS.deadL {Q : Program} {s t : Sem α} (h : ∀ v, ∃ hh v', s.run Q v = .halt hh v' ∧ ¬ badHalt hh ∧ ∀ x, hh ≠ .panic x) : SimS S P Q A s t := fun v w es _ => by
  obtain ⟨hh, v', h1, h2, h3⟩ := h v
  exact SimAt.of_halt h1 h2 h3
theorem SOk.unsafeAdd {ts : Array TypeId} {t : TypeId} {args : Array Value} : SOk S P Any (Builtin.unsafeAdd_ ts t args) := by
  unfold Builtin.unsafeAdd_
  obtain ⟨l⟩ := args
  rcases l with _ | ⟨a, _ | ⟨b, _ | ⟨c, r⟩⟩⟩
  · exact SOk.stuck
  · cases a <;> exact SOk.stuck
  · cases a with
    | pointer ptr =>
      have tail : ∀ (n : Int), SOk S P Any (match ptr with
          | some a => do
            let __x ← Go.shape a.block
            match __x with
              | some (e, cells) => do
                let p ← Go.program
                match cellAtBytes p p.depth e (cells / p.cellsOf e) a.off n with
                  | some off => Pure.pure (Value.pointer (some { block := a.block, off := off, spot := a.spot }))
                  | none => unsupported (Unsupported.unsafePointer "Add")
              | x => unsupported (Unsupported.unsafePointer "Add")
          | x => unsupported (Unsupported.unsafePointer "Add")) := fun n => by
        cases ptr with
        | none => exact SOk.unsup (by intro g h; cases h)
        | some a =>
          simp only []
          refine SOk.shape fun x y hxy => ?_
          have key : ∀ (e : TypeId) (c : Nat), SOk S P Any (do
                let p ← Go.program
                match cellAtBytes p p.depth e (c / p.cellsOf e) a.off n with
                  | some off => Pure.pure (Value.pointer (some { block := a.block, off := off, spot := a.spot }))
                  | none => unsupported (Unsupported.unsafePointer "Add")) := fun e c => by
            refine SOk.program (by unfold cellAtBytes; simp only [byteOfCell_ghost, cellOfByte_ghost]; rfl) ?_
            split
            · exact SOk.pure1
            · exact SOk.unsup (by intro g h; cases h)
          rcases hxy with rfl | ⟨rfl, -⟩
          · cases x with
            | some z => exact key z.1 z.2
            | none => exact SOk.unsup (by intro g h; cases h)
          · exact SimS.haltL (hh := .unsupported (.unsafePointer "Add")) rfl (by simp [badHalt]) (by simp)
      refine SOk.bind1 SOk.asInt fun n => ?_
      simp only []
      split
      · cases ptr with
        | none =>
          refine SOk.bind1 (SOk.unsup (by intro g h; cases h)) fun _ => ?_
          split
          · exact SOk.bind1 (SOk.unsup (by intro g h; cases h)) fun _ => tail n
          · exact tail n
        | some a =>
          refine SOk.viewAt ?_ fun x t => ?_
          · exact SOk.pure1
          · exact SimS.haltL (hh := .unsupported (.unsafePointer "Add: at a place where no cell lies")) rfl (by simp [badHalt]) (by simp)
      · split
        · exact SOk.bind1 (SOk.unsup (by intro g h; cases h)) fun _ => tail n
        · exact tail n
    | _ => exact SOk.stuck
  · cases a <;> exact SOk.stuck
theorem SOk.movedNumber {t : TypeId} {x y : Value} : SOk S P Any (movedNumber t x y) := by
  unfold Go.movedNumber
  refine SOk.bind SOk.underlying fun d _ => ?_
  simp only []
  have rest : SOk S P Any (match x with
      | .pointer (some n) => do
        let (a, lost) ← Go.behindNumber n
        match ← Builtin.unsafeAdd_ #[] t #[.pointer (some a), y] with
        | .pointer (some b) => Go.asNumber b lost
        | v => Pure.pure v
      | _ => Builtin.unsafeAdd_ #[] t #[x, y]) := by
    split
    · refine SOk.bind1 SOk.behindNumber fun al => ?_
      simp only []
      refine SOk.bind1 SOk.unsafeAdd fun v => ?_
      split
      · exact SOk.asNumber
      · exact SOk.pure1
    · exact SOk.unsafeAdd
  split
  · exact SOk.bind1 (SOk.unsup (by intro g h; cases h)) fun _ => rest
  · exact rest
theorem SOk.movedPointer {t : TypeId} {x y : Value} : SOk S P Any (movedPointer t x y) := by
  unfold Go.movedPointer
  simp only []
  split
  · refine SOk.bind1 SOk.numberAt fun o => ?_
    split
    · exact SOk.bind1 (SOk.unsup (by intro g h; cases h)) fun _ => SOk.unsafeAdd
    · exact SOk.unsafeAdd
  · exact SOk.unsafeAdd
theorem SOk.twoPlaces {a b : Addr} : SOk S P Any (Op.twoPlaces a b) := by
  unfold Op.twoPlaces
  refine SOk.program (by rfl) ?_
  simp only []
  split
  · exact SOk.bind1 (SOk.unsup (by intro g h; cases h)) fun _ => SOk.bind1 SOk.byteOf fun _ => SOk.bind1 SOk.byteOf fun _ => SOk.pure1
  · exact SOk.bind1 SOk.byteOf fun _ => SOk.bind1 SOk.byteOf fun _ => SOk.pure1
theorem SOk.addrSub {k : IntKind} {a b : Addr} : SOk S P Any (Op.addrSub k a b) := SOk.bind1 SOk.twoPlaces fun _ => SOk.pure1
theorem SOk.addrCmp {o : BinOp} {a b : Addr} : SOk S P Any (Op.addrCmp o a b) := by
  unfold Op.addrCmp
  refine SOk.bind1 SOk.twoPlaces fun xy => ?_
  simp only []
  split <;> first | exact SOk.pure1 | exact SOk.unsup (by intro g h; cases h)
theorem SOk.addrMod {k : IntKind} {a : Addr} {n : Int} : SOk S P Any (Op.addrMod k a n) := by
  unfold Op.addrMod
  refine SOk.shape fun x y hxy => ?_
  have key : ∀ e : TypeId, SOk S P Any (do
      let align := (← Go.typeInfo e).align
      if n < 1 || n.toNat > align || align % n.toNat != 0 then unsupported .addressObserved
      Pure.pure (Value.int k ((← Go.byteOf a) % n.toNat : Nat))) := fun e => by
    refine SOk.bind SOk.typeInfo fun i _ => ?_
    simp only []
    split
    · exact SOk.bind1 (SOk.unsup (by intro g h; cases h)) fun _ => SOk.bind1 SOk.byteOf fun _ => SOk.pure1
    · exact SOk.bind1 SOk.byteOf fun _ => SOk.pure1
  rcases hxy with rfl | ⟨rfl, -⟩
  · cases x with
    | some z => exact key z.1
    | none => exact SOk.unsup (by intro g h; cases h)
  · exact SimS.haltL (hh := .unsupported .addressObserved) rfl (by simp [badHalt]) (by simp)
theorem SOk.floatArith {op : BinOp} {k : FloatKind} {x y : Nat} : SOk S P Any (Op.floatArith op k x y) := by
  unfold Op.floatArith
  have fin : ∀ r : Option Nat, SOk S P Any (match r with
      | some r => Pure.pure (Value.float k r)
      | none => do Pure.pure (Value.float k (← Go.choose (.nanBits k x y)))) := fun r => by
    cases r with
    | some r => exact SOk.pure1
    | none => exact SOk.bind1 SOk.choose fun _ => SOk.pure1
  cases op <;> first | exact SOk.bind1 SOk.pure1 fin | exact SOk.bind1 SOk.stuck fin
theorem SOk.floatCmp {op : BinOp} {k : FloatKind} {x y : Nat} : SOk S P Any (Op.floatCmp op k x y) := by
  cases op <;> first | exact SOk.pure1 | exact SOk.stuck
theorem SOk.intArith {op : BinOp} {k : IntKind} {x y : Int} : SOk S P Any (Op.intArith op k x y) := by
  cases op <;> first | exact SOk.pure1 | exact SOk.stuck
theorem SOk.intBits {op : BinOp} {k : IntKind} {x y : Int} : SOk S P Any (Op.intBits op k x y) := by
  cases op <;> first | exact SOk.pure1 | exact SOk.stuck
theorem SOk.intCmp {op : BinOp} {x y : Int} : SOk S P Any (Op.intCmp op x y) := by
  cases op <;> first | exact SOk.pure1 | exact SOk.stuck
theorem SOk.intDiv {op : BinOp} {k : IntKind} {x y : Int} : SOk S P Any (Op.intDiv op k x y) := by
  unfold Op.intDiv
  split
  · exact SOk.runtimePanic
  · cases op <;> first | exact SOk.pure1 | exact SOk.stuck
theorem SOk.stringOp {op : BinOp} {x y : ByteArray} : SOk S P Any (Op.stringOp op x y) := by
  unfold Op.stringOp
  simp only []
  split
  case h_1 =>
    split
    · exact SOk.unsup (by intro g h; cases h)
    · exact SOk.pure1
  all_goals first | exact SOk.pure1 | exact SOk.stuck
theorem SOk.carith {op : BinOp} {k : FloatKind} {x y : Nat} : SOk S P Any (Op.Complex.arith op k x y) := by
  unfold Op.Complex.arith
  refine SOk.bind1 SOk.floatArith fun v => ?_
  split <;> first | exact SOk.pure1 | exact SOk.stuck
theorem SOk.ccmp {op : BinOp} {k : FloatKind} {x y : Nat} : SOk S P Any (Op.Complex.cmp op k x y) := SOk.bind1 SOk.floatCmp fun _ => SOk.asBool
theorem SOk.floatToFloat {k l : FloatKind} {x : Nat} : SOk S P Any (Conv.floatToFloat k x l) := by
  unfold Conv.floatToFloat
  split
  · exact SOk.pure1
  · split
    · exact SOk.bind1 SOk.choose fun _ => SOk.pure1
    · exact SOk.pure1
    · simp only []
      split
      · exact SOk.bind1 SOk.choose fun _ => SOk.pure1
      · exact SOk.pure1
theorem SOk.cconv {k l : FloatKind} {x : Nat} : SOk S P Any (Op.Complex.conv k x l) := by
  unfold Op.Complex.conv
  split
  · exact SOk.pure1
  · refine SOk.bind1 SOk.floatToFloat fun v => ?_
    split <;> first | exact SOk.pure1 | exact SOk.stuck
theorem SOk.cadd {x y : Nat} : SOk S P Any (Op.Complex.add x y) := SOk.carith
theorem SOk.csub {x y : Nat} : SOk S P Any (Op.Complex.sub x y) := SOk.carith
theorem SOk.cmul {x y : Nat} : SOk S P Any (Op.Complex.mul x y) := SOk.carith
theorem SOk.cquo {x y : Nat} : SOk S P Any (Op.Complex.quo x y) := SOk.carith
theorem SOk.product {a b c d : Nat} : SOk S P Any (Op.Complex.product a b c d) := by
  unfold Op.Complex.product
  repeat (first | exact SOk.pure1 | (refine SOk.bind1 (by first | exact SOk.cmul | exact SOk.csub | exact SOk.cadd) fun _ => ?_))
theorem SOk.corrected {s a b c d : Nat} : SOk S P Any (Op.Complex.corrected s a b c d) := by
  unfold Op.Complex.corrected
  repeat (first | exact SOk.pure1 | (refine SOk.bind1 (by first | exact SOk.cmul | exact SOk.csub | exact SOk.cadd) fun _ => ?_))
set_option maxHeartbeats 2000000 in
theorem SOk.quotient {a b c d : Nat} : SOk S P Any (Op.Complex.quotient a b c d) := by
  unfold Op.Complex.quotient
  have fin : ∀ ef : Nat × Nat, SOk S P Any (do
      let (e, f) := ef
      let zero := (← Op.Complex.cmp .eql .f64 c 0) && (← Op.Complex.cmp .eql .f64 d 0)
      if !(Op.Complex.isNaN e && Op.Complex.isNaN f) then Pure.pure (e, f)
      else if zero && (!Op.Complex.isNaN a || !Op.Complex.isNaN b) then
        Pure.pure (← Op.Complex.mul (Op.Complex.copysign Op.Complex.inf c) a, ← Op.Complex.mul (Op.Complex.copysign Op.Complex.inf c) b)
      else if (Op.Complex.isInf a || Op.Complex.isInf b) && Op.Complex.isFinite c && Op.Complex.isFinite d then
        Op.Complex.corrected Op.Complex.inf (Op.Complex.inf2one a) (Op.Complex.inf2one b) c d
      else if (Op.Complex.isInf c || Op.Complex.isInf d) && Op.Complex.isFinite a && Op.Complex.isFinite b then
        Op.Complex.corrected 0 a b (Op.Complex.inf2one c) (Op.Complex.inf2one d)
      else Pure.pure (e, f)) := fun ef => by
    simp only []
    have last : ∀ z : Bool, SOk S P Any (if (!(Op.Complex.isNaN ef.1 && Op.Complex.isNaN ef.2)) = true then Pure.pure (ef.1, ef.2)
      else if (z && (!Op.Complex.isNaN a || !Op.Complex.isNaN b)) = true then do
        Pure.pure (← Op.Complex.mul (Op.Complex.copysign Op.Complex.inf c) a, ← Op.Complex.mul (Op.Complex.copysign Op.Complex.inf c) b)
      else if ((Op.Complex.isInf a || Op.Complex.isInf b) && Op.Complex.isFinite c && Op.Complex.isFinite d) = true then
        Op.Complex.corrected Op.Complex.inf (Op.Complex.inf2one a) (Op.Complex.inf2one b) c d
      else if ((Op.Complex.isInf c || Op.Complex.isInf d) && Op.Complex.isFinite a && Op.Complex.isFinite b) = true then
        Op.Complex.corrected 0 a b (Op.Complex.inf2one c) (Op.Complex.inf2one d)
      else Pure.pure (ef.1, ef.2)) := fun z => by
      split
      · exact SOk.pure1
      · split
        · exact SOk.bind1 SOk.cmul fun _ => SOk.bind1 SOk.cmul fun _ => SOk.pure1
        · split
          · exact SOk.corrected
          · split
            · exact SOk.corrected
            · exact SOk.pure1
    refine SOk.bind1 SOk.ccmp fun z1 => ?_
    cases z1 with
    | true => exact SOk.bind1 SOk.ccmp fun z2 => last z2
    | false => exact last false
  refine SOk.bind1 SOk.ccmp fun q => ?_
  simp only []
  split
  · refine SOk.bind1 SOk.cquo fun _ => SOk.bind1 SOk.cmul fun _ => SOk.bind1 SOk.cadd fun _ => SOk.bind1 SOk.cmul fun _ => SOk.bind1 SOk.cadd fun _ => SOk.bind1 SOk.cquo fun _ => SOk.bind1 SOk.cmul fun _ => SOk.bind1 SOk.csub fun _ => SOk.bind1 SOk.cquo fun _ => ?_
    exact SOk.bind1 SOk.pure1 fin
  · refine SOk.bind1 SOk.cquo fun _ => SOk.bind1 SOk.cmul fun _ => SOk.bind1 SOk.cadd fun _ => SOk.bind1 SOk.cmul fun _ => SOk.bind1 SOk.cadd fun _ => SOk.bind1 SOk.cquo fun _ => SOk.bind1 SOk.cmul fun _ => SOk.bind1 SOk.csub fun _ => SOk.bind1 SOk.cquo fun _ => ?_
    exact SOk.bind1 SOk.pure1 fin
set_option maxHeartbeats 2000000 in
theorem SOk.complexOp {op : BinOp} {k : FloatKind} {a b c d : Nat} : SOk S P Any (Op.complexOp op k a b c d) := by
  unfold Op.complexOp
  have fin : ∀ ef : Nat × Nat, SOk S P Any (match ef with | (e, f) => do Pure.pure (Value.complex k (← Op.Complex.conv .f64 e k) (← Op.Complex.conv .f64 f k))) := fun ef => SOk.bind1 SOk.cconv fun _ => SOk.bind1 SOk.cconv fun _ => SOk.pure1
  have big : ∀ a b c d : Nat, SOk S P Any (if (op == .mul) = true then Op.Complex.product a b c d else Op.Complex.quotient a b c d) := fun a b c d => SOk.ite SOk.product SOk.quotient
  split
  · exact SOk.bind1 SOk.carith fun _ => SOk.bind1 SOk.carith fun _ => SOk.pure1
  · exact SOk.bind1 SOk.carith fun _ => SOk.bind1 SOk.carith fun _ => SOk.pure1
  · refine SOk.bind1 SOk.cconv fun _ => SOk.bind1 SOk.cconv fun _ => SOk.bind1 SOk.cconv fun _ => SOk.bind1 SOk.cconv fun _ => ?_
    simp only []
    first
      | exact SOk.bind1 SOk.product fin
      | exact SOk.bind1 SOk.quotient fin
      | (split <;> first | exact SOk.bind1 SOk.product fin | exact SOk.bind1 SOk.quotient fin)
  · refine SOk.bind1 SOk.cconv fun _ => SOk.bind1 SOk.cconv fun _ => SOk.bind1 SOk.cconv fun _ => SOk.bind1 SOk.cconv fun _ => ?_
    simp only []
    first
      | exact SOk.bind1 SOk.product fin
      | exact SOk.bind1 SOk.quotient fin
      | (split <;> first | exact SOk.bind1 SOk.product fin | exact SOk.bind1 SOk.quotient fin)
  · refine SOk.bind1 SOk.ccmp fun q => ?_
    cases q with
    | true => exact SOk.bind1 SOk.ccmp fun _ => SOk.pure1
    | false => exact SOk.pure1
  · refine SOk.bind1 SOk.ccmp fun q => ?_
    cases q with
    | true => exact SOk.bind1 SOk.ccmp fun _ => SOk.pure1
    | false => exact SOk.pure1
  · exact SOk.stuck
theorem SOk.binOp {op : BinOp} {t : TypeId} {x y : Value} (ht : (match op with | .eql | .neq => plainType P t | _ => true) = true) : SOk S P Any (Go.binOp op t x y) := by
  unfold Go.binOp
  split
  all_goals first
    | exact SOk.stuck
    | exact SOk.unsup (by intro g h; cases h)
    | (unfold Op.shift; split <;> first | exact SOk.runtimePanic | (simp only []; exact SOk.pure1))
    | exact SOk.bind1 (SOk.equal ht) fun _ => SOk.pure1
    | exact SOk.movedNumber
    | exact SOk.bind1 SOk.behindNumber fun _ => SOk.bind1 SOk.behindNumber fun _ => SOk.addrSub
    | exact SOk.bind1 SOk.behindNumber fun _ => SOk.bind1 SOk.behindNumber fun _ => SOk.addrCmp
    | exact SOk.bind1 SOk.behindNumber fun _ => SOk.addrMod
    | exact SOk.stringOp
    | (split
       · exact SOk.stuck
       · split <;> first | exact SOk.intArith | exact SOk.intDiv | exact SOk.intBits | exact SOk.intCmp | exact SOk.floatArith | exact SOk.floatCmp | exact SOk.complexOp)
    | (split
       · exact SOk.stuck
       · exact SOk.complexOp)
    | (refine SOk.bind SOk.underlying fun d _ => ?_
       split <;> first | exact SOk.movedPointer | exact SOk.movedNumber)
end
end Go.Sf

/-! Lifting library, part 6 -/
namespace Go.Sf
open Go Go.Conc
section
variable [Bad] [Asks] {S : Nat → Nat} {P : Program} {α β γ : Type} {A : α → Prop} {B : β → Prop}
theorem SOk.checkKey {e : Bool} {n : Nat} {t : TypeId} {v : Value} {k : IntKind} (ht : P.underlying t = some (.int k)) : SOk S P Any (Instr.checkKey e (n + 1) t v) := by
  unfold Instr.checkKey
  refine SOk.bind SOk.underlying fun d hd => ?_
  rw [ht] at hd
  cases hd
  split
  all_goals first
    | contradiction
    | exact SOk.pure1
    | exact SOk.stuck
theorem plain_int {t : TypeId} {k : IntKind} (ht : P.underlying t = some (.int k)) : plainType P t = true := by unfold plainType; rw [ht]
theorem SOk.findAsking {t : TypeId} {k : Value} {ik : IntKind} (ht : P.underlying t = some (.int ik)) : ∀ (es : List MapEntry) (i : Nat), SOk S P Any (Instr.findAsking t k es i)
  | [], i => SOk.pure1
  | e :: es, i => by
    unfold Instr.findAsking
    refine SOk.bind1 (SOk.equal (plain_int ht)) fun b => ?_
    split
    · exact SOk.pure1
    · exact SOk.findAsking ht es (i + 1)
theorem SOk.findKey {t : TypeId} {k : Value} {ik : IntKind} {es : List MapEntry} (ht : P.underlying t = some (.int ik)) : SOk S P Any (Instr.findKey t k es) := by
  unfold Instr.findKey
  refine SOk.bind SOk.underlying fun d _ => ?_
  split
  · exact SOk.pure1
  · exact SOk.findAsking ht _ _
def mapFine (P : Program) (t : TypeId) : Prop := ∃ k e ik, P.underlying t = some (.map k e) ∧ P.underlying k = some (.int ik)
theorem SOk.lookup {t : TypeId} {x i : Value} {ok : Bool} (ht : mapFine P t) : SOk S P Any (Instr.lookup t x i ok) := by
  obtain ⟨k, e, ik, h1, h2⟩ := ht
  unfold Instr.lookup
  refine SOk.bind SOk.underlying fun d hd => ?_
  rw [h1] at hd
  cases hd
  have fin : ∀ es : Array MapEntry, SOk S P Any (do
      Instr.checkKey es.isEmpty 10000 k i
      let (v, o) ← match ← Instr.findKey k i es.toList with
        | some (_, v) => Pure.pure (v, true)
        | none => Pure.pure (← Go.zeroValue e, false)
      Pure.pure (if ok then Value.tuple #[v, .bool o] else v)) := fun es => by
    refine SOk.bind1 (SOk.checkKey h2) fun _ => SOk.bind1 (SOk.findKey h2) fun r => ?_
    cases r with
    | some p => exact SOk.bind1 SOk.pure1 fun _ => SOk.pure1
    | none => exact SOk.bind1 SOk.zeroValue fun _ => SOk.bind1 SOk.pure1 fun _ => SOk.pure1
  simp only []
  split
  · exact SOk.bind1 SOk.pure1 fin
  · refine SOk.getObj (fun o _ _ => ?_) fun b o' ho => ?_
    · cases o <;> first | exact SOk.bind1 SOk.stuck fin | exact SOk.bind1 SOk.pure1 fin
    · exact SimS.haltL (hh := .stuck "Lookup: map expected") rfl (by simp [badHalt]) (by simp)
  · exact SOk.bind1 SOk.stuck fin
theorem SOk.keyThatStays {a b : Value} : SOk S P Any (Instr.keyThatStays a b) := by
  unfold Instr.keyThatStays
  split
  · exact SOk.pure1
  · exact SOk.bind1 SOk.choose fun _ => SOk.pure1
theorem SOk.mapUpdate {t : TypeId} {m k v : Value} (ht : mapFine P t) : SOk S P Any (Instr.mapUpdate t m k v) := by
  obtain ⟨kt, e, ik, h1, h2⟩ := ht
  unfold Instr.mapUpdate
  refine SOk.bind SOk.underlying fun d hd => ?_
  rw [h1] at hd
  cases hd
  simp only []
  split
  · exact SOk.runtimePanic
  · refine SOk.getObj (fun o hS _ => ?_) fun b o' ho => ?_
    · cases o with
      | map es clock =>
        simp only []
        refine SOk.bind1 (SOk.checkKey h2) fun _ => SOk.bind1 (SOk.findKey h2) fun r => ?_
        cases r with
        | some p => exact SOk.bind1 SOk.keyThatStays fun _ => SOk.setObj hS trivial
        | none => exact SOk.setObj hS trivial
      | _ => exact SOk.stuck
    · exact SimS.haltL (hh := .stuck "MapUpdate: map expected") rfl (by simp [badHalt]) (by simp)
  · exact SOk.stuck
theorem SOk.range {t : TypeId} {x : Value} : SOk S P Any (Instr.range t x) := by
  unfold Instr.range
  have fin : ∀ it : Obj, plainObj P it → SOk S P Any (do Pure.pure (Value.pointer (some ⟨← Go.newObj it, 0, none⟩))) := fun it h => SOk.bind1 (SOk.newObj h) fun _ => SOk.pure1
  refine SOk.bind SOk.underlying fun d _ => ?_
  split
  · exact SOk.bind (A := plainObj P) (SOk.pure trivial) fin
  · exact SOk.bind (A := plainObj P) (SOk.pure trivial) fin
  · refine SOk.getObj (fun o _ _ => ?_) fun b o' ho => ?_
    · cases o with
      | map es clock => exact SOk.bind (A := plainObj P) (SOk.pure trivial) fin
      | _ => exact SOk.bind (A := plainObj P) SOk.stuck fin
    · exact SimS.haltL (hh := .stuck "Range: map expected") rfl (by simp [badHalt]) (by simp)
  · exact SOk.bind (A := plainObj P) SOk.stuck fin
theorem SOk.next {x : Value} {t : TypeId} : SOk S P Any (Instr.next x false t) := by
  unfold Instr.next
  simp only []
  split
  · next r sp =>
    refine SOk.getObj (fun o hS _ => ?_) fun b o' ho => ?_
    · cases o with
      | mapIter m since seen last =>
        cases m with
        | none => exact SOk.pure1
        | some m =>
          simp only []
          refine SOk.getObj (fun o _ _ => ?_) fun b o' ho => ?_
          · cases o with
            | map es clock =>
              simp only []
              have fin : SOk S P Any (do
                  let left := es.filter fun e => !seen.contains e.born
                  let old := left.filter (·.born < since)
                  let new := left.filter (·.born ≥ since)
                  let candidates := (if old.isEmpty then #[none] else #[]) ++ (old ++ new).map some
                  match candidates[← Go.choose (.mapNext candidates.size)]? with
                  | some (some e) =>
                    Go.setObj r (.mapIter (some m) since (seen.push e.born) clock)
                    Pure.pure (Value.tuple #[.bool true, e.key, e.val])
                  | some none => Pure.pure (Value.tuple #[.bool false])
                  | none => Go.stuck "Next: no such candidate") := by
                simp only []
                refine SOk.bind1 SOk.choose fun n => ?_
                split
                · exact SOk.bind1 (SOk.setObj hS trivial) fun _ => SOk.pure1
                · exact SOk.pure1
                · exact SOk.stuck
              split
              · exact SOk.bind1 (SOk.unsup (by intro g h; cases h)) fun _ => fin
              · exact fin
            | _ => exact SOk.stuck
          · exact SimS.haltL (hh := .stuck "Next: map expected") rfl (by simp [badHalt]) (by simp)
      | _ => exact SOk.stuck
    · exact SimS.haltL (hh := .stuck "Next: iterator of the other kind") rfl (by simp [badHalt]) (by simp)
  · exact SOk.stuck
theorem SOk.entry {x : Value} : SOk S P Any (Instr.entry x) := by
  unfold Instr.entry
  split
  · next r sp =>
    refine SOk.getObj (fun o hS _ => ?_) fun b o' ho => ?_
    · cases o with
      | mapIter m since seen last =>
        cases m with
        | none => exact SOk.stuck
        | some m =>
          simp only []
          split
          · refine SOk.getObj (fun o _ _ => ?_) fun b o' ho => ?_
            · cases o with
              | map es clock =>
                simp only []
                split
                · exact SOk.bind1 (SOk.unsup (by intro g h; cases h)) fun _ => by
                    split <;> first | exact SOk.pure1 | exact SOk.unsup (by intro g h; cases h)
                · split <;> first | exact SOk.pure1 | exact SOk.unsup (by intro g h; cases h)
              | _ => exact SOk.stuck
            · exact SimS.haltL (hh := .stuck "Entry: map expected") rfl (by simp [badHalt]) (by simp)
          · exact SOk.stuck
      | _ => exact SOk.stuck
    · exact SimS.haltL (hh := .stuck "Entry: an iterator over a map that is not nil expected") rfl (by simp [badHalt]) (by simp)
  · exact SOk.stuck
end
end Go.Sf

/-! Lifting library, part 7 -/
namespace Go.Sf
open Go Go.Conc
section
variable [Bad] [Asks] {S : Nat → Nat} {P : Program} {α β γ : Type} {A : α → Prop} {B : β → Prop}
theorem SOk.makeSlice {t : TypeId} {l c : Value} : SOk S P Any (Instr.makeSlice t l c) := by
  unfold Instr.makeSlice
  refine SOk.bind SOk.underlying fun d _ => ?_
  cases d with
  | slice e =>
    simp only []
    refine SOk.bind1 SOk.asInt fun l => SOk.bind1 SOk.asInt fun c => SOk.bind1 (SOk.any SOk.typeInfo) fun ti => ?_
    have rest : SOk S P Any (do
        Go.askRoom ((IntKind.i64.wrap c).toNat * ti.bytes)
        let n := (IntKind.i64.wrap c).toNat * (← Go.sizeOf e)
        let zero ← if n = 0 then (Pure.pure #[] : Sem (Array Value)) else do Pure.pure (← Go.zeroValue e).cells
        let a ← Go.newRow e ((Array.range n).map (zero[· % zero.size]!))
        Pure.pure (Value.slice (some a) (IntKind.i64.wrap l).toNat (IntKind.i64.wrap c).toNat)) := by
      refine SOk.bind1 SOk.askRoom fun _ => SOk.bind1 SOk.sizeOf fun sz => ?_
      simp only []
      split
      · exact SOk.bind1 SOk.pure1 fun z => SOk.bind1 SOk.newRow fun _ => SOk.pure1
      · exact SOk.bind1 SOk.zeroValue fun v => SOk.bind1 SOk.pure1 fun z => SOk.bind1 SOk.newRow fun _ => SOk.pure1
    skip
    split
    · split
      · exact SOk.bind1 SOk.runtimePanic fun _ => rest
      · split
        · exact SOk.bind1 SOk.runtimePanic fun _ => rest
        · refine SOk.bind1 SOk.choose fun q => ?_
          exact SOk.bind1 SOk.runtimePanic fun _ => rest
    · exact rest
  | _ => exact SOk.stuck
theorem SOk.sliceBound {x : Value} {y : Nat} {c : BoundsCode} : SOk S P Any (Instr.sliceBound x y c) := by
  unfold Instr.sliceBound
  refine SOk.bind1 SOk.asIntOf fun ki => ?_
  obtain ⟨k, i⟩ := ki
  simp only []
  split
  · exact SOk.pure1
  · exact SOk.boundsPanic
theorem SOk.sliceBounds {b : Bool} {l c : Nat} {lo hi mx : Option Value} : SOk S P Any (Instr.sliceBounds b l c lo hi mx) := by
  unfold Instr.sliceBounds
  have s1 : ∀ m h : Nat, SOk S P Any (do
      let l ← match lo with
        | some v => Instr.sliceBound v h (if mx.isSome then .slice3C else .sliceB)
        | none => Pure.pure 0
      Pure.pure (l, h, m)) := fun m h => by
    cases lo with
    | some v => exact SOk.bind1 SOk.sliceBound fun _ => SOk.pure1
    | none => exact SOk.bind1 SOk.pure1 fun _ => SOk.pure1
  have s2 : ∀ m : Nat, SOk S P Any (do
      let h ← match hi, mx with
        | some v, some _ => Instr.sliceBound v m .slice3B
        | some v, none => Instr.sliceBound v m (if b then .sliceAcap else .sliceAlen)
        | none, none => Pure.pure l
        | none, some _ => Go.stuck "Slice: max without high"
      let l ← match lo with
        | some v => Instr.sliceBound v h (if mx.isSome then .slice3C else .sliceB)
        | none => Pure.pure 0
      Pure.pure (l, h, m)) := fun m => by
    cases hi <;> cases mx <;> first | exact SOk.bind1 SOk.sliceBound (s1 m) | exact SOk.bind1 SOk.pure1 (s1 m) | exact SOk.bind1 SOk.stuck (s1 m)
  cases mx with
  | some v => exact SOk.bind1 SOk.sliceBound s2
  | none => exact SOk.bind1 SOk.pure1 s2
theorem SOk.asAddr {v : Value} : SOk S P Any (asAddr v) := by
  unfold Go.asAddr
  split <;> first | exact SOk.pure1 | exact SOk.runtimePanic | exact SOk.stuck
theorem SOk.slice {t : TypeId} {x : Value} {lo hi mx : Option Value} (h1 : ∀ n e, P.underlying t ≠ some (.array n e)) (h2 : ∀ e, P.underlying t ≠ some (.pointer e)) : SOk S P Any (Instr.sliceAt t x lo hi mx) := by
  unfold Instr.sliceAt
  refine SOk.bind SOk.underlying fun d hd => ?_
  have inner : SOk S P Any (Instr.slice t x lo hi mx) := by
    unfold Instr.slice
    refine SOk.bind SOk.underlying fun d hd => ?_
    split
    · simp only []
      have rest : ∀ s : ByteArray, SOk S P Any (do
          let (l, h, _) ← Instr.sliceBounds false s.size s.size lo hi none
          Pure.pure (Value.string (s.extract l h))) := fun s => SOk.bind1 SOk.sliceBounds fun _ => SOk.pure1
      split
      · exact SOk.bind1 SOk.stuck fun _ => rest _
      · exact rest _
    · refine SOk.bind1 SOk.sliceBounds fun lhm => ?_
      obtain ⟨l, h, m⟩ := lhm
      exact SOk.bind1 SOk.sizeOf fun _ => SOk.pure1
    · exact absurd hd (h2 _)
    · exact SOk.stuck
  split
  · exact absurd hd (h1 _ _)
  · exact inner
theorem SOk.lenOf {x : Value} : SOk S P Any (Builtin.lenOf x) := by
  unfold Builtin.lenOf
  split <;> first | exact SOk.pure1 | exact SOk.stuck
theorem SOk.firstCells {s n : Nat} {x : Value} : SOk S P Any (Builtin.firstCells s n x) := by
  unfold Builtin.firstCells
  split <;> first | exact SOk.loadCells | exact SOk.pure1 | exact SOk.stuck
theorem SOk.len {ts : Array TypeId} {t : TypeId} {args : Array Value} : SOk S P Any (Builtin.len_ ts t args) := by
  unfold Builtin.len_
  split
  · refine SOk.bind SOk.underlying fun d _ => ?_
    split
    all_goals first
      | exact SOk.pure1
      | exact SOk.stuck
      | skip
    · refine SOk.bind SOk.underlying fun d _ => ?_
      cases d <;> first | exact SOk.pure1 | exact SOk.stuck
    · refine SOk.getObj (fun o _ _ => ?_) fun b o' ho => ?_
      · cases o <;> first | exact SOk.pure1 | exact SOk.stuck
      · exact SimS.haltL (hh := .stuck "len: map expected") rfl (by simp [badHalt]) (by simp)
    · refine SOk.getObj (fun o _ _ => ?_) fun b o' ho => ?_
      · cases o <;> first | exact SOk.pure1 | exact SOk.stuck
      · exact SimS.haltL (hh := .stuck "len: channel expected") rfl (by simp [badHalt]) (by simp)
  · exact SOk.stuck
end
end Go.Sf

/-! Lifting library, part 8 -/
namespace Go.Sf
open Go Go.Conc
section
variable [Bad] [Asks] {S : Nat → Nat} {P : Program} {α β γ : Type} {A : α → Prop} {B : β → Prop}
theorem holdsCells_run (Q : Program) (a : Addr) (n : Nat) (v : World) : ∃ b, (Builtin.holdsCells a n).run Q v = .ok b v := by
  unfold Builtin.holdsCells
  show ∃ b, (Sem.shape a.block fun s => _).run Q v = _
  simp only [Sem.run]
  cases v.shape? a.block with
  | none => exact ⟨_, rfl⟩
  | some x => exact ⟨_, rfl⟩
theorem mayShare_run (Q : Program) (size sLen n : Nat) (base : Option Addr) (x : Value) (v : World) : ∃ b, (Builtin.mayShare size sLen n base x).run Q v = .ok b v := by
  unfold Builtin.mayShare
  have tail : ∀ there : Bool, ∃ b, ((do
      if !there then return true
      match x with
      | .slice (some b) _ _ => do Pure.pure (!(← Builtin.holdsCells b (n * size)) || base.any (·.block == b.block))
      | _ => Pure.pure false : Sem Bool)).run Q v = .ok b v := fun there => by
    cases there with
    | false => exact ⟨_, rfl⟩
    | true =>
      simp only [Bool.not_true, Bool.false_eq_true, if_false]
      split
      · next b _ _ =>
        obtain ⟨z, hz⟩ := holdsCells_run Q b (n * size) v
        refine ⟨!z || base.any (·.block == b.block), ?_⟩
        show ((Builtin.holdsCells b (n * size)).bind fun q => Sem.pure (!q || base.any (·.block == b.block))).run Q v = _
        rw [run_bind, hz]
        rfl
      · exact ⟨_, rfl⟩
  cases base with
  | none => exact tail true
  | some a =>
    obtain ⟨z, hz⟩ := holdsCells_run Q a (sLen * size) v
    obtain ⟨r, hr⟩ := tail (z && !(v.frozen? (a.add (sLen / 2 * size))))
    refine ⟨r, ?_⟩
    show ((Builtin.holdsCells a (sLen * size)).bind _).run Q v = _
    rw [run_bind, hz]
    exact hr
theorem SOk.pite {c : Prop} [Decidable c] {s t : Sem α} (hs : c → SOk S P A s) (ht : ¬ c → SOk S P A t) : SOk S P A (if c then s else t) := by
  by_cases h : c
  · rw [if_pos h]; exact hs h
  · rw [if_neg h]; exact ht h
theorem SOk.append {ts : Array TypeId} {t : TypeId} {args : Array Value} : SOk S P Any (Builtin.append_ ts t args) := by
  unfold Builtin.append_
  split
  · next sv x _ =>
    refine SOk.bind SOk.underlying fun d _ => ?_
    cases d with
    | slice elem =>
      cases sv with
      | slice base sLen sCap =>
        refine SOk.bind1 SOk.sizeOf fun size => ?_
        have app : ∀ (zeros : Bool) (n : Nat), SOk S P Any (if !zeros then Builtin.firstCells size n x else if n * size = 0 then Pure.pure #[] else do Pure.pure (Builtin.zeroCells (← Go.zeroValue elem).cells n)) := fun zeros n => by
          split
          · exact SOk.firstCells
          · split
            · exact SOk.pure1
            · exact SOk.bind1 SOk.zeroValue fun _ => SOk.pure1
        have room : ∀ (zeros : Bool) (n : Nat), SOk S P Any (do
            let newCap ← Go.choose (.appendCap (sLen + n) sCap elem)
            Go.askRoom (newCap * (← Go.typeInfo elem).bytes)
            let old ← Builtin.firstCells size sLen (.slice base sLen sCap)
            let new ← (if !zeros then Builtin.firstCells size n x else if n * size = 0 then Pure.pure #[] else do Pure.pure (Builtin.zeroCells (← Go.zeroValue elem).cells n))
            let rest := Builtin.zeroCells (← Go.zeroValue elem).cells (newCap - (sLen + n))
            Pure.pure (Value.slice (some (← Go.newRow elem (old ++ new ++ rest))) (sLen + n) newCap)) := fun zeros n =>
          SOk.bind1 SOk.choose fun nc => SOk.bind1 (SOk.any SOk.typeInfo) fun ti => SOk.bind1 SOk.askRoom fun _ => SOk.bind1 SOk.firstCells fun old => SOk.bind1 (app zeros n) fun new => SOk.bind1 SOk.zeroValue fun z => SOk.bind1 SOk.newRow fun _ => SOk.pure1
        have big : ∀ (zeros : Bool) (n : Nat), SOk S P Any (do
            if Builtin.nextslicecap (sLen + n) sCap * (← Go.typeInfo elem).bytes > 2 ^ 48 then (if zeros then Go.runtimePanic (.error "growslice: len out of range") else do
              if !(← Builtin.mayShare size sLen n base x) then Go.mark .noRoom
              unsupported (.resourceLimit "append: a slice or a string whose bytes no memory bears"))
            let newCap ← Go.choose (.appendCap (sLen + n) sCap elem)
            Go.askRoom (newCap * (← Go.typeInfo elem).bytes)
            let old ← Builtin.firstCells size sLen (.slice base sLen sCap)
            let new ← (if !zeros then Builtin.firstCells size n x else if n * size = 0 then Pure.pure #[] else do Pure.pure (Builtin.zeroCells (← Go.zeroValue elem).cells n))
            let rest := Builtin.zeroCells (← Go.zeroValue elem).cells (newCap - (sLen + n))
            Pure.pure (Value.slice (some (← Go.newRow elem (old ++ new ++ rest))) (sLen + n) newCap)) := fun zeros n => by
          refine SOk.bind1 (SOk.any SOk.typeInfo) fun ti => ?_
          refine SOk.pite (fun _ => ?_) fun _ => room zeros n
          cases zeros with
          | true => exact SOk.bind1 (SOk.pite (fun _ => SOk.runtimePanic) fun h => absurd rfl h) fun _ => room true n
          | false =>
            refine SimS.deadL fun v => ?_
            obtain ⟨b, hb⟩ := mayShare_run (ghostProg P) size sLen n base x v
            refine ⟨.unsupported (.resourceLimit "append: a slice or a string whose bytes no memory bears"), v, ?_, by simp [badHalt], by simp⟩
            show ((((Builtin.mayShare size sLen n base x).bind _).bind _).run (ghostProg P) v) = _
            rw [run_bind, run_bind, hb]
            cases b <;> rfl
        have tail : ∀ (zeros : Bool) (n : Nat), SOk S P Any (do
            if sLen + n ≤ sCap then
              let new ← (if !zeros then Builtin.firstCells size n x else if n * size = 0 then Pure.pure #[] else do Pure.pure (Builtin.zeroCells (← Go.zeroValue elem).cells n))
              if let some a := base then Go.storeCells (a.add (sLen * size)) new.toList
              Pure.pure (.slice base (sLen + n) sCap)
            else
              if ((sLen + n : Nat) : Int) > IntKind.i64.max ∧ (zeros ∨ (← Go.typeInfo elem).bytes = 0) then Go.runtimePanic (.error "growslice: len out of range")
              if Builtin.nextslicecap (sLen + n) sCap * (← Go.typeInfo elem).bytes > 2 ^ 48 then (if zeros then Go.runtimePanic (.error "growslice: len out of range") else do
                if !(← Builtin.mayShare size sLen n base x) then Go.mark .noRoom
                unsupported (.resourceLimit "append: a slice or a string whose bytes no memory bears"))
              let newCap ← Go.choose (.appendCap (sLen + n) sCap elem)
              Go.askRoom (newCap * (← Go.typeInfo elem).bytes)
              let old ← Builtin.firstCells size sLen (.slice base sLen sCap)
              let new ← (if !zeros then Builtin.firstCells size n x else if n * size = 0 then Pure.pure #[] else do Pure.pure (Builtin.zeroCells (← Go.zeroValue elem).cells n))
              let rest := Builtin.zeroCells (← Go.zeroValue elem).cells (newCap - (sLen + n))
              Pure.pure (Value.slice (some (← Go.newRow elem (old ++ new ++ rest))) (sLen + n) newCap)) := fun zeros n => by
          refine SOk.pite (fun _ => ?_) fun _ => ?_
          · refine SOk.bind1 (app zeros n) fun new => ?_
            cases base with
            | some a => exact SOk.bind1 (SOk.storeCells _ _) fun _ => SOk.pure1
            | none => exact SOk.pure1
          · refine SOk.bind1 (SOk.any SOk.typeInfo) fun ti => ?_
            exact SOk.pite (fun _ => SOk.bind1 SOk.runtimePanic fun _ => big zeros n) fun _ => big zeros n
        have pre : ∀ zeros : Bool, SOk S P Any (do
            let n ← if zeros then do
                let l := IntKind.i64.wrap (← Go.asInt x)
                if l < 0 then Go.runtimePanic (.error "makeslice: len out of range")
                if l * (← Go.typeInfo elem).bytes > 2 ^ 48 then
                  let made ← Go.choose (.extern "append.ofMake.carriedOut" 2)
                  Go.runtimePanic (.error (if made == 1 then "makeslice: len out of range" else "growslice: len out of range"))
                Pure.pure l.toNat
              else Builtin.lenOf x
            if sLen + n ≤ sCap then
              let new ← (if !zeros then Builtin.firstCells size n x else if n * size = 0 then Pure.pure #[] else do Pure.pure (Builtin.zeroCells (← Go.zeroValue elem).cells n))
              if let some a := base then Go.storeCells (a.add (sLen * size)) new.toList
              Pure.pure (.slice base (sLen + n) sCap)
            else
              if ((sLen + n : Nat) : Int) > IntKind.i64.max ∧ (zeros ∨ (← Go.typeInfo elem).bytes = 0) then Go.runtimePanic (.error "growslice: len out of range")
              if Builtin.nextslicecap (sLen + n) sCap * (← Go.typeInfo elem).bytes > 2 ^ 48 then (if zeros then Go.runtimePanic (.error "growslice: len out of range") else do
                if !(← Builtin.mayShare size sLen n base x) then Go.mark .noRoom
                unsupported (.resourceLimit "append: a slice or a string whose bytes no memory bears"))
              let newCap ← Go.choose (.appendCap (sLen + n) sCap elem)
              Go.askRoom (newCap * (← Go.typeInfo elem).bytes)
              let old ← Builtin.firstCells size sLen (.slice base sLen sCap)
              let new ← (if !zeros then Builtin.firstCells size n x else if n * size = 0 then Pure.pure #[] else do Pure.pure (Builtin.zeroCells (← Go.zeroValue elem).cells n))
              let rest := Builtin.zeroCells (← Go.zeroValue elem).cells (newCap - (sLen + n))
              Pure.pure (Value.slice (some (← Go.newRow elem (old ++ new ++ rest))) (sLen + n) newCap)) := fun zeros => by
          cases zeros with
          | false => exact SOk.bind1 SOk.lenOf (tail false)
          | true =>
            refine SOk.bind1 SOk.asInt fun l => ?_
            refine SOk.pite (fun _ => SOk.bind1 SOk.runtimePanic fun _ => ?_) fun _ => ?_
            all_goals
              refine SOk.bind1 (SOk.any SOk.typeInfo) fun ti => ?_
              refine SOk.pite (fun _ => SOk.bind1 SOk.choose fun _ => SOk.bind1 SOk.runtimePanic fun _ => ?_) fun _ => ?_
              all_goals exact SOk.bind1 SOk.pure1 (tail true)
        generalize ts[1]? = o1
        cases o1 with
        | none => exact SOk.bind1 SOk.pure1 pre
        | some xT => exact SOk.bind1 (SOk.any SOk.underlying) fun _ => SOk.bind1 SOk.pure1 pre
      | _ => exact SOk.stuck
    | _ => exact SOk.stuck
  · exact SOk.stuck
end
end Go.Sf

/-! Lifting library, part 9 -/
namespace Go.Sf
open Go Go.Conc
section
variable [Bad] [Asks] {S : Nat → Nat} {P : Program} [BadIn P] {α β γ : Type} {A : α → Prop} {B : β → Prop}
theorem SOk.unNot {x : Value} : SOk S P Any (Op.unary .not x) := by
  unfold Op.unary
  split <;> first | exact SOk.pure1 | exact SOk.stuck | (rename_i h; cases h) | skip
  all_goals (rename_i h; simp at h)
theorem SOk.floatToInt {k : FloatKind} {n : Nat} {d : IntKind} : SOk S P Any (Conv.floatToInt k n d) := by
  unfold Conv.floatToInt
  have any : SOk S P Any (do Pure.pure (Value.int d (d.wrap (← Go.choose (.floatToInt k n d)))) : Sem Value) := SOk.bind1 SOk.choose fun _ => SOk.pure1
  simp only []
  split
  · exact SOk.pite (fun _ => SOk.pure1) fun _ => any
  · exact any
theorem SOk.convert {s t : TypeId} {x : Value} {a b : IntKind} (hs : P.underlying s = some (.int a)) (ht : P.underlying t = some (.int b)) : SOk S P Any (Go.convert s t x) := by
  unfold Go.convert
  refine SOk.bind SOk.underlying fun d hd => ?_
  rw [hs] at hd; cases hd
  refine SOk.bind SOk.underlying fun d hd => ?_
  rw [ht] at hd; cases hd
  cases x <;> first | exact SOk.pure1 | exact SOk.floatToInt | exact SOk.unsup (fun g h => by cases h) | skip
  case pointer a => cases a <;> exact SOk.unsup (fun g h => by cases h)
theorem guardIn_run {t : TypeId} {d : Nat} {a b : Value} (hp : plainType P t = true) : SOk S P Any (Op.eqGuardIn (d + 1) t a b) := by
  unfold Op.eqGuardIn
  refine SOk.bind SOk.underlying fun q hq => ?_
  unfold plainType at hp
  rw [hq] at hp
  cases q <;> first | exact SOk.pure1 | cases hp
theorem eqGuardType_ghost (P : Program) : ∀ d t, (ghostProg P).eqGuardType d t = P.eqGuardType d t
  | 0, _ => rfl
  | d + 1, t => by
    have h : (ghostProg P).eqGuardType d = P.eqGuardType d := funext (eqGuardType_ghost P d)
    simp only [Program.eqGuardType]
    rw [h]
    rfl
theorem SOk.eqGuard {op : BinOp} {t : TypeId} {x y : Operand} {a b : Value} (ht : (match op with | .eql | .neq => plainType P t | _ => true) = true) : SOk S P Any (Go.eqGuard op t x y a b) := by
  unfold Go.eqGuard
  have main : plainType P t = true → SOk S P Any (do
      match a, b with
      | .nilIface, .nilIface =>
        if (x matches .const _) || (y matches .const _) then return
        if ← Op.eqGuardIn Op.maxDepth t a b then unsupported (.noEntry "binop/eql: two nil values of an interface type with methods, neither of them the literal nil")
      | .agg _, .agg _ =>
        if !(← Go.program).eqGuardType (← Go.program).depth t then return
        if ← Op.eqGuardIn Op.maxDepth t a b then unsupported (.noEntry "binop/eql: two nil values of an interface type with methods, in a part of a struct or an array")
      | _, _ => Pure.pure () : Sem Unit) := fun hp => by
    split
    · refine SOk.pite (fun _ => SOk.pure1) fun _ => ?_
      refine SOk.bind1 (guardIn_run hp) fun z => SOk.pite (fun _ => SOk.unsup fun g h => by cases h) fun _ => SOk.pure1
    · refine SOk.program (f := fun p => Go.program >>= fun q => if (!p.eqGuardType q.depth t) = true then Pure.pure () else _) ?_ ?_
      · simp only [eqGuardType_ghost]
      · refine SOk.program ?_ ?_
        · rfl
        · refine SOk.pite (fun _ => SOk.pure1) fun _ => ?_
          refine SOk.bind1 (guardIn_run hp) fun z => SOk.pite (fun _ => SOk.unsup fun g h => by cases h) fun _ => SOk.pure1
    · exact SOk.pure1
  cases op <;> first | exact SOk.pure1 | exact main ht
theorem SOk.followBlind : ∀ (l : List FieldStep) (t : TypeId) (x : Option Value), SOk S P Any (Go.followBlind l t x)
  | [], _, _ => SOk.pure1
  | s :: rest, _, x => by
    unfold Go.followBlind
    refine SOk.bind SOk.underlying fun d _ => ?_
    cases d with
    | struct fields =>
      simp only []
      split
      · split
        · exact SOk.pure1
        · exact SOk.followBlind rest _ _
        · exact SOk.stuck
        · exact SOk.pure1
        · exact SOk.bind1 SOk.part fun _ => SOk.followBlind rest _ _
        · exact SOk.stuck
        · exact SOk.followBlind rest _ _
      · exact SOk.stuck
    | _ => exact SOk.stuck
theorem SOk.nilAhead : ∀ (fuel : Nat) (t : TypeId) (v : Value) (name : String), SOk S P Any (Go.nilAhead fuel t v name)
  | 0, _, _, _ => SOk.pure1
  | fuel + 1, t, v, name => by
    unfold Go.nilAhead
    refine SOk.bind1 (SOk.any SOk.typeInfo) fun ti => ?_
    split
    · refine SOk.bind1 (SOk.followBlind _ _ _) fun r => ?_
      cases r with
      | error r => exact SOk.pure1
      | ok q =>
        simp only []
        split
        · exact SOk.nilAhead fuel _ _ _
        · exact SOk.pure1
        · exact SOk.stuck
        · exact SOk.pure1
        · exact SOk.pure1
        · refine SOk.bind1 (SOk.any SOk.underlying) fun d => ?_
          split <;> exact SOk.pure1
    · exact SOk.stuck
theorem SOk.placeGet {t : TypeId} {x : Place} : SOk S P Any (x.get t) := by
  cases x with
  | val v => exact SOk.pure1
  | var a => exact SOk.loadVar
theorem SOk.follow : ∀ (l : List FieldStep) (t : TypeId) (x : Place), SOk S P Any (Go.follow l t x)
  | [], _, _ => SOk.pure1
  | s :: rest, t, x => by
    unfold Go.follow
    refine SOk.bind SOk.underlying fun d _ => ?_
    cases d with
    | struct fields =>
      simp only []
      split
      · refine SOk.pite (fun _ => ?_) fun _ => ?_
        · exact SOk.bind1 SOk.placeGet fun _ => SOk.bind1 SOk.asAddr fun _ => SOk.bind1 SOk.fieldPlace fun _ => SOk.follow rest _ _
        · split
          · exact SOk.bind1 SOk.fieldPlace fun _ => SOk.follow rest _ _
          · exact SOk.bind1 SOk.part fun _ => SOk.follow rest _ _
          · exact SOk.stuck
      · exact SOk.stuck
    | _ => exact SOk.stuck
theorem SOk.wrapNil {ts : Array TypeId} {t : TypeId} {args : Array Value} : SOk S P Any (Builtin.ssaWrapNilChk_ ts t args) := by
  unfold Builtin.ssaWrapNilChk_
  generalize ts[0]? = o
  rcases args with ⟨l⟩
  rcases l with _ | ⟨a, _ | ⟨b, _ | ⟨c, _ | ⟨d, l⟩⟩⟩⟩
  · cases o <;> exact SOk.stuck
  · cases o <;> exact SOk.stuck
  · cases o <;> exact SOk.stuck
  · cases b with
    | string b =>
      cases c with
      | string c =>
        cases a with
        | pointer p =>
          cases p with
          | some p => cases o <;> exact SOk.pure1
          | none =>
            cases o with
            | none => exact SOk.bind1 SOk.choose fun _ => SOk.pite (fun _ => SOk.bind1 SOk.runtimePanic fun _ => SOk.stuck) fun _ => SOk.stuck
            | some o =>
              refine SOk.bind1 SOk.choose fun _ => ?_
              refine SOk.pite (fun _ => SOk.bind1 SOk.runtimePanic fun _ => ?_) fun _ => ?_
              all_goals (repeat' (first | exact SOk.pure1 | exact SOk.stuck | exact SOk.unsup (fun g h => by cases h) | exact SOk.runtimePanic | refine SOk.bind1 (SOk.any SOk.typeInfo) fun _ => ?_ | refine SOk.bind1 (SOk.any SOk.underlying) fun _ => ?_ | refine SOk.bind1 SOk.choose fun _ => ?_ | refine SOk.bind1 SOk.runtimePanic fun _ => ?_ | refine SOk.pite (fun _ => ?_) fun _ => ?_ | split))
              all_goals (dsimp only; split <;> first | exact SOk.runtimePanic | exact SOk.unsup (fun g h => by cases h))
        | _ => cases o <;> exact SOk.stuck
      | _ => cases o <;> exact SOk.stuck
    | _ => cases o <;> exact SOk.stuck
  · cases o <;> exact SOk.stuck
theorem SOk.receiverAt {t : TypeId} {x : Place} {b : Bool} {w : Option String} : SOk S P Any (Go.receiverAt t x b w) := by
  unfold Go.receiverAt
  refine SOk.bind1 (SOk.any SOk.underlying) fun d => ?_
  split
  · exact SOk.placeGet
  · refine SOk.bind1 SOk.placeGet fun p => ?_
    cases w with
    | some n => exact SOk.bind1 SOk.wrapNil fun _ => SOk.bind1 SOk.asAddr fun _ => SOk.loadVar
    | none => exact SOk.bind1 SOk.pure1 fun _ => SOk.bind1 SOk.asAddr fun _ => SOk.loadVar
  · exact SOk.pure1
  · exact SOk.stuck
  · exact SOk.placeGet
theorem SOk.receiverVia {t : TypeId} {v : Value} {path : Array FieldStep} {b : Bool} : SOk S P Any (Go.receiverVia t v path b) := by
  unfold Go.receiverVia
  exact SOk.bind1 (SOk.follow _ _ _) fun q => SOk.receiverAt
theorem SOk.method : ∀ (fuel : Nat) (t : TypeId) (v : Value) (name : String), SOk S P Any (Go.method fuel t v name)
  | 0, _, _, _ => SOk.unsup (fun g h => by cases h)
  | fuel + 1, t, v, name => by
    unfold Go.method
    refine SOk.bind1 (SOk.any SOk.typeInfo) fun ti => ?_
    split
    · refine SOk.bind1 (SOk.follow _ _ _) fun r => ?_
      simp only []
      split
      · refine SOk.bind1 SOk.placeGet fun q => ?_
        split
        · exact SOk.method fuel _ _ _
        · exact SOk.runtimePanic
        · exact SOk.stuck
      · exact SOk.bind1 SOk.receiverAt fun _ => SOk.pure1
    · exact SOk.stuck
/-- what the machine is asked to do next, where nothing strange comes of it -/
def NextOK (P : Program) : Next → Prop
  | .value _ | .skip => True
  | .enter f _ => fnOK P f ∨ f = Bad.f
  | .round _ f _ a b => codeFine P a = true ∧ codeFine P b = true ∧ fnOK P f
  | _ => False
omit [BadIn P] in
theorem ghost_func {f : FuncId} (hf : f ≠ Bad.f) : (ghostProg P).funcs[f]? = (P.funcs[f]?).map fun g => if funcFine P g then g else gone := by
  show ((P.funcs.map _).setIfInBounds _ _)[f]? = _
  rw [Array.getElem?_setIfInBounds_ne (Ne.symm hf), Array.getElem?_map]
theorem ghost_bad : (ghostProg P).funcs[Bad.f]? = some Bad.seq := by
  obtain ⟨fn, h, -, -⟩ := BadIn.isHere (P := P)
  show ((P.funcs.map _).setIfInBounds _ _)[_]? = _
  rw [Array.getElem?_setIfInBounds_self_of_lt]
  rw [Array.size_map]
  exact (Array.getElem?_eq_some_iff.1 h).1
theorem fn_ghost {f : FuncId} {fn : Func} (h1 : P.funcs[f]? = some fn) (h2 : funcFine P fn = true) (h3 : f = Bad.f → fn = Bad.seq) : (ghostProg P).funcs[f]? = some fn := by
  by_cases hf : f = Bad.f
  · rw [h3 hf, hf]; exact ghost_bad
  · rw [ghost_func hf, h1]; simp [h2]
theorem gone_next : Extern.findNext gone = none := by
  have h : Extern.allNextRows.lookup "gone" = none := by kernel_rfl
  have h2 : Extern.allNextRows.lookup "" = none := by kernel_rfl
  simp only [Extern.findNext, gone, h, h2]; rfl
theorem gone_find : Extern.find gone = none := by
  have h : Extern.allGenericRows.lookup "gone" = none := by kernel_rfl
  have h2 : Extern.allGenericRows.lookup "" = none := by kernel_rfl
  have h3 : Extern.allTypedRows.lookup "gone" = none := by kernel_rfl
  have h4 : Extern.allTypedRows.lookup "" = none := by kernel_rfl
  have h5 : Extern.allRows.lookup "gone" = none := by kernel_rfl
  have h6 : Extern.allRows.lookup "" = none := by kernel_rfl
  simp only [Extern.find, gone, h, h2, h3, h4, h5, h6]; rfl
theorem SOk.callFunc {f : FuncId} {args : Array Value} : SOk S P (NextOK P) (Go.callFunc f args) := by
  unfold Go.callFunc
  refine SimS.program (k := fun p => (Sem.pure p).bind _) (k' := fun p => (Sem.pure p).bind _) ?_
  simp only [Sem.bind]
  by_cases hfb : f = Bad.f
  · subst hfb
    obtain ⟨fn, h1, h2, h3⟩ := BadIn.isHere (P := P)
    rw [ghost_bad, h1]
    simp only [h2, h3, Bad.named, Bad.bodied, Bool.false_eq_true, if_false]
    exact SOk.pure (A := NextOK P) (.inr rfl)
  rw [ghost_func hfb]
  cases hf : P.funcs[f]? with
  | none => exact SOk.stuck
  | some fn =>
    by_cases hb : funcFine P fn = true
    · simp only [Option.map, hb, if_true]
      have hf2 := hb
      unfold funcFine at hf2
      simp only [Bool.and_eq_true, bne_iff_ne, ne_eq] at hf2
      obtain ⟨h1, h2⟩ := hf2
      refine SOk.pite (fun h => absurd (eq_of_beq h) h2) fun _ => ?_
      cases hbd : fn.body with
      | none => rw [hbd] at h1; cases h1
      | some c => exact SOk.pure (A := NextOK P) (.inl ⟨fn, hf, hb, fun h => absurd h hfb, fun i => Asks.fns f i hfb⟩)
    · simp only [Option.map, hb, Bool.false_eq_true, if_false]
      refine SimS.deadL fun v => ⟨.unsupported (.extern "gone"), v, ?_, by simp [badHalt], by simp⟩
      have e1 : (gone.name == "runtime.NumGoroutine") = false := by decide
      have e2 : gone.body.isNone = true := rfl
      have e3 : ((gone.name.endsWith ".init" && !gone.name.startsWith "(") && !gone.name.startsWith "gosem.") = false := by decide +kernel
      simp only [e1, e2, Bool.false_eq_true, if_false, if_true, gone_next, gone_find, e3]
      rfl
end
end Go.Sf

/-! Lifting library, part 10 -/
namespace Go.Sf
open Go Go.Conc
section
variable [Bad] [Asks] {S : Nat → Nat} {P : Program} [BadIn P] {α β γ : Type} {A : α → Prop} {B : β → Prop}
theorem SOk.getLoop {l : Nat} : SOk S P (fun r => loopFine P r ∧ S l = 0) (Instr.getLoop l) := by
  unfold Instr.getLoop
  refine SOk.getObj (fun o h1 h2 => ?_) fun b o' ho => ?_
  · cases o <;> first | exact SOk.stuck | skip
    exact SOk.pure ⟨h2, h1⟩
  · cases o' <;> first | exact SOk.stuck | cases ho | skip
    exact SimS.haltL rfl (by simp [badHalt]) (by simp)
theorem SOk.yield {l : Nat} {args : Array Value} : SOk S P (NextOK P) (Instr.yield l args) := by
  unfold Instr.yield
  refine SOk.bind SOk.getLoop fun r hr => ?_
  obtain ⟨⟨h1, h2, _, h4⟩, _⟩ := hr
  exact SOk.pite (fun _ => SOk.bind1 SOk.stuck fun _ => SOk.pure ⟨h1, h2, h4⟩) fun _ => SOk.pure ⟨h1, h2, h4⟩
theorem SOk.callMethod {v : Value} {name : String} {args : Array Value} : SOk S P (NextOK P) (Go.callMethod v name args) := by
  unfold Go.callMethod
  cases v with
  | iface t v =>
    refine SOk.program ?_ ?_
    · rfl
    · exact SOk.bind1 (SOk.method _ _ _ _) fun q => SOk.callFunc
  | nilIface => exact SOk.runtimePanic
  | _ => exact SOk.stuck
theorem SOk.invokeFn {fn : Fn} {cap args : Array Value} : SOk S P (NextOK P) (Go.invoke (.fn fn cap) args) := by
  unfold Go.invoke
  cases fn with
  | func f => exact SOk.callFunc
  | method name =>
    simp only []
    split
    · exact SOk.callMethod
    · exact SOk.stuck
  | methodOf t name =>
    simp only []
    split
    · exact SOk.bind1 (SOk.any SOk.underlying) fun d => SOk.callMethod
    · exact SOk.stuck
  | via t path f p =>
    simp only []
    split
    · exact SOk.bind1 SOk.receiverVia fun _ => SOk.callFunc
    · exact SOk.stuck
  | yield l => exact SOk.yield
theorem SOk.callValue {f : Value} {args : Array Value} : SOk S P (NextOK P) (do let d ← Deferred.ofValue f args; invoke d.target d.args) := by
  unfold Deferred.ofValue
  cases f with
  | func fn first cap => exact SOk.invokeFn
  | nilFunc => exact (SOk.runtimePanic : SOk S P (NextOK P) (Go.runtimePanic (.nilDeref) : Sem Next))
  | _ => exact SOk.stuck
theorem SOk.nilCheck {x : Value} {y : String} : SOk S P (NextOK P) (match x with
    | .pointer none | .nilIface | .nilFunc => Go.runtimePanic .nilDeref
    | .func (.method name) first captured =>
      match (first[0]? : Option Value) with
      | some .nilIface => Go.runtimePanic .nilDeref
      | some (.iface t w) => do
        if (← Go.nilAhead ((← Go.program).types.size + Made.depth) t w name) != some false then
          unsupported (.noEntry y)
        Pure.pure (.value (.func (.method name) first captured))
      | _ => Pure.pure (.value (.func (.method name) first captured))
    | x => Pure.pure (.value x) : Sem Next) := by
  split
  · exact SOk.runtimePanic
  · exact SOk.runtimePanic
  · exact SOk.runtimePanic
  · split
    · exact SOk.runtimePanic
    · refine SOk.program ?_ ?_
      · rfl
      · refine SOk.bind1 (SOk.nilAhead _ _ _ _) fun q => ?_
        exact SOk.pite (fun _ => SOk.bind1 (SOk.unsup fun g h => by cases h) fun _ => SOk.pure trivial) fun _ => SOk.pure trivial
    · exact SOk.pure trivial
  · exact SOk.pure trivial
theorem mapFine_of {t : TypeId} (ho : (match P.underlying t with | some (.map k _) => (match P.underlying k with | some (.int _) => true | _ => false) | _ => false) = true) : mapFine P t := by
  unfold mapFine
  generalize P.underlying t = a at ho
  cases a with
  | none => cases ho
  | some a =>
    cases a with
    | map k e =>
      simp only [] at ho
      cases hk : P.underlying k with
      | none => rw [hk] at ho; cases ho
      | some q =>
        rw [hk] at ho
        cases q with
        | int i => exact ⟨k, e, i, rfl, hk⟩
        | _ => cases ho
    | _ => cases ho
/-- an operation that is fine runs alike in both worlds -/
theorem SOk.execOp {ρ : Operand → Value} {o : Oper} (ho : opFine P o.op = true) : SOk S P (NextOK P) (Go.execOp ρ o) := by
  have v : ∀ {s : Sem Value}, SOk S P Any s → SOk S P (NextOK P) (do Pure.pure (.value (← s)) : Sem Next) := fun h => SOk.bind1 h fun _ => SOk.pure trivial
  have u : ∀ {s : Sem Unit}, SOk S P Any s → SOk S P (NextOK P) (do s; Pure.pure .skip : Sem Next) := fun h => SOk.bind1 h fun _ => SOk.pure trivial
  unfold Go.execOp
  generalize o.op = op at ho
  cases op with
  | move x => exact SOk.pure trivial
  | assign x => exact SOk.pure trivial
  | pick c a b => exact SOk.bind1 SOk.asBool fun _ => SOk.pure trivial
  | alloc e => exact v SOk.alloc
  | box e x => exact v SOk.box
  | build t ps => exact v SOk.build
  | buildSlice t n ps => exact v SOk.buildSlice
  | load t a => exact v SOk.loadAt
  | store t a x => exact u SOk.storeAt
  | nilCheck x => exact SOk.nilCheck
  | binOp op t x y z => exact v (SOk.bind1 (SOk.eqGuard ho) fun _ => SOk.binOp ho)
  | unOp op t x => cases op <;> first | exact v SOk.unNot | cases ho
  | convert s t x =>
    unfold opFine at ho
    simp only [] at ho
    split at ho
    · next h1 h2 => exact v (SOk.convert h1 h2)
    · cases ho
  | makeFunc fn a b => exact v SOk.pure1
  | makeMap t r => cases r with
    | none => exact v SOk.makeMap
    | some r => cases ho
  | makeSlice t a b => exact v SOk.makeSlice
  | slice t x a b c =>
    unfold opFine at ho
    refine v (SOk.slice (fun n e h => ?_) fun e h => ?_)
    · simp only [h] at ho; cases ho
    · simp only [h] at ho; cases ho
  | fieldAddr s x f => exact v SOk.fieldAt
  | field s x f => exact v SOk.field
  | indexAddr s x f => exact v SOk.indexAt
  | index s x f => exact v SOk.index
  | lookup t x i ok =>
    exact v (SOk.lookup (mapFine_of ho))
  | mapUpdate t x i z =>
    exact u (SOk.mapUpdate (mapFine_of ho))
  | range t x => exact v SOk.range
  | next x b => cases b with
    | false => exact v SOk.next
    | true => cases ho
  | entry x => exact v SOk.entry
  | extract t i => exact v SOk.extract
  | call c =>
    obtain ⟨callee, args, ts⟩ := c
    cases callee with
    | value f => exact SOk.callValue
    | builtin b => cases b <;> first | exact v SOk.append | exact v SOk.len | cases ho
    | invoke r n => cases ho
  | _ => cases ho
end
end Go.Sf
