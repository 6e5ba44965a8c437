/- The phase, part 24: what the ghost does in the place of badOf -/
import Derived.Test.YtphgnbjikgglmaaKF
import Derived.Test.YtphgnbjikgglmaaNC
set_option linter.all false
/-! The phase, part 24: what the ghost does in the place of badOf -/
namespace Go.Sf
open Go Go.Conc Go.Proofs
def op1 (dst : Option Tmp) (op : Op) : Oper := { dst, op, type := 0, pos := "", after := #[], guard := none }
def reg (ops : List Oper) : Code := .region 1 ops.toArray false
/-- probing: the two arguments are boxed, and it panics -/
def seqProbe : Code := .seq (reg [op1 (some 3) (.makeFunc (.func 0) #[] #[.tmp 0, .tmp 1]), op1 (some 5) (.box 1 (.tmp 3)), op1 none (.nilCheck (.const (.pointer none)))]) .ret
def seqRound : Code :=
  .seq (reg [op1 (some 16) (.indexAddr 24 (.tmp 1) (.tmp 12)), op1 (some 17) (.load 64 (.tmp 16)), op1 (some 18) (.field 64 (.tmp 17) 0), op1 (some 19) (.field 64 (.tmp 17) 1), op1 (some 20) (.lookup 56 (.tmp 0) (.tmp 18) true), op1 (some 21) (.extract (.tmp 20) 0), op1 (some 22) (.extract (.tmp 20) 1), op1 (some 23) (.field 35 (.tmp 21) 1),
      op1 (some 24) (.range 9 (.const (.string ⟨#[]⟩))), op1 (some 25) (.range 9 (.const (.string ⟨#[]⟩))), op1 (some 26) (.range 9 (.const (.string ⟨#[]⟩)))])
    (.seq (.cond (.tmp 22) (reg [op1 (some 27) (.call { callee := .value (.func 54), args := #[.tmp 23], argTypes := #[32] }), op1 (some 28) (.binOp .neq 3 (.tmp 27) (.tmp 19) 3)]) (reg [op1 (some 28) (.move (.const (.bool true)))]))
      (reg [op1 (some 29) (.indexAddr 60 (.tmp 8) (.tmp 12)), op1 none (.store 4 (.tmp 29) (.tmp 28)), op1 (some 30) (.binOp .add 3 (.tmp 12) (.const (.int .i64 1)) 3), op1 (some 12) (.move (.tmp 30))]))
def seqAlone : Code :=
  .seq (reg [op1 (some 6) (.range 9 (.const (.string ⟨#[]⟩))), op1 (some 7) (.call { callee := .builtin .len, args := #[.tmp 1], argTypes := #[24] }), op1 (some 8) (.makeSlice 60 (.tmp 7) (.tmp 7)), op1 (some 9) (.range 9 (.const (.string ⟨#[]⟩))), op1 (some 10) (.range 9 (.const (.string ⟨#[]⟩))), op1 (some 12) (.move (.const (.int .i64 0)))])
    (.seq (.block 0 (.loop (.seq (reg [op1 (some 13) (.binOp .lss 3 (.tmp 12) (.tmp 7) 3)]) (.seq (.cond (.tmp 13) .skip (.exit 0)) seqRound))))
      (.seq (reg [op1 (some 4) (.assign (.tmp 8))]) .ret))
def seqBad : Func :=
  { name := "seq", origin := "", params := #[56, 24], resultTypes := #[60], nfree := 0, ntmps := 31, results := #[.tmp 4], norace := false, tmpNames := #[],
    body := some (.seq (.region 0 #[op1 (some 2) (.move (.const (.bool true))), op1 (some 2) (.move (.const (.bool false)))] true) (.cond (.tmp 2) seqProbe seqAlone)) }
instance badI : Bad := ⟨32, seqBad, by decide, rfl⟩
theorem seqBad_fine : funcFine Try.prog seqBad = true := by kernel_rfl
instance badIn : BadIn Try.prog := ⟨⟨_, Try.func32, rfl, rfl⟩, seqBad_fine⟩
end Go.Sf

/-! The phase, part 25: the ghost's question, and its two ways -/
namespace Go.Sf
open Go Go.Conc Go.Proofs
/-- a body that begins with a region that asks: the answer of the tape tells the order -/
theorem calls_seq_draw {P : Program} {f : FuncId} {fn : Func} {c : Code} {args : Array Value} {w : World} {R : Ending → World → Prop} {id : Nat} {ops : Array Oper}
    (hf : P.funcs[f]? = some fn) (hb : fn.body = some (.seq (.region id ops true) c))
    (h : wpOps P ops (fun e a' w' => e = .normal ∧ c.wp P (bodyPost P fn R) a' w') (Region.schedule (P.follows .mixedOrders) ops (w.tape w.drawn (.order f id))) { tmps := args ++ Array.replicate (fn.ntmps - args.size) undef, defers := [] } { w with drawn := w.drawn + 1 }) :
    Calls P f args w R := by
  intro cs
  let b : Frame := { (default : Frame) with fn := f, kind := .normal }
  have henter : Frame.enter P f args .normal = b.at { tmps := args ++ Array.replicate (fn.ntmps - args.size) undef, defers := [] } [.code (.seq (.region id ops true) c)] := by
    simp [Frame.enter, Frame.at, hf, hb, b]
  obtain ⟨e1, a1, w1, ⟨rfl, hq1⟩, harr1⟩ := wp_ops _ _ _ h b [.code c] cs
  obtain ⟨e, a', w', hq, harr2⟩ := hq1 b [] cs
  have harr : Arrives P (lone (Frame.enter P f args .normal) cs w) b [] cs e a' w' := by
    rw [henter]
    refine .of_steps (.head step_seq (.head step_region_draw harr1)) harr2
  cases e with
  | normal =>
    obtain ⟨hd, v, hr, hR⟩ := hq
    exact ⟨.returned v, w', _, hR, Steps.trans harr (.one step_end), rfl, rfl, hd, rfl, fn, hf, hr⟩
  | ret =>
    obtain ⟨hd, v, hr, hR⟩ := hq
    obtain ⟨todo, hs⟩ := harr
    exact ⟨.returned v, w', _, hR, hs, rfl, rfl, hd, rfl, fn, hf, hr⟩
  | panic chain =>
    obtain ⟨hd, hR⟩ := hq
    obtain ⟨todo, hs⟩ := harr
    exact ⟨.panicked chain, w', _, hR, hs, rfl, rfl, hd, fn, hf⟩
  | exit id => exact hq.elim
  | goto l => exact hq.elim
  | outgrown => exact ⟨.outgrown, w', b, hq, harr.resolve_left (by simp [b]), rfl, trivial⟩
/-- the slots of a frame: at least 31 -/
theorem slots31 (args : Array Value) : ∃ t0 t1 t2 t3 t4 t5 t6 t7 t8 t9 t10 t11 t12 t13 t14 t15 t16 t17 t18 t19 t20 t21 t22 t23 t24 t25 t26 t27 t28 t29 t30 : Value, ∃ rest : List Value,
    args ++ Array.replicate (31 - args.size) undef = (t0 :: t1 :: t2 :: t3 :: t4 :: t5 :: t6 :: t7 :: t8 :: t9 :: t10 :: t11 :: t12 :: t13 :: t14 :: t15 :: t16 :: t17 :: t18 :: t19 :: t20 :: t21 :: t22 :: t23 :: t24 :: t25 :: t26 :: t27 :: t28 :: t29 :: t30 :: rest).toArray := by
  have key : ∀ l : List Value, 31 ≤ l.length → ∃ t0 t1 t2 t3 t4 t5 t6 t7 t8 t9 t10 t11 t12 t13 t14 t15 t16 t17 t18 t19 t20 t21 t22 t23 t24 t25 t26 t27 t28 t29 t30 : Value, ∃ rest : List Value,
      l = t0 :: t1 :: t2 :: t3 :: t4 :: t5 :: t6 :: t7 :: t8 :: t9 :: t10 :: t11 :: t12 :: t13 :: t14 :: t15 :: t16 :: t17 :: t18 :: t19 :: t20 :: t21 :: t22 :: t23 :: t24 :: t25 :: t26 :: t27 :: t28 :: t29 :: t30 :: rest := by
    intro l h
    have one : ∀ (n : Nat) (l : List Value), n + 1 ≤ l.length → ∃ x r, l = x :: r ∧ n ≤ r.length := fun n l h => by
      cases l with
      | nil => simp at h
      | cons x r => exact ⟨x, r, rfl, by simpa using h⟩
    obtain ⟨t0, r0, rfl, h0⟩ := one 30 l h
    obtain ⟨t1, r1, rfl, h1⟩ := one 29 r0 h0
    obtain ⟨t2, r2, rfl, h2⟩ := one 28 r1 h1
    obtain ⟨t3, r3, rfl, h3⟩ := one 27 r2 h2
    obtain ⟨t4, r4, rfl, h4⟩ := one 26 r3 h3
    obtain ⟨t5, r5, rfl, h5⟩ := one 25 r4 h4
    obtain ⟨t6, r6, rfl, h6⟩ := one 24 r5 h5
    obtain ⟨t7, r7, rfl, h7⟩ := one 23 r6 h6
    obtain ⟨t8, r8, rfl, h8⟩ := one 22 r7 h7
    obtain ⟨t9, r9, rfl, h9⟩ := one 21 r8 h8
    obtain ⟨t10, r10, rfl, h10⟩ := one 20 r9 h9
    obtain ⟨t11, r11, rfl, h11⟩ := one 19 r10 h10
    obtain ⟨t12, r12, rfl, h12⟩ := one 18 r11 h11
    obtain ⟨t13, r13, rfl, h13⟩ := one 17 r12 h12
    obtain ⟨t14, r14, rfl, h14⟩ := one 16 r13 h13
    obtain ⟨t15, r15, rfl, h15⟩ := one 15 r14 h14
    obtain ⟨t16, r16, rfl, h16⟩ := one 14 r15 h15
    obtain ⟨t17, r17, rfl, h17⟩ := one 13 r16 h16
    obtain ⟨t18, r18, rfl, h18⟩ := one 12 r17 h17
    obtain ⟨t19, r19, rfl, h19⟩ := one 11 r18 h18
    obtain ⟨t20, r20, rfl, h20⟩ := one 10 r19 h19
    obtain ⟨t21, r21, rfl, h21⟩ := one 9 r20 h20
    obtain ⟨t22, r22, rfl, h22⟩ := one 8 r21 h21
    obtain ⟨t23, r23, rfl, h23⟩ := one 7 r22 h22
    obtain ⟨t24, r24, rfl, h24⟩ := one 6 r23 h23
    obtain ⟨t25, r25, rfl, h25⟩ := one 5 r24 h24
    obtain ⟨t26, r26, rfl, h26⟩ := one 4 r25 h25
    obtain ⟨t27, r27, rfl, h27⟩ := one 3 r26 h26
    obtain ⟨t28, r28, rfl, h28⟩ := one 2 r27 h27
    obtain ⟨t29, r29, rfl, h29⟩ := one 1 r28 h28
    obtain ⟨t30, r30, rfl, h30⟩ := one 0 r29 h29
    exact ⟨t0, t1, t2, t3, t4, t5, t6, t7, t8, t9, t10, t11, t12, t13, t14, t15, t16, t17, t18, t19, t20, t21, t22, t23, t24, t25, t26, t27, t28, t29, t30, r30, rfl⟩
  obtain ⟨t0, t1, t2, t3, t4, t5, t6, t7, t8, t9, t10, t11, t12, t13, t14, t15, t16, t17, t18, t19, t20, t21, t22, t23, t24, t25, t26, t27, t28, t29, t30, rest, h⟩ := key (args ++ Array.replicate (31 - args.size) undef).toList (by simp; omega)
  exact ⟨t0, t1, t2, t3, t4, t5, t6, t7, t8, t9, t10, t11, t12, t13, t14, t15, t16, t17, t18, t19, t20, t21, t22, t23, t24, t25, t26, t27, t28, t29, t30, rest, by rw [← h]⟩
noncomputable abbrev GP : Program := ghostProg Try.prog
theorem gp32 : GP.funcs[32]? = some seqBad := by
  letI := allAsks
  exact ghost_bad (P := Try.prog)
theorem gp_follows : GP.follows .mixedOrders = true := by kernel_rfl
theorem argAt_bad (args : Array Value) (i : Nat) : argAt GP 32 args i = (args ++ Array.replicate (31 - args.size) undef).getD i undef := by
  simp [argAt, Frame.enter, gp32, seqBad]
set_option maxRecDepth 100000 in
set_option maxHeartbeats 4000000 in
theorem probe_c (args : Array Value) (v : World) : ∃ τ, Calls GP 32 args (v.re τ 0) fun e v' => (∃ ch, e = .panicked ch) ∧ v'.heap = v.heap.push (logOf 1 (argAt GP 32 args 0) (argAt GP 32 args 1)) := by
  refine ⟨fun _ _ => 1, ?_⟩
  refine calls_seq_draw gp32 rfl ?_
  rw [argAt_bad, argAt_bad]
  show wpOps GP _ _ (Region.schedule (GP.follows .mixedOrders) _ 1) { tmps := args ++ Array.replicate (31 - args.size) undef, defers := [] } _
  obtain ⟨t0, t1, t2, t3, t4, t5, t6, t7, t8, t9, t10, t11, t12, t13, t14, t15, t16, t17, t18, t19, t20, t21, t22, t23, t24, t25, t26, t27, t28, t29, t30, rest, h⟩ := slots31 args
  rw [h, gp_follows]
  have hsch : Region.schedule true #[op1 (some 2) (.move (.const (.bool true))), op1 (some 2) (.move (.const (.bool false)))] 1 = [1, 0] := by kernel_rfl
  rw [hsch]
  clear hsch h
  simp [wpOps, go_sem, op1]
  refine .inl (.inl ?_)
  refine wp_cond_true rfl ?_
  unfold seqProbe reg
  refine wp_seq (wp_region ?_)
  simp [wpOps, go_sem, op1, Instr.makeFunc]
  refine .inl (.inl (.inl ⟨rfl, ⟨_, rfl⟩, ?_⟩))
  rfl
end Go.Sf

/-! The phase, part 26: the functions of the ghost's program -/
namespace Go.Sf
open Go Go.Conc Go.Proofs
theorem func_ghost {f : FuncId} {fn : Func} (h1 : Try.prog.funcs[f]? = some fn) (h2 : funcFine Try.prog fn = true) (h3 : f ≠ 32) : GP.funcs[f]? = some fn := by
  letI := allAsks
  exact fn_ghost h1 h2 fun e => absurd e h3
theorem call_ghost {f : FuncId} {fn : Func} (h1 : Try.prog.funcs[f]? = some fn) (h2 : funcFine Try.prog fn = true) (h3 : f ≠ 32) (args : Array Value) (w : World) : Sem.run GP (callFunc f args) w = .ok (.enter f args) w := by
  have h := func_ghost h1 h2 h3
  unfold funcFine at h2
  simp only [Bool.and_eq_true, bne_iff_ne, ne_eq] at h2
  have hb : ¬ fn.body = none := by
    intro e
    rw [e] at h2
    simp at h2
  simp [callFunc, h, h2.2, hb]
end Go.Sf

/-! The phase, part 27: what is known of badOf: Pre, RG -/
namespace Go.Sf
open Go Go.Conc Go.Proofs
/-- a row of cells, or a map -/
def Solid (v : World) (k : Nat) : Prop := (∃ cs e fr, v.heap[k]? = some (.cells cs e fr)) ∨ ∃ es c, v.heap[k]? = some (.map es c)
theorem cell_same {v w : World} {b o : Nat} (h : w.heap[b]? = v.heap[b]?) : w.cell? ⟨b, o, none⟩ = v.cell? ⟨b, o, none⟩ := by
  unfold World.cell?
  rw [h]
theorem cell_solid {v : World} {b o : Nat} {x : Value} (h : v.cell? ⟨b, o, none⟩ = some x) : Solid v b := by
  unfold World.cell? at h
  cases hb : v.heap[b]? with
  | none => simp [hb] at h
  | some ob =>
    cases ob with
    | cells cs e fr => exact .inl ⟨cs, e, fr, hb⟩
    | _ => simp [hb] at h
structure RdChk (x : Value) (v : World) (b : Nat) (d : ChkD) : Prop where
  look : ∀ w₁ : World, b ≤ w₁.heap.size → (∀ k, k < b → Solid v k → w₁.heap[k]? = v.heap[k]?) → (Instr.lookup 56 x (.int .i64 d.id) true).run Try.prog w₁ = .ok (.tuple #[.agg #[.int .i64 d.u, .slice d.base d.l.length d.cap, .int .i64 d.q], .bool d.fnd]) w₁ ∧
    ∀ e ∈ (Instr.lookup 56 x (.int .i64 d.id) true).events Try.prog w₁ #[], ∃ r sy, e = ⟨.obj r, false, sy⟩ ∧ r < b ∧ Solid v r
  lookG : ∀ w₁ : World, b ≤ w₁.heap.size → (∀ k, k < b → Solid v k → w₁.heap[k]? = v.heap[k]?) → (Instr.lookup 56 x (.int .i64 d.id) true).run GP w₁ = .ok (.tuple #[.agg #[.int .i64 d.u, .slice d.base d.l.length d.cap, .int .i64 d.q], .bool d.fnd]) w₁
  ints : ∀ k (h : k < d.l.length), ∃ b' off, d.base = some ⟨b', off, none⟩ ∧ b' < b ∧ v.cell? ⟨b', off + k, none⟩ = some (.int .i64 d.l[k])
/-- what badOf reads of its arguments, in blocks below b -/
structure ReadP (x y : Value) (b : Nat) (v : World) (m : Option Nat) (base : Option Addr) (n cap : Nat) (D : Nat → ChkD) : Prop where
  hx : x = .map m
  hy : y = .slice base n cap
  hn : n ≤ 16
  chk : ∀ j, j < n → (∃ b' off, base = some ⟨b', off, none⟩ ∧ b' < b ∧ v.cell? ⟨b', off + j * 2, none⟩ = some (.int .i64 (D j).id) ∧ v.cell? ⟨b', off + j * 2 + 1, none⟩ = some (.int .i64 (D j).sum)) ∧ RdChk x v b (D j)
def PreB (x y : Value) (b : Nat) (v : World) : Prop := ∃ m base n cap D, ReadP x y b v m base n cap D
/-- the row that comes back, and what the ghost's world is then -/
def RGB (x y : Value) (v : World) (u : Value) (v2 : World) : Prop := ∃ m base n cap D, ReadP x y v.heap.size v m base n cap D ∧ u = .slice (some ⟨v.heap.size + 1, 0, none⟩) n n ∧ v2.os = v.os ∧ v2.output = v.output ∧
  v2.heap.size = v.heap.size + 4 + 3 * n ∧ (∀ b, b < v.heap.size → v2.heap[b]? = v.heap[b]?) ∧ (∃ arr : Array Value, v2.heap[v.heap.size + 1]? = some (.cells arr 4) ∧ arr.size = n ∧ ∀ i, i < n → arr[i]? = some (bad1 (D i).sum (D i).l (D i).fnd)) ∧
  ∀ b, v.heap.size ≤ b → b < v2.heap.size → b ≠ v.heap.size + 1 → v2.heap[b]? = some dud
theorem readP_stays {x y : Value} {b : Nat} {v w : World} {m : Option Nat} {base : Option Addr} {n cap : Nat} {D : Nat → ChkD} (h : ReadP x y b v m base n cap D) (hb : b ≤ w.heap.size) (hk : ∀ k, k < b → Solid v k → w.heap[k]? = v.heap[k]?) : ReadP x y b w m base n cap D := by
  have hs : ∀ k, k < b → Solid v k → Solid w k := fun k h1 h2 => by
    unfold Solid at *
    rw [hk k h1 h2]
    exact h2
  have hc : ∀ b' o (z : Value), b' < b → v.cell? ⟨b', o, none⟩ = some z → w.cell? ⟨b', o, none⟩ = some z := fun b' o z h1 h2 => (cell_same (hk b' h1 (cell_solid h2))).trans h2
  refine ⟨h.hx, h.hy, h.hn, fun j hj => ?_⟩
  obtain ⟨⟨b', off, e1, e2, e3, e4⟩, h2⟩ := h.chk j hj
  refine ⟨⟨b', off, e1, e2, hc _ _ _ e2 e3, hc _ _ _ e2 e4⟩, fun w₁ h3 h4 => ?_, fun w₁ h3 h4 => ?_, fun k hk' => ?_⟩
  · obtain ⟨h5, h6⟩ := h2.look w₁ h3 fun k hk1 hk2 => (h4 k hk1 (hs k hk1 hk2)).trans (hk k hk1 hk2)
    exact ⟨h5, fun e he => let ⟨r, sy, e5, e6, e7⟩ := h6 e he; ⟨r, sy, e5, e6, hs r e6 e7⟩⟩
  · exact h2.lookG w₁ h3 fun k hk1 hk2 => (h4 k hk1 (hs k hk1 hk2)).trans (hk k hk1 hk2)
  · obtain ⟨b', off, e1, e2, e3⟩ := h2.ints k hk'
    exact ⟨b', off, e1, e2, hc _ _ _ e2 e3⟩
theorem preB_stays (x y : Value) (b : Nat) (v w : World) (h : PreB x y b v) (hb : b ≤ w.heap.size) (hk : ∀ (k : Nat) (o : Obj), k < b → v.heap[k]? = some o → (∀ ds, o ≠ .deferred ds) → w.heap[k]? = some o) : PreB x y b w := by
  obtain ⟨m, base, n, cap, D, h⟩ := h
  refine ⟨m, base, n, cap, D, readP_stays h hb fun k h1 h2 => ?_⟩
  rcases h2 with ⟨cs, e, fr, h2⟩ | ⟨es, c, h2⟩
  · rw [h2]; exact hk k _ h1 h2 (by simp)
  · rw [h2]; exact hk k _ h1 h2 (by simp)
end Go.Sf

/-! The phase, part 28: badOf's phase, in the words of the lifting -/
namespace Go.Sf
open Go Go.Conc Go.Proofs
theorem slots24 (args : Array Value) : ∃ t0 t1 t2 t3 t4 t5 t6 t7 t8 t9 t10 t11 t12 t13 t14 t15 t16 t17 t18 t19 t20 t21 t22 t23 : Value, ∃ rest : List Value, args ++ Array.replicate (24 - args.size) undef = (t0 :: t1 :: t2 :: t3 :: t4 :: t5 :: t6 :: t7 :: t8 :: t9 :: t10 :: t11 :: t12 :: t13 :: t14 :: t15 :: t16 :: t17 :: t18 :: t19 :: t20 :: t21 :: t22 :: t23 :: rest).toArray := by
  have key : ∀ l : List Value, 24 ≤ l.length → ∃ t0 t1 t2 t3 t4 t5 t6 t7 t8 t9 t10 t11 t12 t13 t14 t15 t16 t17 t18 t19 t20 t21 t22 t23 : Value, ∃ rest : List Value, l = t0 :: t1 :: t2 :: t3 :: t4 :: t5 :: t6 :: t7 :: t8 :: t9 :: t10 :: t11 :: t12 :: t13 :: t14 :: t15 :: t16 :: t17 :: t18 :: t19 :: t20 :: t21 :: t22 :: t23 :: rest := by
    intro l h
    have one : ∀ (n : Nat) (l : List Value), n + 1 ≤ l.length → ∃ x r, l = x :: r ∧ n ≤ r.length := fun n l h => by
      cases l with
      | nil => simp at h
      | cons x r => exact ⟨x, r, rfl, by simpa using h⟩
    obtain ⟨t0, r0, rfl, h0⟩ := one 23 l h
    obtain ⟨t1, r1, rfl, h1⟩ := one 22 r0 h0
    obtain ⟨t2, r2, rfl, h2⟩ := one 21 r1 h1
    obtain ⟨t3, r3, rfl, h3⟩ := one 20 r2 h2
    obtain ⟨t4, r4, rfl, h4⟩ := one 19 r3 h3
    obtain ⟨t5, r5, rfl, h5⟩ := one 18 r4 h4
    obtain ⟨t6, r6, rfl, h6⟩ := one 17 r5 h5
    obtain ⟨t7, r7, rfl, h7⟩ := one 16 r6 h6
    obtain ⟨t8, r8, rfl, h8⟩ := one 15 r7 h7
    obtain ⟨t9, r9, rfl, h9⟩ := one 14 r8 h8
    obtain ⟨t10, r10, rfl, h10⟩ := one 13 r9 h9
    obtain ⟨t11, r11, rfl, h11⟩ := one 12 r10 h10
    obtain ⟨t12, r12, rfl, h12⟩ := one 11 r11 h11
    obtain ⟨t13, r13, rfl, h13⟩ := one 10 r12 h12
    obtain ⟨t14, r14, rfl, h14⟩ := one 9 r13 h13
    obtain ⟨t15, r15, rfl, h15⟩ := one 8 r14 h14
    obtain ⟨t16, r16, rfl, h16⟩ := one 7 r15 h15
    obtain ⟨t17, r17, rfl, h17⟩ := one 6 r16 h16
    obtain ⟨t18, r18, rfl, h18⟩ := one 5 r17 h17
    obtain ⟨t19, r19, rfl, h19⟩ := one 4 r18 h18
    obtain ⟨t20, r20, rfl, h20⟩ := one 3 r19 h19
    obtain ⟨t21, r21, rfl, h21⟩ := one 2 r20 h20
    obtain ⟨t22, r22, rfl, h22⟩ := one 1 r21 h21
    obtain ⟨t23, r23, rfl, h23⟩ := one 0 r22 h22
    exact ⟨t0, t1, t2, t3, t4, t5, t6, t7, t8, t9, t10, t11, t12, t13, t14, t15, t16, t17, t18, t19, t20, t21, t22, t23, r23, rfl⟩
  obtain ⟨t0, t1, t2, t3, t4, t5, t6, t7, t8, t9, t10, t11, t12, t13, t14, t15, t16, t17, t18, t19, t20, t21, t22, t23, rest, h⟩ := key (args ++ Array.replicate (24 - args.size) undef).toList (by simp; omega)
  exact ⟨t0, t1, t2, t3, t4, t5, t6, t7, t8, t9, t10, t11, t12, t13, t14, t15, t16, t17, t18, t19, t20, t21, t22, t23, rest, by rw [← h]⟩
theorem getD_pad (args : Array Value) (k i : Nat) : (args ++ Array.replicate k undef).getD i undef = args.getD i undef := by
  simp only [Array.getD_eq_getD_getElem?]
  rcases Nat.lt_or_ge i args.size with h | h
  · rw [Array.getElem?_append_left h]
  · rw [Array.getElem?_append_right h, Array.getElem?_eq_none h, Array.getElem?_replicate]
    split <;> rfl
theorem slots_of {args : Array Value} {x y : Value} (hx : argAt GP 32 args 0 = x) (hy : argAt GP 32 args 1 = y) : ∃ t2 t3 t4 t5 t6 t7 t8 t9 t10 t11 t12 t13 t14 t15 t16 t17 t18 t19 t20 t21 t22 t23 : Value, ∃ rest : List Value, args ++ Array.replicate (24 - args.size) undef = (x :: y :: t2 :: t3 :: t4 :: t5 :: t6 :: t7 :: t8 :: t9 :: t10 :: t11 :: t12 :: t13 :: t14 :: t15 :: t16 :: t17 :: t18 :: t19 :: t20 :: t21 :: t22 :: t23 :: rest).toArray := by
  obtain ⟨t0, t1, t2, t3, t4, t5, t6, t7, t8, t9, t10, t11, t12, t13, t14, t15, t16, t17, t18, t19, t20, t21, t22, t23, rest, h⟩ := slots24 args
  rw [argAt_bad, getD_pad, ← getD_pad args (24 - args.size), h] at hx hy
  simp at hx hy
  subst hx hy
  exact ⟨t2, t3, t4, t5, t6, t7, t8, t9, t10, t11, t12, t13, t14, t15, t16, t17, t18, t19, t20, t21, t22, t23, rest, h⟩
theorem same_of [Odds] {S : Nat → Nat} {v w : World} (hW : @WSim _ trueAsks Try.prog S v w) {k : Nat} (hk : k < v.heap.size) (hs : Solid v k) : w.heap[k]? = v.heap[k]? ∧ S k = 0 := by
  letI := trueAsks
  obtain ⟨ov, ow, h1, h2, h3⟩ := hW.obj k hk
  generalize hSk : S k = sk at h3
  cases h3 with
  | alive _ => exact ⟨h2.trans h1.symm, rfl⟩
  | cells => rcases hs with ⟨cs, e, fr, h⟩ | ⟨es, c, h⟩ <;> (rw [h1] at h; cases h)
  | odd _ => rcases hs with ⟨cs, e, fr, h⟩ | ⟨es, c, h⟩ <;> (rw [h1] at h; cases h)
theorem oW_one {S : Nat → Nat} {w : World} {b : Nat} (h1 : b < w.heap.size) (h2 : S b = 0) : oW S w b ≠ 0 := by
  unfold oW
  rw [if_pos ⟨h1, by omega⟩]
  decide
theorem phase_c [Odds] (Post : Value → World → Prop) (S : Nat → Nat) (v w : World) (args : Array Value) (c : Frame) (cs : List Frame) (u : Value) (v2 : World) (hW : @WSim _ trueAsks Try.prog S v w) (hR : RGB (argAt GP 32 args 0) (argAt GP 32 args 1) v u v2)
    (hc : ∀ S2 w2, @WSim _ trueAsks Try.prog S2 v2 w2 → w2.tape = w.tape → Wins Try.prog Post S2 (gor (c.finish u) cs) w2) : Wins Try.prog Post S (gor (Frame.enter Try.prog 32 args .normal) (c :: cs)) w := by
  letI := trueAsks
  obtain ⟨m, base, n, cap, D, hP, rfl, ho, hou, hsz, hlow, ⟨arr, ha1, ha2, ha3⟩, hdud⟩ := hR
  obtain ⟨t2, t3, t4, t5, t6, t7, t8, t9, t10, t11, t12, t13, t14, t15, t16, t17, t18, t19, t20, t21, t22, t23, rest, hargs⟩ := slots_of hP.hx hP.hy
  have hsize := hW.size
  have hSs : ∀ b, w.heap.size ≤ b → S b = 0 := fun b hb => hW.out b (by omega)
  have sv : ∀ k, k < v.heap.size → Solid v k → w.heap[k]? = v.heap[k]? ∧ oW S w k ≠ 0 := fun k h1 h2 => let ⟨h3, h4⟩ := same_of hW h1 h2; ⟨h3, oW_one (by omega) h4⟩
  refine badOf_wins (D := D) hargs hP.hn (fun b hb => by rw [hSs b hb]; decide) (fun j hj => ?_) fun S2 w2 hS2 hA => ?_
  · obtain ⟨⟨b', off, e1, e2, e3, e4⟩, hr⟩ := hP.chk j hj
    have s0 := sv b' e2 (cell_solid e3)
    refine ⟨⟨b', off, e1, s0.2, (cell_same s0.1).trans e3, (cell_same s0.1).trans e4⟩, fun w₁ h1 h2 => ?_, ⟨fun k hk => ?_⟩⟩
    · obtain ⟨h5, h6⟩ := hr.look w₁ (by omega) fun k hk1 hk2 => (h2 k (sv k hk1 hk2).2).trans (sv k hk1 hk2).1
      rw [hP.hx] at h5 h6
      exact ⟨h5, fun e he => let ⟨r, sy, e5, e6, e7⟩ := h6 e he; ⟨r, sy, e5, by omega, (sv r e6 e7).2⟩⟩
    · obtain ⟨b', off, e1, e2, e3⟩ := hr.ints k hk
      have s0 := sv b' e2 (cell_solid e3)
      exact ⟨b', off, e1, s0.2, (cell_same s0.1).trans e3⟩
  · have hsz2 := hA.size
    have hW2 : WSim Try.prog (fun b => if v.heap.size ≤ b ∧ b < v2.heap.size ∧ b ≠ v.heap.size + 1 then 1 else S b) v2 w2 := by
      refine ⟨by omega, fun b hb => ?_, fun b hb => ?_, ho.trans (hW.os.trans hA.os.symm), hou.trans (hW.output.trans hA.output.symm)⟩
      · rcases Nat.lt_or_ge b v.heap.size with h1 | h1
        · obtain ⟨ov, ow, e1, e2, e3⟩ := hW.obj b h1
          rw [if_neg (by omega)]
          exact ⟨ov, ow, (hlow b h1).trans e1, (hA.low b (by omega)).trans e2, e3⟩
        · by_cases e : b = v.heap.size + 1
          · subst e
            rw [if_neg (by omega), hSs _ (by omega)]
            obtain ⟨arr', b1, b2, b3⟩ := hA.row
            have : arr' = arr := by
              apply Array.ext_getElem?
              intro i
              rcases Nat.lt_or_ge i n with h | h
              · rw [b3 i h, ha3 i h]
              · rw [Array.getElem?_eq_none (by omega), Array.getElem?_eq_none (by omega)]
            subst this
            exact ⟨_, _, ha1, hsize ▸ b1, .alive trivial⟩
          · rw [if_pos ⟨h1, hb, e⟩]
            obtain ⟨cs', e', fr, h2⟩ := hA.rows b (by omega) (by omega)
            exact ⟨_, _, hdud b h1 hb e, h2, .cells⟩
      · show (if _ then 1 else S b) = 0
        rw [if_neg (by omega)]
        exact hSs b (by omega)
    refine Wins.shun (S' := fun b => if v.heap.size ≤ b ∧ b < v2.heap.size ∧ b ≠ v.heap.size + 1 then 1 else S b) (fun b hb => ?_) ?_
    · rw [hS2] at hb
      show (if _ then 1 else S b) = 1
      split at hb
      · rw [if_pos (by omega)]
      · split
        · rfl
        · exact hb
    · rw [← hsize]
      exact hc _ _ hW2 hA.tape
end Go.Sf
