/- Code of one goroutine that sends to a channel with room and takes from it: a walk beside Code.wp, for frames that are not run early. -/
import Derived.Test.YtdnnojghjnjnfaaGreatDoorGA
import Derived.Conc.LoneCalls
import Derived.Test.YtdnnojghjnjnfaaGreatDoorGW
import Derived.Test.YtdnnojghjnjnfaaGreatDoorGF
/-! Code of one goroutine that sends to a channel with room and takes from it: a walk beside Code.wp, for frames that are not run early. -/
namespace Go.Sf
open Go Go.RowKit Go.Conc
/-- as Code.wp, in frames that are not run ahead of all others -/
def wpN (P : Program) (c : Code) (Q : Exit → Act → World → Prop) (a : Act) (w : World) : Prop :=
  ∀ (b : Frame) (k : List Item) (cs : List Frame), b.kind ≠ .early → ∃ e a' w', Q e a' w' ∧ Arrives P (lone (b.at a (.code c :: k)) cs w) b k cs e a' w'
def wpR (P : Program) (ops : Array Oper) (Q : Exit → Act → World → Prop) (l : List Nat) (a : Act) (w : World) : Prop :=
  ∀ (b : Frame) (k : List Item) (cs : List Frame), b.kind ≠ .early → ∃ e a' w', Q e a' w' ∧ Arrives P (lone (b.at a (.inRegion ops l :: k)) cs w) b k cs e a' w'
section
variable {P : Program} {Q : Exit → Act → World → Prop} {a : Act} {w : World}
theorem wpN_of {c : Code} (h : c.wp P Q a w) : wpN P c Q a w := fun b k cs _ => h b k cs
theorem wpN_seq {x y : Code} (h : wpN P x (Exit.then (wpN P y Q) Q) a w) : wpN P (.seq x y) Q a w := by
  intro b k cs hb
  obtain ⟨e, a₁, w₁, hq, harr⟩ := h b (.code y :: k) cs hb
  cases e with
  | normal =>
    obtain ⟨e₂, a₂, w₂, hq₂, harr₂⟩ := hq b k cs hb
    exact ⟨e₂, a₂, w₂, hq₂, .of_steps (.head step_seq harr) harr₂⟩
  | exit id => exact ⟨_, a₁, w₁, hq, .of_steps (.one step_seq) (.pass (x := .code y) rfl (fun _ _ => .inl (by simp)) harr)⟩
  | goto l => exact ⟨_, a₁, w₁, hq, .of_steps (.one step_seq) (.pass (x := .code y) rfl (fun _ _ => .inl (by simp)) harr)⟩
  | ret => exact ⟨_, a₁, w₁, hq, .of_steps (.one step_seq) (.pass (x := .code y) rfl (fun _ _ => .inl (by simp)) harr)⟩
  | panic ch => exact ⟨_, a₁, w₁, hq, .of_steps (.one step_seq) (.pass (x := .code y) rfl (fun _ _ => .inl (by simp)) harr)⟩
  | outgrown => exact ⟨_, a₁, w₁, hq, .of_steps (.one step_seq) (.pass (x := .code y) rfl (fun _ _ => .inl (by simp)) harr)⟩
/-- a piece that the kit walks, and what stands behind it -/
theorem wpN_step {x y : Code} (h : x.wp P (Exit.then (wpN P y Q) Q) a w) : wpN P (.seq x y) Q a w := wpN_seq (wpN_of h)
theorem wpN_block {id : Nat} {c : Code} (h : wpN P c (Exit.inBlock id Q) a w) : wpN P (.block id c) Q a w := by
  intro b k cs hb
  obtain ⟨e, a₁, w₁, hq, harr⟩ := h b (.inBlock id :: k) cs hb
  cases e with
  | normal => exact ⟨.normal, a₁, w₁, hq, .head step_block (Steps.trans harr (.one step_inBlock))⟩
  | exit id' =>
    by_cases hid : id' = id
    · simp only [Exit.inBlock, hid, if_true] at hq
      exact ⟨.normal, a₁, w₁, hq, .head step_block (harr k (by simp [exitTo, hid]))⟩
    · simp only [Exit.inBlock, hid, if_false] at hq
      refine ⟨.exit id', a₁, w₁, hq, fun k' hk => .head step_block (harr k' ?_)⟩
      have : (id == id') = false := by simp; exact fun h => hid h.symm
      simp [exitTo, this, hk]
  | goto l => exact ⟨_, a₁, w₁, hq, fun k' hk => .head step_block (harr k' (by simp [gotoIn, hk]))⟩
  | ret => exact ⟨_, a₁, w₁, hq, .of_steps (.one step_block) harr⟩
  | panic ch => exact ⟨_, a₁, w₁, hq, .of_steps (.one step_block) harr⟩
  | outgrown => exact ⟨_, a₁, w₁, hq, .of_steps (b := b) (k := k) (cs := cs) (e := .outgrown) (.one step_block) harr⟩
theorem wpN_loop {c : Code} (I : Act → World → Prop) (μ : Act → World → Nat) (h₀ : I a w)
    (round : ∀ a w, I a w → wpN P c (Exit.then (fun a' w' => I a' w' ∧ μ a' w' < μ a w) Q) a w) : wpN P (.loop c) Q a w := by
  intro b k cs hb
  have key : ∀ n a w, μ a w = n → I a w →
      ∃ e a' w', Q e a' w' ∧ Arrives P (lone (b.at a (.code c :: .inLoop c :: k)) cs w) b k cs e a' w' := by
    intro n
    induction n using Nat.strongRecOn with
    | _ n ih =>
      intro a w hn hI
      obtain ⟨e, a₁, w₁, hq, harr⟩ := round a w hI b (.inLoop c :: k) cs hb
      cases e with
      | normal =>
        obtain ⟨hI₁, hlt⟩ := hq
        obtain ⟨e₂, a₂, w₂, hq₂, harr₂⟩ := ih (μ a₁ w₁) (hn ▸ hlt) a₁ w₁ rfl hI₁
        exact ⟨e₂, a₂, w₂, hq₂, .of_steps (Steps.trans harr (.one step_inLoop)) harr₂⟩
      | exit id => exact ⟨_, a₁, w₁, hq, .pass (x := .inLoop c) rfl (fun _ _ => .inl (by simp)) harr⟩
      | goto l => exact ⟨_, a₁, w₁, hq, .pass (x := .inLoop c) rfl (fun _ _ => .inl (by simp)) harr⟩
      | ret => exact ⟨_, a₁, w₁, hq, .pass (x := .inLoop c) rfl (fun _ _ => .inl (by simp)) harr⟩
      | panic ch => exact ⟨_, a₁, w₁, hq, .pass (x := .inLoop c) rfl (fun _ _ => .inl (by simp)) harr⟩
      | outgrown => exact ⟨_, a₁, w₁, hq, .pass (x := .inLoop c) rfl (fun _ _ => .inl (by simp)) harr⟩
  obtain ⟨e, a', w', hq, harr⟩ := key _ a w rfl h₀
  exact ⟨e, a', w', hq, .of_steps (.one step_loop) harr⟩
theorem calls_of_wpN {f : FuncId} {fn : Func} {c : Code} {args : Array Value} {R : Ending → World → Prop} (hf : P.funcs[f]? = some fn) (hb : fn.body = some c)
    (h : wpN P c (bodyPost P fn R) { tmps := args ++ Array.replicate (fn.ntmps - args.size) undef, defers := [] } w) : Calls P f args w R := by
  intro cs
  let b : Frame := { (default : Frame) with fn := f, kind := .normal }
  have henter : Frame.enter P f args .normal = b.at { tmps := args ++ Array.replicate (fn.ntmps - args.size) undef, defers := [] } [.code c] := by
    simp [Frame.enter, Frame.at, hf, hb, b]
  obtain ⟨e, a', w', hq, harr⟩ := h b [] cs (by simp [b])
  rw [← henter] at harr
  cases e with
  | normal =>
    obtain ⟨hd, v, hr, hR⟩ := hq
    exact ⟨.returned v, w', _, hR, Steps.trans harr (.one step_end), rfl, rfl, hd, rfl, fn, hf, hr⟩
  | ret =>
    obtain ⟨hd, v, hr, hR⟩ := hq
    obtain ⟨todo, hs⟩ := harr
    exact ⟨.returned v, w', _, hR, hs, rfl, rfl, hd, rfl, fn, hf, hr⟩
  | panic chain =>
    obtain ⟨hd, hR⟩ := hq
    obtain ⟨todo, hs⟩ := harr
    exact ⟨.panicked chain, w', _, hR, hs, rfl, rfl, hd, fn, hf⟩
  | exit id => exact hq.elim
  | goto l => exact hq.elim
  | outgrown => exact ⟨.outgrown, w', b, hq, harr.resolve_left (by simp [b]), rfl, trivial⟩
/-! ### operations one by one -/
variable {ops : Array Oper}
theorem wpN_region {id : Nat} (h : wpR P ops Q (List.range ops.size) a w) : wpN P (.region id ops false) Q a w :=
  fun b k cs hb => let ⟨e, a', w', q, r⟩ := h b k cs hb; ⟨e, a', w', q, .of_steps (.one step_region) r⟩
theorem wpR_nil (h : Q .normal a w) : wpR P ops Q [] a w := fun _ _ _ _ => ⟨.normal, a, w, h, .one step_region_end⟩
theorem fin_at {i : Nat} {o : Oper} {b : Frame} {k : List Item} {rest : List Nat} (ho : ops[i]? = some o) (v : Value) : (b.at a (.inRegion ops (i :: rest) :: k)).finish v = b.at (a.put o.dst v) (.inRegion ops rest :: k) := by
  rw [Frame.finish_at, ho]; rfl
theorem wpR_value {i : Nat} {rest : List Nat} {o : Oper} {v : Value} {w' : World} (ho : ops[i]? = some o) (hw : Region.wanted o (yielded ops a.tmps) = true) (hr : (execOp a.eval o).run P w = .ok (.value v) w')
    (h : wpR P ops Q rest (a.put o.dst v) w') : wpR P ops Q (i :: rest) a w := by
  intro b k cs hb
  obtain ⟨e, a', w'', hq, harr⟩ := h b k cs hb
  refine ⟨e, a', w'', hq, .of_steps (.one (step_lone_go ?_)) harr⟩
  rw [stepG_op (P := P) (b := b) (k := k) (cs := cs) (w := w) (rest := rest) ho hw, ← fin_at ho]
  simp [stepG.apply, hr]
/-- a send into a buffer with room -/
theorem wpR_send {i : Nat} {rest : List Nat} {o : Oper} {v z' : Value} {c cap s r : Nat} {buf : Array Value} {tm : Bool} {w₁ : World} (ho : ops[i]? = some o) (hw : Region.wanted o (yielded ops a.tmps) = true)
    (hr : (execOp a.eval o).run P w = .ok (.comm #[scase c v z'] true .send) w₁) (hc : w₁.heap[c]? = some (.chan cap buf false s r tm)) (hroom : buf.size < cap)
    (h : wpR P ops Q rest (a.put o.dst undef) (w₁.setChan c cap (buf.push v) false (s + 1) r tm)) : wpR P ops Q (i :: rest) a w := by
  intro b k cs hb
  obtain ⟨e, a', w'', hq, harr⟩ := h b k cs hb
  refine ⟨e, a', w'', hq, .of_steps (.one ?_) harr⟩
  have := step_lone_send_room (P := P) (stepG_comm (main := true) (k := k) (cs := cs) (rest := rest) ho hw hb hr) hc hroom
  rw [fin_at ho] at this
  exact this
/-- a value is taken -/
theorem wpR_recv {i : Nat} {rest : List Nat} {o : Oper} {z : Value} {c cap s r : Nat} {buf : Array Value} {closed tm : Bool} {w₁ : World} (ho : ops[i]? = some o) (hw : Region.wanted o (yielded ops a.tmps) = true)
    (hr : (execOp a.eval o).run P w = .ok (.comm #[rcase c z] true (.recv true)) w₁) (hc : w₁.heap[c]? = some (.chan cap buf closed s r tm)) (hsome : 0 < buf.size)
    (h : wpR P ops Q rest (a.put o.dst (.tuple #[buf.getD 0 undef, .bool true])) (w₁.setChan c cap (buf.extract 1 buf.size) closed s (r + 1) tm)) : wpR P ops Q (i :: rest) a w := by
  intro b k cs hb
  obtain ⟨e, a', w'', hq, harr⟩ := h b k cs hb
  refine ⟨e, a', w'', hq, .of_steps (.one ?_) harr⟩
  have := step_lone_recv_buf (P := P) true (stepG_comm (main := true) (k := k) (cs := cs) (rest := rest) ho hw hb hr) hc hsome
  rw [fin_at ho] at this
  exact this
/-- nothing is left, and the channel is closed -/
theorem wpR_shut {i : Nat} {rest : List Nat} {o : Oper} {z : Value} {c cap s r : Nat} {tm : Bool} {w₁ : World} (ho : ops[i]? = some o) (hw : Region.wanted o (yielded ops a.tmps) = true)
    (hr : (execOp a.eval o).run P w = .ok (.comm #[rcase c z] true (.recv true)) w₁) (hc : w₁.heap[c]? = some (.chan cap #[] true s r tm))
    (h : wpR P ops Q rest (a.put o.dst (.tuple #[z, .bool false])) w₁) : wpR P ops Q (i :: rest) a w := by
  intro b k cs hb
  obtain ⟨e, a', w'', hq, harr⟩ := h b k cs hb
  refine ⟨e, a', w'', hq, .of_steps (.one ?_) harr⟩
  have := step_lone_recv_shut (P := P) true (stepG_comm (main := true) (k := k) (cs := cs) (rest := rest) ho hw hb hr) hc
  rw [fin_at ho] at this
  exact this
end
end Go.Sf

/-! Loops in the walk beside Code.wp: the slots that a round may write are named, all others stay. -/
namespace Go.Sf
open Go
/-- how much lies in a channel -/
def chanLeft (c : Nat) (w : World) : Nat := match w.heap[c]? with
  | some (.chan _ buf _ _ _ _) => buf.size
  | _ => 0
/-- a loop: what may be other is told off the slots' list -/
theorem wpN_loopL {P : Program} {c : Code} {Q : Exit → Act → World → Prop} {l : List Value} {df : List Deferred} {w : World} (J : List Value → Act → World → Prop) (μ : Act → World → Nat) (h0 : J l ⟨l.toArray, df⟩ w)
    (round : ∀ a1 w1, J l a1 w1 → wpN P c (Exit.then (fun a' w' => J l a' w' ∧ μ a' w' < μ a1 w1) Q) a1 w1) : wpN P (.loop c) Q ⟨l.toArray, df⟩ w := wpN_loop (J l) μ h0 round
end Go.Sf

/-! The program's StreamOf: a channel in one goroutine. -/
namespace Go.Sf
open Go Go.RowKit Go.Proofs
open Go.Conc (heap_setChan size_setChan)
theorem chan_keeps {w : World} {c cap s r : Nat} {buf buf' : Array Value} {cl cl' tm tm' : Bool} {s' r' cap' : Nat} (h : w.heap[c]? = some (.chan cap buf cl s r tm)) : ∀ ty : TypeId, KeepsT ty w (w.setChan c cap' buf' cl' s' r' tm') := fun _ g t cs _ hb => by
  unfold Blk at hb ⊢
  have hne : c ≠ g := fun e => by rw [e, hb] at h; cases h
  show (w.heap.setIfInBounds c _)[g]? = _
  rw [Array.getElem?_setIfInBounds_ne hne]; exact hb
theorem item_noids {x : It} (h : itemOk x = true) (hd : x.dir = true) : x.ids = [] := by
  unfold itemOk idsOk at h
  simp only [Bool.and_eq_true, List.all_eq_true] at h
  cases hi : x.ids with
  | nil => rfl
  | cons i r =>
    have := h.1 i (by rw [hi]; simp)
    rw [hd] at this
    simp at this
/-- parts of the call's own, to be marked -/
def OutPts (B : Nat) (o : Option (List Pt)) (r : Value) (w : World) : Prop := ∃ v lu, r = .tuple #[v, .bool o.isSome] ∧ lu.map Prod.fst = o.getD [] ∧ PtsU B w v lu ∧ Sep lu
theorem OutPts.none_ {B : Nat} {w : World} {o : Option (List Pt)} (h : o = none) : OutPts B o (.tuple #[.slice none 0 0, .bool false]) w := by
  subst h; exact ⟨_, [], rfl, rfl, SlOf.nil _ _ _ _ _, List.Pairwise.nil⟩
/-- what was sent: the first k changes -/
def SentAt (w5 : World) (L : List Ch) (k : Nat) (vals : Array Value) : Prop :=
  vals.size = k ∧ ∀ (j : Nat) (x : Ch), j < k → L[j]? = some x → ∃ A c, vals[j]? = some (chgV x.kind x.item (.slice A x.item.ids.length c)) ∧ x.item.path.size < lim ∧ Ints 0 w5 (.slice A x.item.ids.length c) x.item.ids
set_option maxRecDepth 8000 in
set_option maxHeartbeats 4000000 in
theorem StreamOf_c {B B' B2 : Nat} {vs vt vn : Value} {s : List Hd} {t : List It} {l : List Sn} (f g : ByteArray) (w : World) (hs : Hds B w vs s) (ht : Its B' w vt t) (hn : Sns B2 w vn l) (hm : ML w) :
    Calls Tryz.prog 32 #[.agg #[vs, vt, vn], .string f, .string g] w (RetP (OutPts w.heap.size (streamOf s t l f g)) w) := by
  have HS := Lib.hid hs; have HT := Lib.hid ht; have HN := Lib.hid hn; have HM := Lib.hid hm
  obtain ⟨A, c, rfl, -⟩ := hs
  obtain ⟨A2, c2, rfl, -⟩ := ht
  obtain ⟨A3, c3, rfl, -⟩ := hn
  have e0 : Ext w (w.alloc (.cells #[.slice A s.length c, .slice A2 t.length c2, .slice A3 l.length c3] 40)) := (Ext.refl w).alloc _
  have Cn := newDisk_c _ (HS.out.ext e0) (HT.out.ext e0) (HN.out.ext e0) (HM.out.ext e0)
  clear hm
  refine calls_of_wpN Tryz.func32 rfl ?_
  simp only [Tryz.ntmps32, List.size_toArray, List.length_cons, List.length_nil, Nat.reduceAdd, Nat.reduceSub, Array.replicate_succ, Array.replicate_zero, List.push_toArray, List.append_toArray, List.nil_append, List.cons_append]
  refine wpN_step ?_
  go_wp2
  refine wpN_step ?_
  go_wp2_with fail
  refine Cn.mono ?_
  rintro e w1 ⟨he1, ⟨hv, rfl⟩ | ⟨hv, g0, rfl, hD⟩⟩
  · have Hr : Hid (streamOf s t l f g = none) := Lib.hid (by unfold streamOf; rw [hv]; rfl)
    clear hv Cn
    go_wp2
    refine wpN_step ?_
    go_wp2
    go_ret2
    exact ⟨_, rfl, OutPts.none_ Hr.out, e0.trans he1⟩
  · have E1 := e0.trans he1
    have h6 : l.length ≤ 6 := (disk_parts hv).2.2.2.1
    have C1 := fun W (e : Ext w1 W) => treeOf_c f W (hD.ext e) h6
    have C2 := fun W (e : Ext w1 W) => treeOf_c g W (hD.ext e) h6
    have HD := Lib.hid hD
    have HV := Lib.hid hv
    clear Cn hD
    go_wp2
    refine wpN_step ?_
    go_wp2
    refine wpN_step ?_
    go_wp2_with (go_at_call 76; refine (C1 _ (Ext.refl _)).mono ?_; rintro e w2 ⟨r2, rfl, ⟨v2, rfl, hI2⟩, he2⟩)
    have HI2 := Lib.hid hI2
    cases hf : treeNm l f with
    | none =>
      have Hr : Hid (streamOf s t l f g = none) := Lib.hid (by unfold streamOf; rw [hv, hf]; rfl)
      clear hv hf HI2 hI2 C1 C2
      simp only [Option.isSome_none] at *
      refine wpN_step ?_
      go_wp2
      go_ret2
      exact ⟨_, rfl, OutPts.none_ Hr.out, E1.trans he2⟩
    | some a =>
    rw [hf] at HI2
    simp only [Option.isSome_some, Option.getD_some] at *
    clear hI2
    refine wpN_step ?_
    go_wp2
    refine wpN_step ?_
    go_wp2_with (go_at_call 76; refine (C2 _ he2).mono ?_; rintro e w3 ⟨r3, rfl, ⟨v3, rfl, hI3⟩, he3⟩)
    have HI3 := Lib.hid hI3
    cases hg : treeNm l g with
    | none =>
      have Hr : Hid (streamOf s t l f g = none) := Lib.hid (by unfold streamOf; rw [hv, hf, hg]; rfl)
      clear hv hf hg HI3 hI3 C1 C2
      simp only [Option.isSome_none] at *
      refine wpN_step ?_
      go_wp2
      go_ret2
      exact ⟨_, rfl, OutPts.none_ Hr.out, E1.trans (he2.trans he3)⟩
    | some b =>
    rw [hg] at HI3
    simp only [Option.isSome_some, Option.getD_some] at *
    clear hI3 C1 C2
    obtain ⟨ha1, ha2⟩ := treeNm_ok hv hf
    obtain ⟨hb1, hb2⟩ := treeNm_ok hv hg
    have hso := (disk_parts hv).1
    have hla := (treeOk_iff'.1 ha1).1
    have hlb := (treeOk_iff'.1 hb1).1
    have hcl := chg_len2 (a := a) (b := b)
    have Hr : Hid (streamOf s t l f g = some ((chg a b).map (partC s))) := Lib.hid (by unfold streamOf; rw [hv, hf, hg]; rfl)
    have HKind : Hid (∀ c, c ∈ chg a b → (c.kind = 1 ∨ c.kind = 2 ∨ c.kind = 3) ∧ IdsFit s c.item.ids ∧ (c.item.dir = true → c.item.ids = [])) := Lib.hid fun c hc =>
      ⟨(chg_from hc).1, (chg_from hc).2.elim (ha2 _) (hb2 _), (chg_from hc).2.elim (fun h => item_noids ((tree_set.1 ha1).2.2 _ h).1) (fun h => item_noids ((tree_set.1 hb1).2.2 _ h).1)⟩
    have HSo := Lib.hid hso
    have C5 := changesBetween_c w3 ((HI2.out.ext he3).keep (Nat.zero_le _) (fun _ _ _ => rfl)) (HI3.out.keep (Nat.zero_le _) (fun _ _ _ => rfl)) (by omega)
    clear hv hf hg ha1 ha2 hb1 hb2 hso
    generalize hL : chg a b = L at *
    clear hL
    refine wpN_step ?_
    go_wp2
    refine wpN_step ?_
    go_wp2_with (go_at_call 77; refine C5.mono ?_; rintro e w5 ⟨v5, rfl, hC5, he5⟩)
    obtain ⟨A5, c5, rfl⟩ := hC5.form
    have E3 := E1.trans (he2.trans he3)
    have E5 := E3.trans he5
    have HC5 := Lib.hid hC5
    have D5 := Lib.hid (HD.out.ext ((he2.trans he3).trans he5))
    clear C5 hC5 HI2 HI3
    generalize hn : L.length = n at *
    have Hn := Lib.hid hn
    clear hn
    have hinfo : ∃ i, Tryz.prog.info? 123 = some i ∧ i.bytes = 16 := by
      have h : (Tryz.prog.info? 123).map (·.bytes) = some 16 := by kernel_rfl
      obtain ⟨i, hi, hb⟩ := Option.map_eq_some_iff.1 h
      exact ⟨i, hi, hb⟩
    obtain ⟨ii, hii, hib⟩ := hinfo
    have hmc := Go.Conc.run_makeChan (P := Tryz.prog) (w := w5) Tryz.underlying121 hii .i64 n (by omega) (by rw [hib]; omega)
    refine wpN_step ?_
    go_wp2
    refine wpN_seq ?_
    refine wpN_step ?_
    go_wp2
    refine wpN_block ?_
    have H0 : Hid ((w5.alloc (.chan n #[] false 0 0 false)).heap[w5.heap.size]? = some (.chan n #[] false 0 0 false)) := Lib.hid (heap_alloc_new w5 _)
    (refine wpN_loopL (fun l a1 w1 => ∃ u15 u51 u52 u53 u54 u55 u56 u57 : Value, (fun _ i _ _ _ _ _ _ wr => ∃ (k : Nat) (vals : Array Value), k ≤ n ∧ i = .int .i64 k ∧ Ext w5 wr ∧ Hid (wr.heap[w5.heap.size]? = some (.chan n vals false k 0 false)) ∧ Hid (SentAt w5 L k vals)) u15 u51 u52 u53 u54 u55 u56 u57 w1 ∧ a1 = ⟨((((((((l.set 15 u15).set 51 u51).set 52 u52).set 53 u53).set 54 u54).set 55 u55).set 56 u56).set 57 u57).toArray, []⟩) (fun a1 w1 => (fun _ i _ _ _ _ _ _ _ => n - (RowKit.intOf i).toNat) (a1.tmps.getD 15 Go.undef) (a1.tmps.getD 51 Go.undef) (a1.tmps.getD 52 Go.undef) (a1.tmps.getD 53 Go.undef) (a1.tmps.getD 54 Go.undef) (a1.tmps.getD 55 Go.undef) (a1.tmps.getD 56 Go.undef) (a1.tmps.getD 57 Go.undef) w1) ?_ ?_ <;> simp only [List.set_cons_zero, List.set_cons_succ])
    · refine ⟨_, _, _, _, _, _, _, _, ⟨0, #[], by omega, rfl, (Ext.refl w5).alloc _, H0, Lib.hid ⟨rfl, fun j x hj => absurd hj (by omega)⟩⟩, rfl⟩
    · rintro _ wr ⟨u15, u51, u52, u53, u54, u55, u56, u57, ⟨k, vals, hk, rfl, he, hc, hS⟩, rfl⟩
      by_cases hlt : k < n
      · obtain ⟨x, hx⟩ := get_of_lt (l := L) (k := k) (by rw [Hn.out]; exact hlt)
        obtain ⟨g5, c5', cs, hv5, hg5, hbl, hcell⟩ := HC5.out.at_ (ECg_ok _) hx
        obtain ⟨hkd, hps, u, hcu, hu⟩ := hcell
        rw [Nat.mul_one] at hcu
        have HU := Lib.hid hu
        obtain ⟨Au, cu, rfl, -⟩ := hu
        injection hv5 with hv1 hvx hv2
        clear hvx
        subst hv1; subst hv2
        have y0 := hbl.at_ hcu wr he
        have hsz := hS.out.1
        refine wpN_step ?_
        go_wp2
        refine wpN_seq ?_
        refine wpN_of ?_
        go_wp2
        refine wpN_seq ?_
        refine wpN_block ?_
        refine wpN_step ?_
        go_wp2
        refine wpN_region ?_
        show wpR _ _ _ [0, 1, 2] _ _
        refine wpR_value rfl (by rfl) rfl ?_
        refine wpR_value rfl (by rfl) rfl ?_
        have hch := heap_setChan wr w5.heap.size n (vals.push (chgV x.kind x.item (.slice Au x.item.ids.length cu))) false (k + 1) 0 false (by have := he.size; have := heap_lt hc.out; omega)
        refine wpR_send (c := w5.heap.size) (v := chgV x.kind x.item (.slice Au x.item.ids.length cu)) (z' := .tuple #[]) rfl (by rfl) (by simp [execOp, Go.Conc.scase, Act.eval, Act.put]) hc.out (by omega) ?_
        refine wpR_nil ?_
        have heS : Ext w5 (wr.setChan w5.heap.size n (vals.push (chgV x.kind x.item (.slice Au x.item.ids.length cu))) false (k + 1) 0 false) := Go.Conc.below_setChan he (Nat.le_refl _) _ _ _ _ _ _
        have HcS := Lib.hid hch
        have HS2 : Hid (SentAt w5 L (k + 1) (vals.push (chgV x.kind x.item (.slice Au x.item.ids.length cu)))) := Lib.hid ⟨by rw [Array.size_push, hsz], fun j z hj hz => by
          by_cases hjk : j = k
          · subst hjk
            rw [hx] at hz
            injection hz with hz
            subst hz
            exact ⟨Au, cu, by rw [← hsz, Array.getElem?_push_size], hps, HU.out.keep (Nat.zero_le _) (fun _ _ _ => rfl)⟩
          · obtain ⟨A9, c9, q1, q2, q3⟩ := hS.out.2 j z (by omega) hz
            exact ⟨A9, c9, by rw [Array.getElem?_push_lt (by omega)]; rw [Array.getElem?_eq_getElem (by omega)] at q1; exact q1, q2, q3⟩⟩
        generalize wr.setChan w5.heap.size n (vals.push (chgV x.kind x.item (.slice Au x.item.ids.length cu))) false (k + 1) 0 false = wq at *
        dsimp only [Exit.inBlock, Exit.then]
        refine wpN_of ?_
        go_wp2
        refine ⟨?_, ?_⟩
        · exact ⟨k + 1, _, by omega, by go_num, heS, HcS, HS2⟩
        · simp [RowKit.intOf]; omega
      · have hks : k = n := by omega
        subst hks
        have HcN := hc; have HSN := hS
        clear hc hS H0
        refine wpN_step ?_
        go_wp2
        refine wpN_seq ?_
        refine wpN_of ?_
        go_wp2
        have hcl : ∀ ats ty, (Builtin.close_ ats ty #[.chan (some w5.heap.size)]).run Tryz.prog wr = .ok (.tuple #[]) (wr.setChan w5.heap.size k vals true k 0 false) := fun ats ty => run_close_open ats ty HcN.out
        have hclt := heap_lt HcN.out
        have hch2 := Lib.hid (heap_setChan wr w5.heap.size k vals true k 0 false hclt)
        have heC : Ext w5 (wr.setChan w5.heap.size k vals true k 0 false) := Go.Conc.below_setChan he (Nat.le_refl _) _ _ _ _ _ _
        refine wpN_step ?_
        go_wp2
        clear hcl
        generalize wr.setChan w5.heap.size k vals true k 0 false = wc at *
        refine wpN_step ?_
        go_wp2
        refine wpN_seq ?_
        refine wpN_step ?_
        go_wp2
        refine wpN_block ?_
        (refine wpN_loopL (fun l a1 w1 => ∃ u16 u17 u18 u19 u60 u61 u62 u63 u64 u65 u66 u67 u68 u69 u70 u71 u72 u73 u74 : Value, (fun v _ _ _ _ _ _ _ _ _ _ _ _ _ _ _ _ _ _ wr2 => ∃ (q : Nat) (buf : Array Value) (lu : List (Pt × Value)), q ≤ k ∧ Ext w5 wr2 ∧ Hid (wr2.heap[w5.heap.size]? = some (.chan k buf true k q false)) ∧ Hid (buf.size = k - q ∧ ∀ j, buf[j]? = vals[q + j]?) ∧ OwnS w5.heap.size 63 4 (EPtU w5.heap.size) wr2 v lu ∧ Hid (lu.map Prod.fst = (L.map (partC s)).take q) ∧ Hid (Sep lu ∧ Within w5 wr2 lu)) u16 u17 u18 u19 u60 u61 u62 u63 u64 u65 u66 u67 u68 u69 u70 u71 u72 u73 u74 w1 ∧ a1 = ⟨(((((((((((((((((((l.set 16 u16).set 17 u17).set 18 u18).set 19 u19).set 60 u60).set 61 u61).set 62 u62).set 63 u63).set 64 u64).set 65 u65).set 66 u66).set 67 u67).set 68 u68).set 69 u69).set 70 u70).set 71 u71).set 72 u72).set 73 u73).set 74 u74).toArray, []⟩) (fun a1 w1 => (fun _ _ _ _ _ _ _ _ _ _ _ _ _ _ _ _ _ _ _ wr2 => chanLeft w5.heap.size wr2) (a1.tmps.getD 16 Go.undef) (a1.tmps.getD 17 Go.undef) (a1.tmps.getD 18 Go.undef) (a1.tmps.getD 19 Go.undef) (a1.tmps.getD 60 Go.undef) (a1.tmps.getD 61 Go.undef) (a1.tmps.getD 62 Go.undef) (a1.tmps.getD 63 Go.undef) (a1.tmps.getD 64 Go.undef) (a1.tmps.getD 65 Go.undef) (a1.tmps.getD 66 Go.undef) (a1.tmps.getD 67 Go.undef) (a1.tmps.getD 68 Go.undef) (a1.tmps.getD 69 Go.undef) (a1.tmps.getD 70 Go.undef) (a1.tmps.getD 71 Go.undef) (a1.tmps.getD 72 Go.undef) (a1.tmps.getD 73 Go.undef) (a1.tmps.getD 74 Go.undef) w1) ?_ ?_ <;> simp only [List.set_cons_zero, List.set_cons_succ])
        · refine ⟨_, _, _, _, _, _, _, _, _, _, _, _, _, _, _, _, _, _, _, ⟨0, vals, [], by omega, heC, hch2, Lib.hid ⟨by rw [HSN.out.1]; rfl, fun j => by rw [Nat.zero_add]⟩, OwnS.nil _ _ _ _ _, Lib.hid rfl, Lib.hid ⟨List.Pairwise.nil, fun q hq => by simp at hq⟩⟩, rfl⟩
        · rintro _ wr2 ⟨u16, u17, u18, u19, u60, u61, u62, u63, u64, u65, u66, u67, u68, u69, u70, u71, u72, u73, u74, ⟨q, buf, lu, hq, he2', hc2, hbf, hO, hlm, hSW⟩, rfl⟩
          refine wpN_seq ?_
          refine wpN_region ?_
          show wpR _ _ _ [0, 1] _ _
          by_cases hlt2 : q < k
          · obtain ⟨x, hx⟩ := get_of_lt (l := L) (k := q) (by rw [Hn.out]; exact hlt2)
            obtain ⟨Av, cv, hv9, hps, hu⟩ := HSN.out.2 q x hlt2 hx
            have hb0 : buf[0]? = some (chgV x.kind x.item (.slice Av x.item.ids.length cv)) := by rw [hbf.out.2 0, Nat.add_zero]; exact hv9
            have hbs : 0 < buf.size := by rw [hbf.out.1]; omega
            have hgd : buf.getD 0 undef = chgV x.kind x.item (.slice Av x.item.ids.length cv) := by
              rw [Array.getD_eq_getD_getElem?, hb0]; rfl
            have hzz : ∀ W, (zeroValue 123).run Tryz.prog W = .ok .nilIface W := fun W => by kernel_rfl
            refine wpR_recv (c := w5.heap.size) (z := .nilIface) rfl (by rfl) (by simp [go_sem, Go.Conc.rcase, hzz]) hc2.out hbs ?_
            rw [hgd]
            have hcl2 := heap_lt hc2.out
            have hch3 := Lib.hid (heap_setChan wr2 w5.heap.size k (buf.extract 1 buf.size) true k (q + 1) false hcl2)
            have heR : Ext w5 (wr2.setChan w5.heap.size k (buf.extract 1 buf.size) true k (q + 1) false) := Go.Conc.below_setChan he2' (Nat.le_refl _) _ _ _ _ _ _
            have hbf2 : Hid ((buf.extract 1 buf.size).size = k - (q + 1) ∧ ∀ j, (buf.extract 1 buf.size)[j]? = vals[q + 1 + j]?) := Lib.hid ⟨by rw [Array.size_extract, hbf.out.1]; omega, fun j => by
              rw [show q + 1 + j = q + (1 + j) by omega, ← hbf.out.2 (1 + j), Array.getElem?_extract]
              split
              · rfl
              · rw [Array.getElem?_eq_none (by omega)]⟩
            have hlf : chanLeft w5.heap.size wr2 = k - q := by unfold chanLeft; rw [hc2.out]; exact hbf.out.1
            have hszq : (wr2.setChan w5.heap.size k (buf.extract 1 buf.size) true k (q + 1) false).heap.size = wr2.heap.size := size_setChan ..
            have hKC : ∀ ty : TypeId, KeepsT ty wr2 (wr2.setChan w5.heap.size k (buf.extract 1 buf.size) true k (q + 1) false) := chan_keeps hc2.out
            generalize wr2.setChan w5.heap.size k (buf.extract 1 buf.size) true k (q + 1) false = wq at *
            refine wpR_value rfl (by rfl) rfl ?_
            refine wpR_nil ?_
            dsimp only [Exit.then]
            refine wpN_seq ?_
            refine wpN_of ?_
            go_wp2
            refine wpN_block ?_
            refine wpN_of ?_
            obtain ⟨hkd, hfit, hdir⟩ := HKind.out x (List.mem_of_getElem? hx)
            have Cp := partOf_c x.kind x.item Av cv wq hkd (D5.out.ext heR) HSo.out (hu.ext heR) hfit hdir
            have Htk := Lib.hid (show (L.map (partC s)).take (q + 1) = (L.map (partC s)).take q ++ [partC s x] from take_succ_get (by rw [List.getElem?_map, hx]; rfl))
            obtain ⟨Ao, co, rfl⟩ := hO.form
            have hll : lu.length = q := by
              have := congrArg List.length hlm.out
              rw [List.length_map, List.length_take, List.length_map, Hn.out] at this
              omega
            rw [hll] at hO
            have HO := Lib.hid (hO.keepT (hKC 9) (by decide) (fun _ _ _ h => h.keepT (hKC 9) (by decide)))
            have Hps := Lib.hid (show inI (partC s x).kind ∧ (partC s x).path.size < lim from ⟨by show inI x.kind; unfold inI; rcases hkd with h | h | h <;> rw [h] <;> omega, hps⟩)
            have hbl : Hid ((partC s x).bytes.length ≤ lim) := Lib.hid (by
              unfold partC
              simp only
              split
              · simp
              · have h1 := loadOf_len HSo.out x.item.ids
                have h2 := hfit.1
                unfold lim; omega)
            have hszw : Hid (wr2.heap.size = wq.heap.size) := Lib.hid hszq.symm
            obtain ⟨xk, xit⟩ := x
            clear hszq
            clear hb0 hgd hv9 hx hkd hfit hdir hu hps hO hc2 hbs
            go_wp2_with (first | (go_at_call 78; refine Cp.mono ?_; rintro e w7 ⟨r7, rfl, ⟨u7, rfl, hO7⟩, he7⟩; obtain ⟨A7, c7, rfl⟩ := hO7.form; have heB := fun o => (heR.trans he7).alloc o; have HO8 := Lib.hid (fun o => HO.out.ext (EPtU_ok _) (he7.alloc o)); have hnw : Hid (∀ b, (Value.slice A7 (partC s ⟨xk, xit⟩).bytes.length c7).ownBlock = some b → wq.heap.size ≤ b ∧ b < w7.heap.size) := Lib.hid (fun b hb => by { obtain ⟨h1, cs1, h2⟩ := hO7.block hb; exact ⟨h1, h2.lt⟩ }); have HI7 := Lib.hid (fun o => Ints.ext (Ints.keep (hO7.sl eint_ok (Nat.le_refl _) hbl.out) heR.size (fun _ _ _ => rfl)) ((Ext.refl w7).alloc o)); clear hO7) | (at_builtin; go_must (refine wp_ap1G (B := w5.heap.size) (by rfl) _ _ (by rfl) el_Pt (EPtU_ok _) (heB _).size _ lu [(partC s ⟨xk, xit⟩, .slice A7 (partC s ⟨xk, xit⟩).bytes.length c7)] (by rfl) (HO8.out _) 1 1 rfl #[.int .i64 (partC s ⟨xk, xit⟩).kind, .string (partC s ⟨xk, xit⟩).path, .bool (partC s ⟨xk, xit⟩).dir, .slice A7 (partC s ⟨xk, xit⟩).bytes.length c7] _ (by rfl) (by first | rfl | simp) rfl (one4 rfl) (one_E ⟨rfl, Hps.out.1, rfl, Hps.out.2, rfl, rfl, HI7.out _⟩) ?_ ?_)))
            · rw [hll]; simp; unfold lim; omega
            · intro v9 w9 hO9 hgr hk9
              have he' : Ext w5 w9 := OwnS.grown_ext ((HO8.out _).ext (EPtU_ok _) ((Ext.refl _).alloc _)) ((heB _).alloc _) hgr
              have hclq := heap_lt hch3.out
              have e79 := fun o1 o2 => (he7.alloc o1).alloc o2
              have hne : ∀ b9, (Value.slice Ao q co).ownBlock = some b9 → w5.heap.size ≠ b9 := fun b9 hb9 e9 => by
                obtain ⟨-, cs9, hb⟩ := (HO8.out (.cells #[] 3)).block hb9
                unfold Blk at hb
                rw [← e9, (he7.alloc (.cells #[] 3)).block hclq, hch3.out] at hb
                cases hb
              have hc9 : Hid (w9.heap[w5.heap.size]? = some (.chan k (buf.extract 1 buf.size) true k (q + 1) false)) := Lib.hid (by
                rw [hgr.block _ (Nat.lt_of_lt_of_le hclq (e79 _ _).size) (fun e9 => hne _ e9.symm rfl), (e79 _ _).block hclq]
                exact hch3.out)
              have hsz9 := hgr.size
              have HSW9 : Hid (Sep (lu ++ [(partC s ⟨xk, xit⟩, Value.slice A7 (partC s ⟨xk, xit⟩).bytes.length c7)]) ∧ Within w5 w9 (lu ++ [(partC s ⟨xk, xit⟩, Value.slice A7 (partC s ⟨xk, xit⟩).bytes.length c7)])) := Lib.hid (by
                have hW1 : Within wq w7 [(partC s ⟨xk, xit⟩, Value.slice A7 (partC s ⟨xk, xit⟩).bytes.length c7)] := fun z hz b9 hb9 => by rw [List.mem_singleton] at hz; subst hz; exact hnw.out b9 hb9
                have hw9 : w7.heap.size ≤ w9.heap.size := by have := hsz9; simp at this; omega
                exact ⟨hSW.out.1.append (List.pairwise_singleton _ _) hSW.out.2 hW1 (Nat.le_of_eq hszw.out), (hSW.out.2.mono (Nat.le_refl _) (by have := he7.size; have := hszw.out; omega)).append (hW1.mono heR.size hw9)⟩)
              have HO9 := Lib.hid hO9
              clear hO9 hgr hk9 hne hsz9 e79
              go_wp2
              refine ⟨⟨q + 1, _, _, by omega, he', hc9, hbf2, HO9.out, Lib.hid (by rw [List.map_append, hlm.out, Htk.out]; rfl), HSW9⟩, ?_⟩
              rw [hlf]
              unfold chanLeft
              rw [hc9.out]
              show (buf.extract 1 buf.size).size < _
              rw [hbf2.out.1]
              omega
          · have hqk : q = k := by omega
            subst hqk
            have hb0 : buf = #[] := Array.eq_empty_of_size_eq_zero (by rw [hbf.out.1]; omega)
            subst hb0
            have hzz : ∀ W, (zeroValue 123).run Tryz.prog W = .ok .nilIface W := fun W => by kernel_rfl
            refine wpR_shut (c := w5.heap.size) (z := .nilIface) rfl (by rfl) (by simp [go_sem, Go.Conc.rcase, hzz]) hc2.out ?_
            refine wpR_value rfl (by rfl) rfl ?_
            refine wpR_nil ?_
            dsimp only [Exit.then]
            obtain ⟨Ao, co, rfl⟩ := hO.form
            have HO := Lib.hid hO
            have hll : lu.length = q := by
              have := congrArg List.length hlm.out
              rw [List.length_map, List.length_take, List.length_map, Hn.out] at this
              omega
            clear hO
            refine wpN_seq ?_
            refine wpN_of ?_
            go_wp2
            refine wpN_of ?_
            go_wp2
            go_ret2
            refine ⟨_, rfl, ?_, E5.trans he2'⟩
            rw [Hr.out]
            have HOs := HO.out.sl (EPtU_ok _) (Nat.le_refl _) (by rw [hll]; unfold lim; omega)
            first
              | exact ⟨_, lu, rfl, by rw [hlm.out, List.take_of_length_le (by rw [List.length_map, Hn.out]; exact Nat.le_refl _)]; rfl, PtsU.keep HOs E5.size (fun _ _ _ => rfl), hSW.out.1⟩
              | exact ⟨_, lu, rfl, by rw [hlm.out, List.take_of_length_le (by rw [List.length_map, Hn.out]; exact Nat.le_refl _)]; rfl, by rw [hll] at HOs; exact PtsU.keep HOs E5.size (fun _ _ _ => rfl), hSW.out.1⟩
end Go.Sf
