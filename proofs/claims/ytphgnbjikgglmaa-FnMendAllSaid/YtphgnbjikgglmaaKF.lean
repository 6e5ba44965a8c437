/- The phase, part 18: the starter up to its loop -/
import Derived.Test.YtphgnbjikgglmaaKC
import Derived.Laws.MakeOwn
import Derived.Conc.AppendWalk
import Derived.OwnWalk
import Derived.Test.YtphgnbjikgglmaaKB
set_option linter.all false
/-! The phase, part 18: the starter up to its loop -/
namespace Go.Sf
open Go Go.Conc Go.Proofs
open Go.ConcN (ShN WgLive PayAt Has)
open Go.ConcR (KK WgAt stA smA rd wr mk Payload)
/-- the world has grown by these blocks -/
structure Grown (w0 : World) (os : List Obj) (w : World) : Prop where
  heap : w.heap = w0.heap ++ os.toArray
  tape : w.tape = w0.tape
  os : w.os = w0.os
  output : w.output = w0.output
section
variable {w0 w w₁ : World} {os : List Obj}
theorem Grown.refl : Grown w0 [] w0 := ⟨by simp, rfl, rfl, rfl⟩
theorem Grown.rely (h : Grown w0 os w) (r : Go.Conc.AtRel w w₁) : Grown w0 os w₁ := by
  obtain ⟨d, rfl⟩ := r
  exact ⟨h.heap, h.tape, h.os, h.output⟩
theorem Grown.size (h : Grown w0 os w) : w.heap.size = w0.heap.size + os.length := by rw [h.heap]; simp
theorem Grown.alloc (h : Grown w0 os w) (x : Obj) : Grown w0 (os ++ [x]) (w.alloc x) := ⟨by show w.heap.push x = _; rw [h.heap]; simp, h.tape, h.os, h.output⟩
theorem Grown.get (h : Grown w0 os w) {k : Nat} {x : Obj} (hk : os[k]? = some x) : w.heap[w0.heap.size + k]? = some x := by
  rw [h.heap, Array.getElem?_append_right (by omega)]
  simpa using hk
theorem Grown.low (h : Grown w0 os w) {b : Nat} (hb : b < w0.heap.size) : w.heap[b]? = w0.heap[b]? := by rw [h.heap, Array.getElem?_append_left hb]
theorem Grown.set (h : Grown w0 os w) {k j : Nat} {cs : Array Value} {e : TypeId} (v : Value) (hk : os[k]? = some (.cells cs e)) : Grown w0 (os.set k (.cells (cs.setIfInBounds j v) e)) (w.setCell ⟨w0.heap.size + k, j, none⟩ v) := by
  have hA := aside_setCell w ⟨w0.heap.size + k, j, none⟩ v
  refine ⟨?_, hA.tape.trans h.tape, hA.os.trans h.os, hA.output.trans h.output⟩
  have hkl : k < os.length := (List.getElem?_eq_some_iff.1 hk).1
  apply Array.ext_getElem?
  intro b
  by_cases e : b = w0.heap.size + k
  · subst e
    rw [set_row v (h.get hk), Array.getElem?_append_right (by omega)]
    simp [hkl]
  · rw [hA.block b e, h.heap]
    rcases Nat.lt_or_ge b w0.heap.size with h1 | h1
    · rw [Array.getElem?_append_left h1, Array.getElem?_append_left h1]
    · rw [Array.getElem?_append_right h1, Array.getElem?_append_right h1]
      simp only [List.getElem?_toArray]
      rw [List.getElem?_set_ne (by omega)]
/-- what the opening lists -/
def DA (S : Nat → Nat) (B : Nat) (_ _ : World) (es : Array Event) : Prop := ∀ e ∈ es, EvL (ShunS S) B e
variable {P : Program} {S : Nat → Nat} {B m : Nat} {Stop : Goroutine → World → Prop}
theorem goesA_ctl {g g' : Goroutine} (hr : g.status = .running) (hs : ∀ w, stepG P true g w = .go g' w #[]) (h : Goes P true Go.Conc.AtRel (DA S B) Stop m g' w) : Goes P true Go.Conc.AtRel (DA S B) Stop (m + 1) g w :=
  Goes.step hr fun w₁ h₁ => by rw [hs w₁]; exact ⟨by simp [DA], h.rely atRel_trans h₁⟩
theorem goesA_op {b : Frame} {a : Act} {k : List Item} {cs : List Frame} {ops : Array Oper} {j : Nat} {rest : List Nat} {q : Oper} (ho : ops[j]? = some q) (hw : Region.wanted q (yielded ops a.tmps) = true) (hk : b.kind ≠ .early)
    (h : ∀ w₁, Go.Conc.AtRel w w₁ → ∀ K : Act → World → Prop, (∀ a' w', DA S B w₁ w' (listed P b.fn a q w₁) ∧ Goes P true Go.Conc.AtRel (DA S B) Stop m (G (b.at a' (.inRegion ops rest :: k)) cs) w' → K a' w') → uponK q a K ((execOp a.eval q).run P w₁)) :
    Goes P true Go.Conc.AtRel (DA S B) Stop (m + 1) (G (b.at a (.inRegion ops (j :: rest) :: k)) cs) w :=
  Goes.step rfl fun w₁ h₁ => goes_oper_k ho hw hk fun K hK => h w₁ h₁ K hK
end
noncomputable def body32 : Code := Try.f32.body.getD .skip
/-- the code from the loop on -/
noncomputable def rest32 : Code := match body32 with | .seq _ (.seq _ (.seq _ c)) => c | _ => .skip
def T32 (B : Nat) (x : Value) (y : Option Addr) (n cap : Nat) (v9 v10 v11 t3 t7 t8 t12 t13 t14 t15 t16 t17 t18 t19 t20 t21 t22 t23 : Value) (rest : List Value) : Array Value := (x :: .slice y n cap :: .pointer (some ⟨B, 0, none⟩) :: t3 :: .slice none 0 0 :: .pointer (some ⟨B + 2, 0, none⟩) :: .pointer (some ⟨B + 3, 0, none⟩) :: t7 :: t8 :: v9 :: v10 :: v11 :: t12 :: t13 :: t14 :: t15 :: t16 :: t17 :: t18 :: t19 :: t20 :: t21 :: t22 :: t23 :: rest).toArray
theorem enter32 (args : Array Value) (c : Frame) (cs : List Frame) : gor (Frame.enter Try.prog 32 args .normal) (c :: cs) = G ((base 32).at ⟨args ++ Array.replicate (24 - args.size) undef, []⟩ [.code body32]) (c :: cs) := by
  simp [gor, G, Frame.enter, Try.func32, Try.f32, base, Frame.at, body32]
theorem Try.info4z : (Try.prog.info? 4).map (fun i => (i.zero, i.size, i.bytes)) = some (some (.bool false), 1, 1) := by kernel_rfl
set_option maxRecDepth 100000 in
set_option maxHeartbeats 4000000 in
theorem opening {S : Nat → Nat} {w0 : World} {x : Option Nat} {y : Option Addr} {n cap : Nat} {c : Frame} {cs : List Frame} {args : Array Value} {t2 t3 t4 t5 t6 t7 t8 t9 t10 t11 t12 t13 t14 t15 t16 t17 t18 t19 t20 t21 t22 t23 : Value} {rest : List Value} (hargs : args ++ Array.replicate (24 - args.size) undef = (.map x :: .slice y n cap :: t2 :: t3 :: t4 :: t5 :: t6 :: t7 :: t8 :: t9 :: t10 :: t11 :: t12 :: t13 :: t14 :: t15 :: t16 :: t17 :: t18 :: t19 :: t20 :: t21 :: t22 :: t23 :: rest).toArray) (hn : n ≤ 16) (hS : ∀ b, w0.heap.size ≤ b → S b ≠ 1) :
    Goes Try.prog true Go.Conc.AtRel (DA S (w0.heap.size + 3)) (fun g w => g = G ((base 32).at ⟨T32 w0.heap.size (.map x) y n cap (.slice y n cap) (.int .i64 n) (.slice (some ⟨w0.heap.size + 1, 0, none⟩) n n) t3 t7 t8 t12 t13 t14 t15 t16 t17 t18 t19 t20 t21 t22 t23 rest, []⟩ [.code rest32]) (c :: cs) ∧
      Grown w0 [.cells #[.map x] 56, .cells (madeCells #[.bool false] n) 4, .cells #[.slice (some ⟨w0.heap.size + 1, 0, none⟩) n n] 60, .cells #[.int .u64 0, .int .u32 0] 91] w) 30 (gor (Frame.enter Try.prog 32 args .normal) (c :: cs)) w0 := by
  obtain ⟨i0, hi, hz0, hz1, hz2⟩ := info_parts Try.info4z
  rw [enter32, hargs]
  have hF : Grown w0 [] w0 := Grown.refl
  simp only [body32, Try.f32, Option.getD_some]
  refine goesA_ctl rfl (fun _ => stepG_seq) ?_
  refine goesA_ctl rfl (fun _ => stepG_region) ?_
  simp only [List.size_toArray, List.length_cons, List.length_nil, Nat.reduceAdd, Nat.zero_add, List.range, List.range.loop]
  refine goesA_op rfl rfl (by decide) fun w₁ h₁ K hK => ?_
  replace hF := hF.rely h₁
  clear h₁
  have hsz := hF.size
  simp only [List.length_nil, List.length_cons, Nat.add_zero, Nat.zero_add, Nat.reduceAdd] at hsz
  go_simp
  refine hK _ _ ⟨by rw [listed_nil (by simp [go_sem])]; simp [DA], ?_⟩
  clear hK K
  try walk_nrm
  replace hF := hF.alloc (.cells #[.map x] 56)
  try simp only [hsz] at hF ⊢
  clear hsz
  try simp only [List.nil_append, List.cons_append] at hF
  refine goesA_op rfl rfl (by decide) fun w₁ h₁ K hK => ?_
  replace hF := hF.rely h₁
  clear h₁
  have hsz := hF.size
  simp only [List.length_nil, List.length_cons, Nat.add_zero, Nat.zero_add, Nat.reduceAdd] at hsz
  go_simp
  refine hK _ _ ⟨by rw [listed_nil (by simp [go_sem])]; simp [DA], ?_⟩
  clear hK K
  try walk_nrm
  clear hsz
  refine goesA_ctl rfl (fun _ => stepG_region_end) ?_
  refine goesA_ctl rfl (fun _ => stepG_seq) ?_
  refine goesA_ctl rfl (fun _ => stepG_region) ?_
  simp only [List.size_toArray, List.length_cons, List.length_nil, Nat.reduceAdd, Nat.zero_add, List.range, List.range.loop]
  refine goesA_op rfl rfl (by decide) fun w₁ h₁ K hK => ?_
  replace hF := hF.rely h₁
  clear h₁
  have hsz := hF.size
  simp only [List.length_nil, List.length_cons, Nat.add_zero, Nat.zero_add, Nat.reduceAdd] at hsz
  go_simp
  refine hK _ _ ⟨by rw [listed_nil (by simp [go_sem])]; simp [DA], ?_⟩
  clear hK K
  try walk_nrm
  clear hsz
  refine goesA_op rfl rfl (by decide) fun w₁ h₁ K hK => ?_
  replace hF := hF.rely h₁
  clear h₁
  have hsz := hF.size
  simp only [List.length_nil, List.length_cons, Nat.add_zero, Nat.zero_add, Nat.reduceAdd] at hsz
  go_simp
  refine hK _ _ ⟨by rw [listed_nil (by simp [go_sem])]; simp [DA], ?_⟩
  clear hK K
  try walk_nrm
  clear hsz
  refine goesA_op rfl rfl (by decide) fun w₁ h₁ K hK => ?_
  replace hF := hF.rely h₁
  clear h₁
  have hsz := hF.size
  simp only [List.length_nil, List.length_cons, Nat.add_zero, Nat.zero_add, Nat.reduceAdd] at hsz
  have hmk := fun w => run_make (P := Try.prog) w 60 4 i0 (.bool false) Try.underlying60 hi hz0 .i64 .i64 n n (by omega) (by omega) (by rw [hz2]; omega) (by omega)
  have hme := fun w es => events_make (P := Try.prog) w 60 4 i0 (.bool false) Try.underlying60 hi hz0 .i64 .i64 n n (by omega) (by omega) (by rw [hz2]; omega) (by omega) (by rw [hz2]; simp; omega) es
  simp only [Int.toNat_natCast, hz1, Nat.mul_one, Value.cells] at hmk
  go_simp
  refine hK _ _ ⟨by rw [listed_nil (by simp [go_sem, hme])]; simp [DA], ?_⟩
  clear hK K
  try walk_nrm
  clear hmk hme
  replace hF := hF.alloc (.cells (madeCells #[.bool false] n) 4)
  try simp only [hsz] at hF ⊢
  clear hsz
  try simp only [List.nil_append, List.cons_append] at hF
  refine goesA_op rfl rfl (by decide) fun w₁ h₁ K hK => ?_
  replace hF := hF.rely h₁
  clear h₁
  have hsz := hF.size
  simp only [List.length_nil, List.length_cons, Nat.add_zero, Nat.zero_add, Nat.reduceAdd] at hsz
  go_simp
  refine hK _ _ ⟨by rw [listed_nil (by simp [go_sem])]; simp [DA], ?_⟩
  clear hK K
  try walk_nrm
  replace hF := hF.alloc (.cells #[.slice none 0 0] 60)
  try simp only [hsz] at hF ⊢
  clear hsz
  try simp only [List.nil_append, List.cons_append] at hF
  refine goesA_op rfl rfl (by decide) fun w₁ h₁ K hK => ?_
  replace hF := hF.rely h₁
  clear h₁
  have hsz := hF.size
  simp only [List.length_nil, List.length_cons, Nat.add_zero, Nat.zero_add, Nat.reduceAdd] at hsz
  have hN := hF.get (k := 2) rfl
  have hc := row_cell (k := 0) hN
  have hz := row_free (k := 0) hN
  simp at hc
  go_simp
  try (unfold stored; go_simp)
  refine hK _ _ ⟨?_, ?_⟩
  · intro e he
    have hm := mem_listed he
    have hes := fun v w es => events_store Try.prog w es ⟨w0.heap.size + 2, 0, none⟩ (.slice v n n) .plain rfl
    simp [go_sem, hes, hc, hz] at hm
    subst hm
    exact evL_cell _ _ (hS (w0.heap.size + 2) (by omega)) (by show w0.heap.size + 2 < w0.heap.size + 3; omega)
  clear hK K hsz hc hz hN
  try walk_nrm
  replace hF := hF.set (k := 2) (j := 0) (.slice (some ⟨w0.heap.size + 1, 0, none⟩) n n) rfl
  simp only [List.set] at hF
  refine goesA_ctl rfl (fun _ => stepG_region_end) ?_
  refine goesA_ctl rfl (fun _ => stepG_seq) ?_
  refine goesA_ctl rfl (fun _ => stepG_region) ?_
  simp only [List.size_toArray, List.length_cons, List.length_nil, Nat.reduceAdd, Nat.zero_add, List.range, List.range.loop]
  refine goesA_op rfl rfl (by decide) fun w₁ h₁ K hK => ?_
  replace hF := hF.rely h₁
  clear h₁
  have hsz := hF.size
  simp only [List.length_nil, List.length_cons, Nat.add_zero, Nat.zero_add, Nat.reduceAdd] at hsz
  go_simp
  refine hK _ _ ⟨by rw [listed_nil (by simp [go_sem])]; simp [DA], ?_⟩
  clear hK K
  try walk_nrm
  replace hF := hF.alloc (.cells #[.int .u64 0, .int .u32 0] 91)
  try simp only [hsz] at hF ⊢
  clear hsz
  try simp only [List.nil_append, List.cons_append] at hF
  refine goesA_ctl rfl (fun _ => stepG_region_end) ?_
  refine Goes.stop fun w₄ h₄ => ⟨?_, ?_⟩
  · rfl
  · exact hF.rely h₄
end Go.Sf

/-! The phase, part 19: the starter's rounds -/
namespace Go.Sf
open Go Go.Conc Go.Proofs Go.Conc.Lib
open Go.ConcN (ShN WgLive PayAt Has)
open Go.ConcR (KK WgAt stA smA rd wr mk Payload)
/-- a check, and what the store holds for it -/
structure ChkD where
  id : Int
  sum : Int
  u : Int
  q : Int
  base : Option Addr
  cap : Nat
  l : List Int
  fnd : Bool
section
variable (Wg C n Bm Bs : Nat) (x : Option Nat) (y : Option Addr) (D : Nat → ChkD) (oS : Nat → Nat) (wB : World)
/-- the world at the beginning of the rounds -/
structure SB : Prop where
  om : oS Bm ≠ 0
  os : oS Bs ≠ 0
  nW : oS Wg = 0
  nC : oS C = 0
  cw : C ≠ Wg
  one : ∀ b, oS b ≠ 2
  low : ∀ b, oS b ≠ 0 → b < wB.heap.size
  lw : Wg < wB.heap.size
  lc : C < wB.heap.size
  mapb : wB.cell? ⟨Bm, 0, none⟩ = some (.map x)
  row : wB.cell? ⟨Bs, 0, none⟩ = some (.slice (some ⟨C, 0, none⟩) n n)
  chk : ∀ j, j < n → (∃ b off, y = some ⟨b, off, none⟩ ∧ oS b ≠ 0 ∧ wB.cell? ⟨b, off + j * 2, none⟩ = some (.int .i64 (D j).id) ∧ wB.cell? ⟨b, off + j * 2 + 1, none⟩ = some (.int .i64 (D j).sum)) ∧
    Looks oS (.map x) (D j).id (.agg #[.int .i64 (D j).u, .slice (D j).base (D j).l.length (D j).cap, .int .i64 (D j).q]) (D j).fnd wB ∧ HB oS (D j).base (D j).l wB
variable [Payload]
/-- the world in a round -/
structure SK (w : World) : Prop where
  size : wB.heap.size ≤ w.heap.size
  keep : ∀ b, oS b ≠ 0 → w.heap[b]? = wB.heap[b]?
  live : WgLive 91 Wg w
  pay : PayAt C n w
/-- .. with a box -/
structure SK1 (bi : Nat) (ri : Obj) (w : World) : Prop extends SK Wg C n oS wB w where
  ib : w.heap[bi]? = some ri
  ni : wB.heap.size ≤ bi
/-- .. with two boxes -/
structure SK2 (bi bc : Nat) (ri rc : Obj) (w : World) : Prop extends SK1 Wg C n oS wB bi ri w where
  cb : w.heap[bc]? = some rc
  nc : wB.heap.size ≤ bc
  ne : bc ≠ bi
end
section
variable {Wg C n Bm Bs bi bc j : Nat} {x : Option Nat} {y : Option Addr} {D : Nat → ChkD} {oS : Nat → Nat} {wB w w₁ : World} [Payload] {ri rc : Obj}
theorem SK.rely {o : Nat → Nat} (h : SK Wg C n oS wB w) (ho : ∀ b, oS b ≠ 0 → o b ≠ 0) (r : RO 91 Wg C n none o w w₁) : SK Wg C n oS wB w₁ := ⟨Nat.le_trans h.size r.size, fun b hb => (r.keep b (ho b hb)).trans (h.keep b hb), r.live h.live, r.pay h.pay⟩
theorem SK1.rely {o : Nat → Nat} (h : SK1 Wg C n oS wB bi ri w) (ho : ∀ b, oS b ≠ 0 → o b ≠ 0) (hi : o bi ≠ 0) (r : RO 91 Wg C n none o w w₁) : SK1 Wg C n oS wB bi ri w₁ :=
  ⟨h.toSK.rely ho r, (r.keep bi hi).trans h.ib, h.ni⟩
theorem SK2.rely {o : Nat → Nat} (h : SK2 Wg C n oS wB bi bc ri rc w) (ho : ∀ b, oS b ≠ 0 → o b ≠ 0) (hi : o bi ≠ 0) (hc : o bc ≠ 0) (r : RO 91 Wg C n none o w w₁) : SK2 Wg C n oS wB bi bc ri rc w₁ :=
  ⟨h.toSK1.rely ho hi r, (r.keep bc hc).trans h.cb, h.nc, h.ne⟩
theorem SK.put (h : SK Wg C n oS wB w) {b0 : Nat} (hA : Aside b0 w w₁) (h0 : oS b0 = 0) (hC : C ≠ b0) (hl : WgLive 91 Wg w₁) : SK Wg C n oS wB w₁ :=
  ⟨by rw [hA.size]; exact h.size, fun b hb => (hA.block b (fun e => hb (by rw [e]; exact h0))).trans (h.keep b hb), hl, let ⟨c, e1, e2⟩ := h.pay; ⟨c, (hA.block C hC).trans e1, e2⟩⟩
theorem SK.wg (h : SK Wg C n oS wB w) (hB : SB Wg C n Bm Bs x y D oS wB) {a : Addr} {v : Value} (ha : a.block = Wg) (hl : WgLive 91 Wg (w.setCell a v)) : SK Wg C n oS wB (w.setCell a v) :=
  h.put (aside_setCell w a v) (by rw [ha]; exact hB.nW) (by rw [ha]; exact hB.cw) hl
theorem SK2.wg (h : SK2 Wg C n oS wB bi bc ri rc w) (hB : SB Wg C n Bm Bs x y D oS wB) {a : Addr} {v : Value} (ha : a.block = Wg) (hl : WgLive 91 Wg (w.setCell a v)) : SK2 Wg C n oS wB bi bc ri rc (w.setCell a v) := by
  have hA := aside_setCell w a v
  have h1 := h.ni
  have h2 := h.nc
  have h3 := hB.lw
  exact ⟨⟨h.toSK.wg hB ha hl, (hA.block bi (by omega)).trans h.ib, h.ni⟩, (hA.block bc (by omega)).trans h.cb, h.nc, h.ne⟩
theorem SK.alloc (h : SK Wg C n oS wB w) (hB : SB Wg C n Bm Bs x y D oS wB) (X : Obj) : SK1 Wg C n oS wB w.heap.size X (w.alloc X) := by
  have h1 := h.size
  have h2 := hB.lw
  have h3 := hB.lc
  exact ⟨⟨by rw [alloc_size]; omega, fun b hb => (alloc_lt w X (by have := hB.low b hb; omega)).trans (h.keep b hb), WgLive.of_block h.live (alloc_lt w X (by omega)), let ⟨c, e1, e2⟩ := h.pay; ⟨c, (alloc_lt w X (by omega)).trans e1, e2⟩⟩, alloc_last w X, h1⟩
theorem SK1.alloc (h : SK1 Wg C n oS wB bi ri w) (hB : SB Wg C n Bm Bs x y D oS wB) (X : Obj) : SK2 Wg C n oS wB bi w.heap.size ri X (w.alloc X) := by
  have hk := h.toSK.alloc hB X
  have hbi : bi < w.heap.size := (Array.getElem?_eq_some_iff.1 h.ib).1
  exact ⟨⟨hk.toSK, (alloc_lt w X hbi).trans h.ib, h.ni⟩, hk.ib, hk.ni, by omega⟩
theorem SK2.put1 (h : SK2 Wg C n oS wB bi bc ri rc w) (hB : SB Wg C n Bm Bs x y D oS wB) (hA : Aside bi w w₁) {ri' : Obj} (hN : w₁.heap[bi]? = some ri') : SK2 Wg C n oS wB bi bc ri' rc w₁ := by
  have h1 := h.ni
  have h2 := hB.lw
  have h3 := hB.lc
  exact ⟨⟨h.toSK.put hA (by rcases Nat.eq_zero_or_pos (oS bi) with e | e; exact e; have := hB.low bi (by omega); omega) (by omega) (WgLive.of_block h.live (hA.block _ (by omega))), hN, h.ni⟩, (hA.block _ h.ne).trans h.cb, h.nc, h.ne⟩
theorem SK2.put2 (h : SK2 Wg C n oS wB bi bc ri rc w) (hB : SB Wg C n Bm Bs x y D oS wB) (hA : Aside bc w w₁) {rc' : Obj} (hN : w₁.heap[bc]? = some rc') : SK2 Wg C n oS wB bi bc ri rc' w₁ := by
  have h1 := h.nc
  have h2 := hB.lw
  have h3 := hB.lc
  exact ⟨⟨h.toSK.put hA (by rcases Nat.eq_zero_or_pos (oS bc) with e | e; exact e; have := hB.low bc (by omega); omega) (by omega) (WgLive.of_block h.live (hA.block _ (by omega))), (hA.block _ (Ne.symm h.ne)).trans h.ib, h.ni⟩, hN, h.nc, h.ne⟩
/-- what the child has -/
def oChild (oS : Nat → Nat) (bi bc b : Nat) : Nat := if b = bi ∨ b = bc then 1 else oS b
theorem SB.child (h : SB Wg C n Bm Bs x y D oS wB) (hj : j < n) (hk : SK2 Wg C n oS wB bi bc (.cells #[.int .i64 j] 3) (.cells #[.int .i64 (D j).id, .int .i64 (D j).sum] 64) w) :
    WKm 91 Wg C n j Bm Bs bi bc (.map x) (D j).id (D j).sum (D j).u (D j).q (D j).base (D j).cap (D j).l (D j).fnd (oChild oS bi bc) w := by
  have up : ∀ b, oS b ≠ 0 → oChild oS bi bc b ≠ 0 := fun b hb => by unfold oChild; split <;> omega
  have h1 := hk.ni
  have h2 := hk.nc
  have hbi : bi < w.heap.size := (Array.getElem?_eq_some_iff.1 hk.ib).1
  have hbc : bc < w.heap.size := (Array.getElem?_eq_some_iff.1 hk.cb).1
  obtain ⟨_, c2, c3⟩ := h.chk j hj
  have hs := hk.size
  refine ⟨up _ h.om, up _ h.os, by simp [oChild], by simp [oChild], fun b hb => ?_, ?_, h.cw, (cell_keep (hk.keep _ h.om)).trans h.mapb, (cell_keep (hk.keep _ h.os)).trans h.row, (row_cell hk.ib).trans rfl, (row_cell hk.cb).trans rfl, (row_cell hk.cb).trans rfl, c2.keep hs hk.keep up, ⟨fun k hk' => ?_⟩, hk.live, hk.pay⟩
  · unfold oChild at hb
    split at hb
    · rename_i e
      rcases e with rfl | rfl <;> assumption
    · exact Nat.lt_of_lt_of_le (h.low b hb) hs
  · have := h.lc
    unfold oChild
    rw [if_neg (by omega)]
    exact h.nC
  · obtain ⟨b, off, e1, e2, e3⟩ := c3.get k hk'
    exact ⟨b, off, e1, up b e2, (cell_keep (hk.keep b e2)).trans e3⟩
end
end Go.Sf

/-! The phase, part 20: a round of the starter's -/
namespace Go.Sf
open Go Go.Conc Go.Proofs Go.Conc.Lib
open Go.ConcN (ShN WgLive PayAt Has)
open Go.RowKit Go.ConcR.Gen Go.ConcN.Gen
open Go.ConcR (KK WgAt stA smA rd wr mk Payload)
noncomputable def loop32 : Code := match rest32 with | .seq (.seq _ (.block _ (.loop c))) _ => c | _ => .skip
noncomputable def end32 : Code := match rest32 with | .seq _ c => c | _ => .skip
def TH (Bm Bs Wg : Nat) (x : Option Nat) (y : Option Addr) (n cap j : Nat) (t3 : Value) (rest : List Value) (v9 v11 v7 v8 v15 v16 v17 v18 v19 v20 v21 v22 v23 : Value) : Array Value :=
  (.map x :: .slice y n cap :: .pointer (some ⟨Bm, 0, none⟩) :: t3 :: .slice none 0 0 :: .pointer (some ⟨Bs, 0, none⟩) :: .pointer (some ⟨Wg, 0, none⟩) :: v7 :: v8 :: v9 :: .int .i64 n :: v11 :: .slice y n cap :: .int .i64 n :: .int .i64 j :: v15 :: v16 :: v17 :: v18 :: v19 :: v20 :: v21 :: v22 :: v23 :: rest).toArray
section
variable [Payload]
theorem atGoS_intro {P : Program} {ty : TypeId} {Wg C n j : Nat} {val : Nat → Value} {Next : OSt → Goroutine → World → Prop} {s s' sc : OSt} {b : Frame} {a : Act} {ops : Array Oper} {i : Nat} {rest : List Nat} {k : List Item} {cs : List Frame} {o : Oper} {d : Deferred} {f : Fn} {c : Array Value} {w : World}
    (ho : ops[i]? = some o) (hw : Region.wanted o (yielded ops a.tmps) = true) (hk : b.kind ≠ .early) (hr : (execOp a.eval o).run P w = .ok (.spawn d) w) (hd : d.target = .fn f c) (hl : listed P b.fn a o w = #[]) (hs : Split s s' sc)
    (hc : PayAt C n w → WgLive ty Wg w → ∃ m, GoesO ty Wg C n P false (some j) (AtRel P ty Wg C n j (val j)) m sc (born P d) w) (hn : Next s' (G (b.at (a.put o.dst undef) (.inRegion ops rest :: k)) cs) w) :
    AtGoS P ty Wg C n val j Next s (G (b.at a (.inRegion ops (i :: rest) :: k)) cs) w :=
  ⟨rfl, _, born P d, s', sc, by rw [stepG_spawn ho hw hk hr hd, hl], rfl, hs, hc, hn⟩
set_option maxRecDepth 100000 in
set_option maxHeartbeats 4000000 in
theorem round32 {Wg C n Bm Bs cap j : Nat} {x : Option Nat} {y : Option Addr} {D : Nat → ChkD} {oS : Nat → Nat} {wB : World} {val : Nat → Value} (hB : SB Wg C n Bm Bs x y D oS wB) (hn : n ≤ 16) (hj : j < n) (hval : val j = bad1 (D j).sum (D j).l (D j).fnd)
    {Next X : OSt → Goroutine → World → Prop} (hX : ∀ s g w, (∃ m, GoesO 91 Wg C n Try.prog true none X m s g w) → Next s g w) {cs : List Frame} {t3 : Value} {rest : List Value}
    (hnext : ∃ m, ∀ v9 v11 v7 v8 v15 v16 v17 v18 v19 v20 v21 v22 v23 w, SK Wg C n oS wB w → GoesO 91 Wg C n Try.prog true none X m ⟨oS, 2 * (j + 1)⟩ (G ((base 32).at ⟨TH Bm Bs Wg x y n cap (j + 1) t3 rest v9 v11 v7 v8 v15 v16 v17 v18 v19 v20 v21 v22 v23, []⟩ [.code loop32, .inLoop loop32, .inBlock 0, .code end32]) cs) w) :
    ∃ m, ∀ (v9 v11 v7 v8 v15 v16 v17 v18 v19 v20 v21 v22 v23 : Value) (w : World), SK Wg C n oS wB w → GoesO 91 Wg C n Try.prog true none (AtKdS Try.prog 91 Wg C n val j Next) m ⟨oS, 2 * j⟩ (G ((base 32).at ⟨TH Bm Bs Wg x y n cap j t3 rest v9 v11 v7 v8 v15 v16 v17 v18 v19 v20 v21 v22 v23, []⟩ [.code loop32, .inLoop loop32, .inBlock 0, .code end32]) cs) w := by
  obtain ⟨m', hnext⟩ := hnext
  refine ⟨12 + 22, ?_⟩
  intro v9 v11 v7 v8 v15 v16 v17 v18 v19 v20 v21 v22 v23 w hF
  have hlt : (j : Int) < (n : Int) := by omega
  generalize hl32 : Item.inLoop loop32 = il
  simp only [loop32, rest32, body32, Try.f32, Option.getD_some, TH]
  refine GoesO.ctl rfl (fun _ => stepG_seq) ?_
  refine GoesO.ctl rfl (fun _ => stepG_region) ?_
  simp only [List.size_toArray, List.length_cons, List.length_nil, Nat.reduceAdd, Nat.zero_add, List.range, List.range.loop]
  refine GoesO.op rfl rfl (by decide) fun w₁ h₁ K hK => ?_
  replace hF := hF.rely (fun _ => id) h₁
  clear h₁
  go_simp
  refine hK _ _ ⟨_, GO.idle (by rw [listed_nil (by simp [go_sem])]; simp), ?_⟩
  clear hK K
  try walk_nrm
  refine GoesO.ctl rfl (fun _ => stepG_region_end) ?_
  refine GoesO.ctl rfl (fun _ => stepG_seq) ?_
  refine GoesO.ctl rfl (fun _ => stepG_cond (t := true) rfl) ?_
  simp only [if_true, if_false, Bool.false_eq_true, ↓reduceIte]
  refine GoesO.ctl rfl (fun _ => stepG_skip) ?_
  refine GoesO.ctl rfl (fun _ => stepG_seq) ?_
  refine GoesO.ctl rfl (fun _ => stepG_block) ?_
  refine GoesO.ctl rfl (fun _ => stepG_seq) ?_
  refine GoesO.ctl rfl (fun _ => stepG_region) ?_
  simp only [List.size_toArray, List.length_cons, List.length_nil, Nat.reduceAdd, Nat.zero_add, List.range, List.range.loop]
  -- R5
  obtain ⟨⟨b, off, rfl, hb, e0, e1⟩, -, -⟩ := hB.chk j hj
  refine GoesO.op rfl rfl (by decide) fun w₁ h₁ K hK => ?_
  replace hF := hF.rely (fun _ => id) h₁
  clear h₁
  go_simp
  refine hK _ _ ⟨_, GO.idle (by rw [listed_nil (by simp [go_sem, *])]; simp), ?_⟩
  clear hK K
  try walk_nrm
  refine GoesO.op rfl rfl (by decide) fun w₁ h₁ K hK => ?_
  replace hF := hF.rely (fun _ => id) h₁
  clear h₁
  go_simp
  refine hK _ _ ⟨_, GO.idle (by rw [listed_nil (by simp [go_sem, *])]; simp), ?_⟩
  clear hK K
  try walk_nrm
  refine GoesO.op rfl rfl (by decide) fun w₁ h₁ K hK => ?_
  replace hF := hF.rely (fun _ => id) h₁
  clear h₁
  have hc0 := (cell_keep (hF.keep b hb)).trans e0
  have hc1 := (cell_keep (hF.keep b hb)).trans e1
  go_simp
  refine hK _ _ ⟨_, GO.idle fun e he => ?_, ?_⟩
  · have hm := mem_listed he
    simp [go_sem, hc0, hc1] at hm
    have hbl : b < w₁.heap.size := by have := hB.low b hb; have := hF.size; omega
    rcases hm with rfl | rfl <;> exact ⟨hbl, .inr (.inl ⟨b, rfl, hb, rfl⟩)⟩
  clear hK K hc0 hc1
  try walk_nrm
  refine GoesO.op rfl rfl (by decide) fun w₁ h₁ K hK => ?_
  replace hF := hF.rely (fun _ => id) h₁
  clear h₁
  go_simp
  refine hK _ _ ⟨_, GO.alloc hF.pay (listed_nil (by simp [go_sem])), ?_⟩
  clear hK K
  try walk_nrm
  replace hF := hF.alloc hB (.cells #[.int .i64 0] 3)
  generalize w₁.alloc (.cells #[.int .i64 0] 3) = w₂ at *
  generalize w₁.heap.size = bi at *
  clear w₁
  refine GoesO.op rfl rfl (by decide) fun w₁ h₁ K hK => ?_
  replace hF := hF.rely (fun b hb => own1_ne hb) (by show own1 _ _ _ ≠ 0; rw [own1_self]; decide) h₁
  clear h₁
  go_simp
  refine hK _ _ ⟨_, GO.alloc hF.pay (listed_nil (by simp [go_sem])), ?_⟩
  clear hK K
  try walk_nrm
  replace hF := hF.alloc hB (.cells #[.int .i64 0, .int .i64 0] 64)
  generalize w₁.alloc (.cells #[.int .i64 0, .int .i64 0] 64) = w₃ at *
  generalize w₁.heap.size = bc at *
  clear w₁
  refine GoesO.op rfl rfl (by decide) fun w₁ h₁ K hK => ?_
  replace hF := hF.rely (fun b hb => own1_ne (own1_ne hb)) (own1_ne (by rw [own1_self]; decide)) (by show own1 _ _ _ ≠ 0; rw [own1_self]; decide) h₁
  clear h₁
  have hN := hF.ib
  have hc := row_cell (k := 0) hN
  have hz := row_free (k := 0) hN
  simp at hc
  have hN1 := set_row (k := 0) (.int .i64 j) hN
  simp at hN1
  go_simp
  try (unfold stored; go_simp)
  have hA := aside_setCell w₁ ⟨bi, 0, none⟩ (.int .i64 j)
  have hlb : bi < w₁.heap.size := (Array.getElem?_eq_some_iff.1 hN).1
  have hbiC : bi ≠ C := by have := hF.ni; have := hB.lc; omega
  have hob : own1 (own1 oS bi) bc bi = 2 := by unfold own1; rw [if_neg (Ne.symm hF.ne), if_pos rfl]
  refine hK _ _ ⟨_, GO.mine hA hob hbiC hN1 (fun e he => ?_), ?_⟩
  · have hm := mem_listed he
    simp [go_sem, storedEv, stored, hc, hz] at hm
    subst hm
    exact ⟨hlb, .inl ⟨bi, rfl, hob⟩⟩
  clear hK K hc hz hN hlb
  try walk_nrm
  replace hF := hF.put1 hB hA hN1
  clear hA hN1
  generalize w₁.setCell ⟨bi, 0, none⟩ (.int .i64 j) = w₄ at *
  clear w₁
  refine GoesO.op rfl rfl (by decide) fun w₁ h₁ K hK => ?_
  replace hF := hF.rely (fun b hb => own1_ne (own1_ne hb)) (own1_ne (by rw [own1_self]; decide)) (by show own1 _ _ _ ≠ 0; rw [own1_self]; decide) h₁
  clear h₁
  have hN := hF.cb
  have c0 := row_cell (k := 0) hN
  have z0 := row_free (k := 0) hN
  have hN1 := set_row (k := 0) (.int .i64 (D j).id) hN
  have c1 := row_cell (k := 1) hN1
  have z1 := row_free (k := 1) hN1
  have hN2 := set_row (k := 1) (.int .i64 (D j).sum) hN1
  simp at c0 c1 hN2
  go_simp
  try (unfold stored; go_simp)
  have hA := (aside_setCell w₁ ⟨bc, 0, none⟩ (.int .i64 (D j).id)).trans (aside_setCell _ ⟨bc, 1, none⟩ (.int .i64 (D j).sum))
  have hlb : bc < w₁.heap.size := (Array.getElem?_eq_some_iff.1 hN).1
  have hbcC : bc ≠ C := by have := hF.nc; have := hB.lc; omega
  refine hK _ _ ⟨_, GO.mine hA own1_self hbcC hN2 (fun e he => ?_), ?_⟩
  · have hm := mem_listed he
    simp [go_sem, storedEv, stored, c0, z0, c1, z1] at hm
    rcases hm with rfl | rfl <;> exact ⟨hlb, .inl ⟨bc, rfl, own1_self⟩⟩
  clear hK K c0 z0 c1 z1 hN hN1 hlb
  try walk_nrm
  replace hF := hF.put2 hB hA hN2
  clear hA hN2
  generalize (w₁.setCell ⟨bc, 0, none⟩ (.int .i64 (D j).id)).setCell ⟨bc, 1, none⟩ (.int .i64 (D j).sum) = w₅ at *
  clear w₁
  refine GoesO.ctl rfl (fun _ => stepG_region_end) ?_
  refine GoesO.ctl rfl (fun _ => stepG_seq) ?_
  refine GoesO.ctl rfl (fun _ => stepG_region) ?_
  simp only [List.size_toArray, List.length_cons, List.length_nil, Nat.reduceAdd, Nat.zero_add, List.range, List.range.loop]
  have hob : own1 (own1 oS bi) bc bi = 2 := by unfold own1; rw [if_neg (Ne.symm hF.ne), if_pos rfl]
  have hRel : ∀ w w₁, SK2 Wg C n oS wB bi bc (.cells #[.int .i64 j] 3) (.cells #[.int .i64 (D j).id, .int .i64 (D j).sum] 64) w → RO 91 Wg C n none (own1 (own1 oS bi) bc) w w₁ → SK2 Wg C n oS wB bi bc (.cells #[.int .i64 j] 3) (.cells #[.int .i64 (D j).id, .int .i64 (D j).sum] 64) w₁ :=
    fun w w₁ h r => h.rely (fun b hb => own1_ne (own1_ne hb)) (by rw [hob]; decide) (by rw [own1_self]; decide) r
  refine GoesO.step rfl fun w₆ h₆ => goes_call (c := body_add Try.link) rfl rfl (by decide) rfl Try.wgLib.f_add (nm_add Try.link) rfl ⟨_, GO.idle (by simp), ?_⟩
  replace hF := hRel _ _ hF h₆
  clear h₆
  have hnt : (addFn Try.link).ntmps = 117 := rfl
  walk_nrm
  simp only [hnt, Nat.reduceSub, Array.replicate_succ, Array.replicate_zero, List.push_toArray, List.append_toArray, List.nil_append, List.cons_append]
  refine addPosO (L := Try.link) (P := Try.prog) Try.wgLib (mT := 5) (F := SK2 Wg C n oS wB bi bc (.cells #[.int .i64 j] 3) (.cells #[.int .i64 (D j).id, .int .i64 (D j).sum] 64)) hRel (fun w h => h.live) (fun w v h hl => h.wg hB rfl hl) ?_ w₆ hF
  clear hF
  intro w₇ hF
  show GoesO 91 Wg C n Try.prog true none (AtGoS Try.prog 91 Wg C n val j Next) 5 _ _ _
  walk_nrm
  refine GoesO.mono (m := 3) ?_ (by omega)
  refine GoesO.ctl rfl (fun _ => stepG_region_end) ?_
  refine GoesO.ctl rfl (fun _ => stepG_region) ?_
  simp only [List.size_toArray, List.length_cons, List.length_nil, Nat.reduceAdd, Nat.zero_add, List.range, List.range.loop]
  refine GoesO.op rfl rfl (by decide) fun w₁ h₁ K hK => ?_
  replace hF := hRel _ _ hF h₁
  clear h₁
  go_simp
  refine hK _ _ ⟨_, GO.idle (by rw [listed_nil (by simp [go_sem, Instr.makeFunc])]; simp), ?_⟩
  clear hK K
  try walk_nrm
  refine GoesO.stop fun w₈ h₈ => ?_
  replace hF := hRel _ _ hF h₈
  clear h₈
  have hsp : Split ⟨own1 (own1 oS bi) bc, 2 * j + 1 + 1⟩ ⟨oS, 2 * j + 1 + 1⟩ ⟨oChild oS bi bc, 0⟩ := by
    refine ⟨rfl, rfl, fun b' => ⟨fun h => own1_ne (own1_ne h), hB.one b'⟩, fun b' => ⟨fun h => ?_, fun h => ?_⟩⟩
    · simp only [oChild] at h
      split at h
      · rename_i e
        rcases e with rfl | rfl
        · exact fun e0 => absurd (hob.symm.trans e0) (by decide)
        · exact fun e0 => absurd ((own1_self (o := own1 oS bi) (nb := b')).symm.trans e0) (by decide)
      · exact own1_ne (own1_ne h)
    · simp only [oChild] at h
      split at h
      · cases h
      · exact hB.one b' h
  refine atGoS_intro (d := call52 Wg Bm Bs bi bc) (f := .func 52) (c := #[.pointer (some ⟨Wg, 0, none⟩), .pointer (some ⟨Bm, 0, none⟩), .pointer (some ⟨bc, 0, none⟩), .pointer (some ⟨Bs, 0, none⟩), .pointer (some ⟨bi, 0, none⟩)]) rfl rfl (by decide) (by simp [go_sem, call52, Deferred.ofValue]) rfl (by simp [listed, go_sem, seen, Deferred.ofValue]; rfl) hsp (fun hp hl => ?_) ?_
  · rw [hval]
    exact worker1 hj rfl (hB.child hj hF)
  · refine hX _ _ _ ⟨m' + 7, ?_⟩
    subst hl32
    walk_nrm
    replace hF := hF.toSK1.toSK
    generalize hs2 : (⟨oS, 2 * j + 1 + 1⟩ : OSt) = s2
    have ho2 : s2.o = oS := by rw [← hs2]
    refine GoesO.ctl rfl (fun _ => stepG_region_end) ?_
    refine GoesO.ctl rfl (fun _ => stepG_inBlock) ?_
    refine GoesO.ctl rfl (fun _ => stepG_region) ?_
    simp only [List.size_toArray, List.length_cons, List.length_nil, Nat.reduceAdd, Nat.zero_add, List.range, List.range.loop]
    refine GoesO.op rfl rfl (by decide) fun w₁ h₁ K hK => ?_
    replace hF := hF.rely (fun _ h => by rw [ho2]; exact h) h₁
    clear h₁
    go_simp
    refine hK _ _ ⟨_, GO.idle (by rw [listed_nil (by simp [go_sem])]; simp), ?_⟩
    clear hK K
    try walk_nrm
    refine GoesO.op rfl rfl (by decide) fun w₁ h₁ K hK => ?_
    replace hF := hF.rely (fun _ h => by rw [ho2]; exact h) h₁
    clear h₁
    go_simp
    refine hK _ _ ⟨_, GO.idle (by rw [listed_nil (by simp [go_sem])]; simp), ?_⟩
    clear hK K
    try walk_nrm
    refine GoesO.ctl rfl (fun _ => stepG_region_end) ?_
    refine GoesO.ctl rfl (fun _ => stepG_inLoop) ?_
    have e : IntKind.i64.wrap ((j : Int) + 1) = ((j + 1 : Nat) : Int) := by rw [IntKind.wrap_i64]; omega
    simp only [e]
    subst hs2
    have := fun v9 v11 v7 v8 v15 v16 v17 v18 v19 v20 v21 v22 v23 => hnext v9 v11 v7 v8 v15 v16 v17 v18 v19 v20 v21 v22 v23 _ hF
    rw [show 2 * (j + 1) = 2 * j + 1 + 1 by omega] at this
    simp only [TH] at this
    exact this _ _ _ _ _ _ _ _ _ _ _ _ _
end
end Go.Sf

/-! The phase, part 21: all rounds, and Wait -/
namespace Go.Sf
open Go Go.Conc Go.Proofs Go.Conc.Lib
open Go.ConcN (ShN WgLive PayAt Has)
open Go.RowKit Go.ConcR.Gen Go.ConcN.Gen
open Go.ConcR (KK WgAt stA smA rd wr mk Payload)
section
variable [Payload] {P : Program} {ty : TypeId} {Wg C n : Nat} {Fin Fin' Anch Anch' : OSt → Goroutine → World → Prop} {s : OSt} {g : Goroutine} {w : World}
theorem AtAcq.mono (hf : ∀ s g w, Fin s g w → Fin' s g w) (h : AtAcq P Wg Fin s g w) : AtAcq P Wg Fin' s g w := let ⟨h1, g', h2, h3⟩ := h; ⟨h1, g', h2, hf _ _ _ h3⟩
theorem AtKe.mono (hf : ∀ s g w, Fin s g w → Fin' s g w) (h : AtKe P ty Wg C n Fin s g w) : AtKe P ty Wg C n Fin' s g w := let ⟨h1, g', h2, m, h3⟩ := h; ⟨h1, g', h2, m, h3.weak fun _ _ _ x => AtAcq.mono hf x⟩
theorem AtW4.mono (hf : ∀ s g w, Fin s g w → Fin' s g w) (h : AtW4 P ty Wg C n Fin s g w) : AtW4 P ty Wg C n Fin' s g w := ⟨h.1, fun hw => let ⟨g', h2, m, h3⟩ := h.2 hw; ⟨g', h2, m, h3.weak fun _ _ _ x => AtKe.mono hf x⟩⟩
theorem AtW3.mono (hf : ∀ s g w, Fin s g w → Fin' s g w) (h : AtW3 P ty Wg C n Fin s g w) : AtW3 P ty Wg C n Fin' s g w := ⟨h.1, h.2.1, h.2.2.1, fun hw => let ⟨g', h2, m, h3⟩ := h.2.2.2 hw; ⟨g', h2, m, h3.weak fun _ _ _ x => AtW4.mono hf x⟩⟩
theorem AtW2.mono {vs : Nat} (hf : ∀ s g w, Fin s g w → Fin' s g w) (ha : ∀ s g w, Anch s g w → Anch' s g w) (h : AtW2 P ty Wg C n Fin Anch vs s g w) : AtW2 P ty Wg C n Fin' Anch' vs s g w :=
  ⟨h.1, fun v h1 h2 => ⟨fun e => let ⟨g', h3, m, h4⟩ := (h.2 v h1 h2).1 e; ⟨g', h3, m, h4.weak fun _ _ _ x => AtW3.mono hf x⟩, fun e => let ⟨g', h3, m, h4⟩ := (h.2 v h1 h2).2 e; ⟨g', h3, m, h4.weak ha⟩⟩⟩
theorem AtKd.mono (ha : ∀ s g w, Anch s g w → Anch' s g w) (h : AtKd P ty Wg C n Anch s g w) : AtKd P ty Wg C n Anch' s g w := let ⟨h1, g', h2, m, h3⟩ := h; ⟨h1, g', h2, m, h3.weak ha⟩
theorem AtW1.mono (hf : ∀ s g w, Fin s g w → Fin' s g w) (ha : ∀ s g w, Anch s g w → Anch' s g w) (h : AtW1 P ty Wg C n Fin Anch s g w) : AtW1 P ty Wg C n Fin' Anch' s g w :=
  ⟨h.1, fun v h1 h2 => let ⟨g', h3, h4, h5⟩ := h.2 v h1 h2; ⟨g', h3, fun e => let ⟨m, h6⟩ := h4 e; ⟨m, h6.weak fun _ _ _ x => AtKe.mono hf x⟩, fun e => let ⟨m, h6⟩ := h5 e; ⟨m, h6.weak fun _ _ _ x => AtW2.mono hf ha x⟩⟩⟩
end
noncomputable def ops9 : Array Oper := match end32 with | .seq (.region _ ops _) _ => ops | _ => #[]
noncomputable def last32 : Code := match end32 with | .seq _ c => c | _ => .skip
section
variable [Payload] (Wg C n Bm Bs cap : Nat) (x : Option Nat) (y : Option Addr) (oS : Nat → Nat) (wB : World) (t3 : Value) (rest : List Value) (cs : List Frame)
/-- at the loop in Wait -/
def AnchP (s : OSt) (g : Goroutine) (w : World) : Prop := ∃ v9 v11 v7 v8 v15 v16 v17 v18 v19 v20 v21 v22 v23,
  AnchO Try.link (SK Wg C n oS wB) ⟨oS, 2 * n⟩ Wg ((base 32).at ⟨TH Bm Bs Wg x y n cap n t3 rest v9 v11 v7 v8 v15 v16 v17 v18 v19 v20 v21 v22 v23, []⟩ (.inRegion ops9 (0 :: []) :: [.code last32])) cs s g w
/-- behind the join -/
def FinPP (s : OSt) (g : Goroutine) (w : World) : Prop := ∃ v9 v11 v7 v8 v15 v16 v17 v18 v19 v20 v21 v22 v23,
  FinW Try.prog (SK Wg C n oS wB) ⟨oS, 2 * n⟩ (G ((base 32).at (Act.put ⟨TH Bm Bs Wg x y n cap n t3 rest v9 v11 v7 v8 v15 v16 v17 v18 v19 v20 v21 v22 v23, []⟩ ((ops9[0]?).bind (·.dst)) (.tuple #[])) (.inRegion ops9 [] :: [.code last32])) cs) s g w
end
section
variable [Payload] {Wg C n Bm Bs cap : Nat} {x : Option Nat} {y : Option Addr} {D : Nat → ChkD} {oS : Nat → Nat} {wB : World} {t3 : Value} {rest : List Value} {cs : List Frame}
theorem anchP_running (s : OSt) (g : Goroutine) (w : World) (h : AnchP Wg C n Bm Bs cap x y oS wB t3 rest cs s g w) : g.status = .running := by
  obtain ⟨v9, v11, v7, v8, v15, v16, v17, v18, v19, v20, v21, v22, v23, -, T, rfl, -⟩ := h
  rfl
theorem anchP_round (hB : SB Wg C n Bm Bs x y D oS wB) (s : OSt) (g : Goroutine) (w : World) (h : AnchP Wg C n Bm Bs cap x y oS wB t3 rest cs s g w) :
    ∃ m, GoesO 91 Wg C n Try.prog true none (AtW1 Try.prog 91 Wg C n (FinPP Wg C n Bm Bs cap x y oS wB t3 rest cs) (AnchP Wg C n Bm Bs cap x y oS wB t3 rest cs)) m s g w := by
  obtain ⟨v9, v11, v7, v8, v15, v16, v17, v18, v19, v20, v21, v22, v23, h⟩ := h
  obtain ⟨m, hm⟩ := waitRoundO (L := Try.link) (P := Try.prog) (C := C) (n := n) Try.wgLib (fun w w₁ h r => h.rely (fun _ => id) r) (fun w w₁ h ⟨d, e⟩ => e ▸ h.rely (o := oS) (fun _ => id) (RO.at d : RO 91 Wg C n none oS w (w.at d))) (fun w h => h.live) (fun w a v h ha hl => h.wg hB ha hl) s g w h
  exact ⟨m, hm.weak fun s g w q => AtW1.mono (fun s g w q => ⟨v9, v11, v7, v8, v15, v16, v17, v18, v19, v20, v21, v22, v23, q⟩) (fun s g w q => ⟨v9, v11, v7, v8, v15, v16, v17, v18, v19, v20, v21, v22, v23, q⟩) q⟩
/-- where the way from the loop's head leads, with r rounds to go -/
def StopR (Wg C n Bm Bs cap : Nat) (x : Option Nat) (y : Option Addr) (oS : Nat → Nat) (wB : World) (t3 : Value) (rest : List Value) (cs : List Frame) (val : Nat → Value) : Nat → OSt → Goroutine → World → Prop
  | 0 => AtKd Try.prog 91 Wg C n (AnchP Wg C n Bm Bs cap x y oS wB t3 rest cs)
  | r + 1 => AtKdS Try.prog 91 Wg C n val (n - (r + 1)) (Spawns Try.prog 91 Wg C n val (FinS Try.prog 91 Wg C n (AnchP Wg C n Bm Bs cap x y oS wB t3 rest cs)) r)
theorem spawns_of {val : Nat → Value} {r : Nat} {s : OSt} {g : Goroutine} {w : World} (h : ∃ m, GoesO 91 Wg C n Try.prog true none (StopR Wg C n Bm Bs cap x y oS wB t3 rest cs val r) m s g w) : Spawns Try.prog 91 Wg C n val (FinS Try.prog 91 Wg C n (AnchP Wg C n Bm Bs cap x y oS wB t3 rest cs)) r s g w := by
  cases r with
  | zero => exact h
  | succ r => exact h
set_option maxRecDepth 100000 in
set_option maxHeartbeats 4000000 in
theorem lastRound {val : Nat → Value} : ∃ m, ∀ (v9 v11 v7 v8 v15 v16 v17 v18 v19 v20 v21 v22 v23 : Value) (w : World), SK Wg C n oS wB w → GoesO 91 Wg C n Try.prog true none (StopR Wg C n Bm Bs cap x y oS wB t3 rest cs val 0) m ⟨oS, 2 * n⟩
    (G ((base 32).at ⟨TH Bm Bs Wg x y n cap n t3 rest v9 v11 v7 v8 v15 v16 v17 v18 v19 v20 v21 v22 v23, []⟩ [.code loop32, .inLoop loop32, .inBlock 0, .code end32]) cs) w := by
  refine ⟨3 + 10, ?_⟩
  intro v9 v11 v7 v8 v15 v16 v17 v18 v19 v20 v21 v22 v23 w hF
  have hlt : ¬ (n : Int) < (n : Int) := by omega
  generalize hl32 : Item.inLoop loop32 = il
  have hx32 : exitTo 0 [Item.inBlock 0, Item.code end32] = some [Item.code end32] := rfl
  generalize he32 : Item.code end32 = ie at hx32 ⊢
  simp only [loop32, rest32, body32, Try.f32, Option.getD_some, TH]
  refine GoesO.ctl rfl (fun _ => stepG_seq) ?_
  refine GoesO.ctl rfl (fun _ => stepG_region) ?_
  simp only [List.size_toArray, List.length_cons, List.length_nil, Nat.reduceAdd, Nat.zero_add, List.range, List.range.loop]
  refine GoesO.op rfl rfl (by decide) fun w₁ h₁ K hK => ?_
  replace hF := hF.rely (fun _ => id) h₁
  clear h₁
  go_simp
  refine hK _ _ ⟨_, GO.idle (by rw [listed_nil (by simp [go_sem])]; simp), ?_⟩
  clear hK K
  try walk_nrm
  refine GoesO.ctl rfl (fun _ => stepG_region_end) ?_
  refine GoesO.ctl rfl (fun _ => stepG_seq) ?_
  refine GoesO.ctl rfl (fun _ => stepG_cond (t := false) (by simp [Act.eval])) ?_
  simp only [if_true, if_false, Bool.false_eq_true, ↓reduceIte]
  subst hl32
  refine GoesO.ctl rfl (fun _ => stepG_exit (k' := [ie]) rfl) ?_
  subst he32
  clear hx32
  simp only [end32, rest32, body32, Try.f32, Option.getD_some]
  refine GoesO.ctl rfl (fun _ => stepG_seq) ?_
  refine GoesO.ctl rfl (fun _ => stepG_region) ?_
  simp only [List.size_toArray, List.length_cons, List.length_nil, Nat.reduceAdd, Nat.zero_add, List.range, List.range.loop]
  refine GoesO.step rfl fun w₆ h₆ => goes_call (c := body_wait Try.link) rfl rfl (by decide) rfl Try.wgLib.f_wait (nm_wait Try.link) rfl ⟨_, GO.idle (by simp), ?_⟩
  replace hF := hF.rely (fun _ => id) h₆
  clear h₆
  have hnt : (waitFn Try.link).ntmps = 84 := rfl
  walk_nrm
  simp only [hnt, Nat.reduceSub, Array.replicate_succ, Array.replicate_zero, List.push_toArray, List.append_toArray, List.nil_append, List.cons_append]
  have hw := waitStartO (FinP := fun _ _ _ => True) (L := Try.link) (P := Try.prog) (C := C) (n := n) (F := SK Wg C n oS wB) (s := ⟨oS, 2 * n⟩) (b₀ := base 32) (a₀ := ⟨TH Bm Bs Wg x y n cap n t3 rest v9 v11 v7 v8 (.bool false) v16 v17 v18 v19 v20 v21 v22 v23, []⟩) (ops₀ := ops9) (i₀ := 0) (rest₀ := []) (k₀ := [.code last32]) (cs := cs) Try.wgLib (fun w w₁ h r => h.rely (fun _ => id) r) w₆ hF
  exact hw.weak fun s g w q => AtKd.mono (fun s g w q => ⟨v9, v11, v7, v8, _, v16, v17, v18, v19, v20, v21, v22, v23, q⟩) q
theorem rounds {val : Nat → Value} (hB : SB Wg C n Bm Bs x y D oS wB) (hn : n ≤ 16) (hval : ∀ j, j < n → val j = bad1 (D j).sum (D j).l (D j).fnd) :
    ∀ r, r ≤ n → ∃ m, ∀ (v9 v11 v7 v8 v15 v16 v17 v18 v19 v20 v21 v22 v23 : Value) (w : World), SK Wg C n oS wB w → GoesO 91 Wg C n Try.prog true none (StopR Wg C n Bm Bs cap x y oS wB t3 rest cs val r) m ⟨oS, 2 * (n - r)⟩
      (G ((base 32).at ⟨TH Bm Bs Wg x y n cap (n - r) t3 rest v9 v11 v7 v8 v15 v16 v17 v18 v19 v20 v21 v22 v23, []⟩ [.code loop32, .inLoop loop32, .inBlock 0, .code end32]) cs) w := by
  intro r
  induction r with
  | zero => exact fun _ => lastRound
  | succ r ih =>
    intro hr
    have e : n - (r + 1) + 1 = n - r := by omega
    have := round32 (cap := cap) (val := val) (j := n - (r + 1)) hB hn (by omega) (hval _ (by omega)) (fun s g w h => spawns_of (val := val) (r := r) h) (by rw [e]; exact ih (by omega))
    exact this
end
end Go.Sf

/-! The phase, part 22: badOf, whole -/
namespace Go.Sf
open Go Go.Conc Go.Proofs Go.Conc.Lib
open Go.ConcN (ShN WgLive PayAt Has sumTo)
open Go.ConcR (KK WgAt stA smA rd wr mk Payload DC0)
theorem past_mono {Sh : Loc → Prop} {B B' : Nat} {t : Trace} (h : Past Sh B t) (hB : B ≤ B') : Past Sh B' t := ⟨h.clean, h.known, h.over, h.hears, fun op ho => MemAct.low_mono hB (h.seen op ho)⟩
/-- a walk in the kit's words, beside those who leave -/
theorem Wins.of_walk {P : Program} {Post : Value → World → Prop} {S : Nat → Nat} {D : World → World → Array Event → Prop} {Stop : Goroutine → World → Prop} {n B : Nat} {a : Goroutine} {w : World} (hB : w.heap.size ≤ B) (hD : ∀ w w' es, D w w' es → ∀ e ∈ es, EvL (ShunS S) B e) (hG : Goes P true Go.Conc.AtRel D Stop n a w)
    (h : ∀ a' w', Stop a' w' → ∀ (gs : Array Goroutine) (sl : Option (Nat × Nat)) (t : Trace) (q : Nat → Nat) (d : Nat), gs[0]? = some a' → Leavers P t gs q → Past (ShunS S) B t → Wins0 P Post (crowd gs (w'.at d) sl) t) : Wins P Post S a w := by
  intro gs sl t q d h0 hL hP
  obtain ⟨N, gs', a', w', sl', t', q', hr, -, h0', hS, hL', hP'⟩ := walk_beside (Shun := ShunS S) hD _ n gs a (w.at d) sl t q (Nat.le_refl _) h0 hL (past_mono hP hB) (hG.rely atRel_trans ⟨d, rfl⟩)
  exact Wins0.after hr (h a' w' hS gs' sl' t' q' w'.drawn h0' hL' hP')
theorem Wins.shun {P : Program} {Post : Value → World → Prop} {S S' : Nat → Nat} {a : Goroutine} {w : World} (hS : ∀ b, S b = 1 → S' b = 1) (h : Wins P Post S' a w) : Wins P Post S a w := by
  intro gs sl t q d h0 hL hP
  refine h gs sl t q d h0 hL ⟨hP.clean, fun i a ha hm => (hP.known i a ha hm).imp_right fun ⟨h1, h2⟩ => ⟨?_, h2⟩, hP.over, hP.hears, hP.seen⟩
  cases hl : a.loc with
  | cell ad => rw [hl] at h1; exact hS _ h1
  | obj b => rw [hl] at h1; exact hS _ h1
  | _ => rw [hl] at h1; exact h1.elim
/-- what may be read in the world -/
def oW (S : Nat → Nat) (w : World) (b : Nat) : Nat := if b < w.heap.size ∧ S b ≠ 1 then 1 else 0
def oP (S : Nat → Nat) (w : World) (b : Nat) : Nat := if b = w.heap.size ∨ b = w.heap.size + 2 then 1 else oW S w b
theorem oW_ne {S : Nat → Nat} {w : World} {b : Nat} (h : oW S w b ≠ 0) : b < w.heap.size ∧ S b ≠ 1 := by
  unfold oW at h
  split at h
  · assumption
  · exact (h rfl).elim
/-- the world behind badOf -/
structure After32 (w0 : World) (n : Nat) (val : Nat → Value) (w : World) : Prop where
  tape : w.tape = w0.tape
  os : w.os = w0.os
  output : w.output = w0.output
  size : w.heap.size = w0.heap.size + 4 + 3 * n
  low : ∀ b, b < w0.heap.size → w.heap[b]? = w0.heap[b]?
  rows : ∀ b, w0.heap.size ≤ b → b < w.heap.size → ∃ cs e fr, w.heap[b]? = some (.cells cs e fr)
  row : ∃ arr, w.heap[w0.heap.size + 1]? = some (.cells arr 4) ∧ arr.size = n ∧ ∀ i, i < n → arr[i]? = some (val i)
noncomputable def ops3 : Array Oper := match rest32 with | .seq (.seq (.region _ ops _) _) _ => ops | _ => #[]
section
variable [Payload] {Wg C n B cap : Nat} {x : Option Nat} {y : Option Addr} {oS : Nat → Nat} {wB : World} {cs : List Frame} {v9 v10 v11 t3 : Value} {rest : List Value}
set_option maxRecDepth 100000 in
set_option maxHeartbeats 4000000 in
theorem toHead {t7 t8 t12 t13 t14 t15 t16 t17 t18 t19 t20 t21 t22 t23 : Value} {X : OSt → Goroutine → World → Prop} {m : Nat} (h : ∀ (v9 v11 v7 v8 v15 v16 v17 v18 v19 v20 v21 v22 v23 : Value) (w : World), SK Wg C n oS wB w → GoesO 91 Wg C n Try.prog true none X m ⟨oS, 0⟩
      (G ((base 32).at ⟨TH B (B + 2) (B + 3) x y n cap 0 t3 rest v9 v11 v7 v8 v15 v16 v17 v18 v19 v20 v21 v22 v23, []⟩ [.code loop32, .inLoop loop32, .inBlock 0, .code end32]) cs) w) (w : World) (hF : SK Wg C n oS wB w) :
    GoesO 91 Wg C n Try.prog true none X (m + 9) ⟨oS, 0⟩ (G ((base 32).at ⟨T32 B (.map x) y n cap v9 (.int .i64 n) v11 t3 t7 t8 t12 t13 t14 t15 t16 t17 t18 t19 t20 t21 t22 t23 rest, []⟩ [.code rest32]) cs) w := by
  have h' := h
  clear h
  generalize hl : loop32 = L at h'
  generalize he : end32 = E at h'
  have hr : rest32 = .seq (.seq (.region 3 ops3 false) (.block 0 (.loop L))) E := by
    subst hl he
    rfl
  rw [hr]
  clear hr hl he
  simp only [T32, ops3, rest32, body32, Try.f32, Option.getD_some]
  refine GoesO.ctl rfl (fun _ => stepG_seq) ?_
  refine GoesO.ctl rfl (fun _ => stepG_seq) ?_
  refine GoesO.ctl rfl (fun _ => stepG_region) ?_
  simp only [List.size_toArray, List.length_cons, List.length_nil, Nat.reduceAdd, Nat.zero_add, List.range, List.range.loop]
  refine GoesO.op rfl rfl (by decide) fun w₁ h₁ K hK => ?_
  replace hF := hF.rely (fun _ => id) h₁
  clear h₁
  go_simp
  refine hK _ _ ⟨_, GO.idle (by rw [listed_nil (by simp [go_sem])]; simp), ?_⟩
  clear hK K
  try walk_nrm
  refine GoesO.op rfl rfl (by decide) fun w₁ h₁ K hK => ?_
  replace hF := hF.rely (fun _ => id) h₁
  clear h₁
  go_simp
  refine hK _ _ ⟨_, GO.idle (by rw [listed_nil (by simp [go_sem])]; simp), ?_⟩
  clear hK K
  try walk_nrm
  refine GoesO.op rfl rfl (by decide) fun w₁ h₁ K hK => ?_
  replace hF := hF.rely (fun _ => id) h₁
  clear h₁
  go_simp
  refine hK _ _ ⟨_, GO.idle (by rw [listed_nil (by simp [go_sem])]; simp), ?_⟩
  clear hK K
  try walk_nrm
  refine GoesO.ctl rfl (fun _ => stepG_region_end) ?_
  refine GoesO.ctl rfl (fun _ => stepG_block) ?_
  refine GoesO.ctl rfl (fun _ => stepG_loop) ?_
  have h2 := fun v9 v11 v7 v8 v15 v16 v17 v18 v19 v20 v21 v22 v23 => h' v9 v11 v7 v8 v15 v16 v17 v18 v19 v20 v21 v22 v23 _ hF
  simp only [TH] at h2
  exact h2 _ _ _ _ _ _ _ _ _ _ _ _ _
set_option maxRecDepth 100000 in
set_option maxHeartbeats 4000000 in
/-- behind Wait: the row comes back -/
theorem leave32 {S : Nat → Nat} {v7 v8 v15 v16 v17 v18 v19 v20 v21 v22 v23 r : Value} {c : Frame} {w : World} (hc : w.cell? ⟨B + 2, 0, none⟩ = some r) (hS : S (B + 2) ≠ 1) (hsz : B + 2 < w.heap.size) :
    Goes Try.prog true Go.Conc.AtRel (DA S w.heap.size) (fun g w' => g = gor (c.finish r) cs ∧ ∃ d, w' = w.at d) 10 (G ((base 32).at (Act.put ⟨TH B (B + 2) (B + 3) x y n cap n t3 rest v9 v11 v7 v8 v15 v16 v17 v18 v19 v20 v21 v22 v23, []⟩ ((ops9[0]?).bind (·.dst)) (.tuple #[])) (.inRegion ops9 [] :: [.code last32])) (c :: cs)) w := by
  have hF : ∃ d, w = w.at d := ⟨w.drawn, rfl⟩
  simp only [ops9, last32, end32, rest32, body32, Try.f32, Option.getD_some, TH]
  walk_nrm
  refine goesA_ctl rfl (fun _ => stepG_region_end) ?_
  refine goesA_ctl rfl (fun _ => stepG_seq) ?_
  refine goesA_ctl rfl (fun _ => stepG_region) ?_
  simp only [List.size_toArray, List.length_cons, List.length_nil, Nat.reduceAdd, Nat.zero_add, List.range, List.range.loop]
  refine goesA_op rfl rfl (by decide) fun w₁ h₁ K hK => ?_
  obtain ⟨d, rfl⟩ := h₁
  have hc' : (w.at d).cell? ⟨B + 2, 0, none⟩ = some r := hc
  go_simp
  refine hK _ _ ⟨?_, ?_⟩
  · intro e he
    have hm := mem_listed he
    simp [go_sem, hc'] at hm
    subst hm
    exact evL_cell _ _ hS hsz
  clear hK K hc'
  try walk_nrm
  refine goesA_op rfl rfl (by decide) fun w₁ h₁ K hK => ?_
  obtain ⟨d, rfl⟩ := h₁
  go_simp
  refine hK _ _ ⟨by rw [listed_nil (by simp [go_sem])]; simp [DA], ?_⟩
  clear hK K
  try walk_nrm
  refine goesA_ctl rfl (fun _ => stepG_region_end) ?_
  refine goesA_ctl rfl (fun _ => stepG_ret') ?_
  refine Goes.step rfl fun w₁ h₁ => ?_
  obtain ⟨d, rfl⟩ := h₁
  rw [stepG_leave (b := base 32) rfl rfl Try.func32 (results_tmp (t := 4) rfl _ _ _) (events_results_tmp (t := 4) rfl _ _)]
  refine ⟨by simp [DA], Goes.stop fun w₂ h₂ => ⟨rfl, ?_⟩⟩
  obtain ⟨d, rfl⟩ := h₂
  exact ⟨d, rfl⟩
end
end Go.Sf

/-! The phase, part 23: badOf wins -/
namespace Go.Sf
open Go Go.Conc Go.Proofs Go.Conc.Lib
open Go.ConcN (ShN WgLive PayAt Has sumTo)
open Go.ConcR (KK WgAt stA smA rd wr mk Payload DC0)
theorem goes_still {P : Program} {Stop : Goroutine → World → Prop} : ∀ (m : Nat) (g : Goroutine) (w w0 : World), (∃ d, w = w0.at d) → Goes P true Go.Conc.AtRel DC0 Stop m g w → Goes P true Go.Conc.AtRel DC0 (fun g' w' => Stop g' w' ∧ ∃ d, w' = w0.at d) m g w
  | 0, g, w, w0, hw, h => fun w₁ h₁ => ⟨h w₁ h₁, by obtain ⟨d, rfl⟩ := hw; obtain ⟨d', rfl⟩ := h₁; exact ⟨d', rfl⟩⟩
  | m + 1, g, w, w0, hw, h => by
    rcases h with h | ⟨hs, h⟩
    · exact .inl fun w₁ h₁ => ⟨h w₁ h₁, by obtain ⟨d, rfl⟩ := hw; obtain ⟨d', rfl⟩ := h₁; exact ⟨d', rfl⟩⟩
    · refine .inr ⟨hs, fun w₁ h₁ => ?_⟩
      have h2 := h w₁ h₁
      revert h2
      cases stepG P true g w₁ <;> simp only [GStep.goes, imp_self]
      rintro ⟨⟨rfl, he⟩, x⟩
      exact ⟨⟨rfl, he⟩, goes_still m _ _ w0 (by obtain ⟨d, rfl⟩ := hw; obtain ⟨d', rfl⟩ := h₁; exact ⟨d', rfl⟩) x⟩
theorem sumTo_one : ∀ (n : Nat) (f : Nat → Nat), (∀ i, i < n → f i = 1) → sumTo n f = n
  | 0, _, _ => rfl
  | n + 1, f, h => by
    show sumTo n f + f n = n + 1
    rw [sumTo_one n f fun i hi => h i (by omega), h n (by omega)]
theorem opening_SB [Payload] {S : Nat → Nat} {w0 wB : World} {n : Nat} {x : Option Nat} {y : Option Addr} {D : Nat → ChkD}
    (hchk : ∀ j, j < n → (∃ b off, y = some ⟨b, off, none⟩ ∧ oW S w0 b ≠ 0 ∧ w0.cell? ⟨b, off + j * 2, none⟩ = some (.int .i64 (D j).id) ∧ w0.cell? ⟨b, off + j * 2 + 1, none⟩ = some (.int .i64 (D j).sum)) ∧
      Looks (oW S w0) (.map x) (D j).id (.agg #[.int .i64 (D j).u, .slice (D j).base (D j).l.length (D j).cap, .int .i64 (D j).q]) (D j).fnd w0 ∧ HB (oW S w0) (D j).base (D j).l w0)
    (hG : Grown w0 [.cells #[.map x] 56, .cells (madeCells #[.bool false] n) 4, .cells #[.slice (some ⟨w0.heap.size + 1, 0, none⟩) n n] 60, .cells #[.int .u64 0, .int .u32 0] 91] wB) :
    SB (w0.heap.size + 3) (w0.heap.size + 1) n w0.heap.size (w0.heap.size + 2) x y D (oP S w0) wB := by
  have up : ∀ b, oW S w0 b ≠ 0 → oP S w0 b ≠ 0 := fun b hb => by unfold oP; split <;> omega
  have kp : ∀ b, oW S w0 b ≠ 0 → wB.heap[b]? = w0.heap[b]? := fun b hb => hG.low (oW_ne hb).1
  have hsz := hG.size
  simp only [List.length_cons, List.length_nil, Nat.zero_add, Nat.reduceAdd] at hsz
  have z : ∀ k, k = 1 ∨ k = 3 → oP S w0 (w0.heap.size + k) = 0 := fun k hk => by unfold oP oW; rw [if_neg (by omega), if_neg (by omega)]
  refine ⟨by simp [oP], by simp [oP], z 3 (.inr rfl), z 1 (.inl rfl), by omega, fun b h => ?_, fun b hb => ?_, by omega, by omega, (row_cell (hG.get (k := 0) rfl)).trans rfl, (row_cell (hG.get (k := 2) rfl)).trans rfl, fun j hj => ?_⟩
  · unfold oP oW at h
    split at h
    · cases h
    · split at h <;> cases h
  · unfold oP at hb
    split at hb
    · omega
    · have := (oW_ne hb).1
      omega
  · obtain ⟨⟨b, off, e1, e2, e3, e4⟩, h2, h3⟩ := hchk j hj
    exact ⟨⟨b, off, e1, up b e2, (cell_keep (kp b e2)).trans e3, (cell_keep (kp b e2)).trans e4⟩, h2.keep (by omega) kp up, ⟨fun k hk => let ⟨b, off, e1, e2, e3⟩ := h3.get k hk; ⟨b, off, e1, up b e2, (cell_keep (kp b e2)).trans e3⟩⟩⟩
theorem after32 [Payload] (he : Payload.ety = 4) {w0 wB w : World} {n : Nat} {x : Option Nat} {val : Nat → Value} {s : OSt} {Os : Nat → OSt} {st sm : Int}
    (hG : Grown w0 [.cells #[.map x] 56, .cells (madeCells #[.bool false] n) 4, .cells #[.slice (some ⟨w0.heap.size + 1, 0, none⟩) n n] 60, .cells #[.int .u64 0, .int .u32 0] 91] wB)
    (hK : Kept (w0.heap.size + 3) (w0.heap.size + 1) wB w n s Os) (hs : s.c = 2 * n) (h1 : ∀ i, i < n → (Os i).c = 1) (hp : PayAt (w0.heap.size + 1) n w) (hh : ∀ i, i < n → Has (w0.heap.size + 1) i (val i) w) (hw : WgAt 91 (w0.heap.size + 3) w st sm) : After32 w0 n val w := by
  have hsz := hG.size
  simp only [List.length_cons, List.length_nil, Nat.zero_add, Nat.reduceAdd] at hsz
  have hcnt := hK.cnt
  rw [sumTo_one n _ h1, hs, hsz] at hcnt
  obtain ⟨arr, hp1, hp2⟩ := hp
  refine ⟨hK.tape.trans hG.tape, hK.os.trans hG.os, hK.output.trans hG.output, by omega, fun b hb => ?_, fun b hb1 hb2 => ?_, arr, he ▸ hp1, hp2, fun i hi => ?_⟩
  · rw [hK.base b (by omega) (by omega) (by omega)]
    exact hG.low hb
  · rcases Nat.lt_or_ge b wB.heap.size with h | h
    · by_cases e1 : b = w0.heap.size + 1
      · subst e1; exact ⟨_, _, _, hp1⟩
      · by_cases e3 : b = w0.heap.size + 3
        · subst e3; exact ⟨_, _, _, hw⟩
        · rw [hK.base b h e1 e3]
          have : b = w0.heap.size + 0 ∨ b = w0.heap.size + 2 := by omega
          rcases this with rfl | rfl
          · exact ⟨_, _, _, hG.get (k := 0) rfl⟩
          · exact ⟨_, _, _, hG.get (k := 2) rfl⟩
    · exact hK.rows b h hb2
  · have := hh i hi
    unfold Has at this
    rw [row_cell hp1] at this
    exact this
set_option maxHeartbeats 1000000 in
/-- **badOf**: its phase comes to its end, and the row holds every answer -/
theorem badOf_wins {Post : Value → World → Prop} {S : Nat → Nat} {w0 : World} {n cap : Nat} {x : Option Nat} {y : Option Addr} {D : Nat → ChkD} {c : Frame} {cs : List Frame} {args : Array Value} {t2 t3 t4 t5 t6 t7 t8 t9 t10 t11 t12 t13 t14 t15 t16 t17 t18 t19 t20 t21 t22 t23 : Value} {rest : List Value} (hargs : args ++ Array.replicate (24 - args.size) undef = (.map x :: .slice y n cap :: t2 :: t3 :: t4 :: t5 :: t6 :: t7 :: t8 :: t9 :: t10 :: t11 :: t12 :: t13 :: t14 :: t15 :: t16 :: t17 :: t18 :: t19 :: t20 :: t21 :: t22 :: t23 :: rest).toArray) (hn : n ≤ 16) (hS : ∀ b, w0.heap.size ≤ b → S b ≠ 1)
    (hchk : ∀ j, j < n → (∃ b off, y = some ⟨b, off, none⟩ ∧ oW S w0 b ≠ 0 ∧ w0.cell? ⟨b, off + j * 2, none⟩ = some (.int .i64 (D j).id) ∧ w0.cell? ⟨b, off + j * 2 + 1, none⟩ = some (.int .i64 (D j).sum)) ∧
      Looks (oW S w0) (.map x) (D j).id (.agg #[.int .i64 (D j).u, .slice (D j).base (D j).l.length (D j).cap, .int .i64 (D j).q]) (D j).fnd w0 ∧ HB (oW S w0) (D j).base (D j).l w0)
    (hcont : ∀ S2 w2, (∀ b, S2 b = if b = w0.heap.size + 3 then 1 else S b) → After32 w0 n (fun j => bad1 (D j).sum (D j).l (D j).fnd) w2 → Wins Try.prog Post S2 (gor (c.finish (.slice (some ⟨w0.heap.size + 1, 0, none⟩) n n)) cs) w2) :
    Wins Try.prog Post S (gor (Frame.enter Try.prog 32 args .normal) (c :: cs)) w0 := by
  letI : Payload := ⟨4⟩
  refine Wins.of_walk (B := w0.heap.size + 3) (by omega) (fun _ _ _ h => h) (opening hargs hn hS) ?_
  rintro a' wB ⟨rfl, hG⟩
  have hsz := hG.size
  simp only [List.length_cons, List.length_nil, Nat.zero_add, Nat.reduceAdd] at hsz
  have hB := opening_SB hchk hG
  have hpay : PayAt (w0.heap.size + 1) n wB := ⟨_, hG.get (k := 1) rfl, size_madeCells _ _⟩
  have hwg : WgAt 91 (w0.heap.size + 3) wB 0 0 := hG.get (k := 3) rfl
  have hk : SK (w0.heap.size + 3) (w0.heap.size + 1) n (oP S w0) wB wB := ⟨Nat.le_refl _, fun _ _ => rfl, ⟨0, 0, hwg⟩, hpay⟩
  obtain ⟨m, hm⟩ := rounds (cap := cap) (t3 := t3) (rest := rest) (cs := c :: cs) (val := fun j => bad1 (D j).sum (D j).l (D j).fnd) hB hn (fun _ _ => rfl) n (Nat.le_refl _)
  rw [Nat.sub_self] at hm
  have hsp := spawns_of ⟨m + 9, toHead (t7 := t7) (t8 := t8) (t12 := t12) (t13 := t13) (t14 := t14) (t15 := t15) (t16 := t16) (t17 := t17) (t18 := t18) (t19 := t19) (t20 := t20) (t21 := t21) (t22 := t22) (t23 := t23) (v9 := .slice y n cap) (v11 := .slice (some ⟨w0.heap.size + 1, 0, none⟩) n n) hm wB hk⟩
  refine wins_phase (ty := 91) (by omega) anchP_running (anchP_round hB) (Nat.le_refl _) (by omega) (by omega) (by omega) (hS _ (by omega)) (fun b hb => ?_) hB.one rfl hwg hpay hsp ?_
  · have h1 := hB.low b hb
    refine ⟨h1, fun e => hb (e ▸ hB.nW), fun e => hb (e ▸ hB.nC), ?_⟩
    have hb' : oP S w0 b ≠ 0 := hb
    unfold oP at hb'
    split at hb'
    · exact hS _ (by omega)
    · exact (oW_ne hb').2
  · intro a' w' s Os S' hS' hF hK h1 hp hh ho
    obtain ⟨v9, v11, v7, v8, v15, v16, v17, v18, v19, v20, v21, v22, v23, rfl, hFw, mg, hg⟩ := hF
    obtain ⟨st, sm, hlive⟩ := hFw.live
    have hA := after32 rfl hG hK rfl h1 hp hh hlive
    refine Wins.of_walk (B := w'.heap.size) (Nat.le_refl _) (D := DC0) (fun _ _ _ h => by rw [h.2]; simp) (goes_still mg _ _ w' ⟨w'.drawn, rfl⟩ hg) ?_
    rintro a2 w2 ⟨⟨rfl, hF2⟩, d, rfl⟩
    have hc : w'.cell? ⟨w0.heap.size + 2, 0, none⟩ = some (.slice (some ⟨w0.heap.size + 1, 0, none⟩) n n) := (cell_keep (w := wB) (hFw.keep _ hB.os)).trans hB.row
    have hs2 : S' (w0.heap.size + 2) ≠ 1 := by rw [hS', if_neg (by omega)]; exact hS _ (by omega)
    have hlt : w0.heap.size + 2 < w'.heap.size := by have := hA.size; omega
    refine Wins.of_walk (Post := Post) (B := w'.heap.size) (Nat.le_refl _) (D := DA S' w'.heap.size) (fun _ _ _ h => h) (leave32 hc hs2 hlt) ?_
    rintro a3 w3 ⟨rfl, d3, rfl⟩
    intro gs sl t q d4 h0 hL hP
    exact hcont S' _ hS' ⟨hA.tape, hA.os, hA.output, hA.size, hA.low, hA.rows, hA.row⟩ gs sl t q d4 h0 hL hP
end Go.Sf
