/- From a lone contract of the ghost's program to a run of the true one. -/
import Derived.Test.YtphgnbjikgglmaaTA
import Derived.Test.YtphgnbjikgglmaaRows
import Derived.Test.YtphgnbjikgglmaaGA
import Derived.ProofKit
import Derived.Carry
import Derived.ChangeSlices
import Derived.WideKeyArgs
import Derived.JoinedOf
import Derived.SizedLaws
import Derived.Conc.LeavingOf
set_option linter.all false
namespace Go.Sf
open Go Go.Conc Go.RowKit Go.Proofs
section
open Classical
/-- an object that the ghost is not shown -/
noncomputable def veil (b : Nat) (o : Obj) : Obj := if oddObj o then .view ⟨b, 0, none⟩ 0 else o
noncomputable def ghostOf (W : World) : World := { W with heap := W.heap.mapIdx veil }
noncomputable def startS (W : World) (b : Nat) : Nat := if ∃ o, W.heap[b]? = some o ∧ oddObj o then 2 else 0
end
@[reducible] def oddsOf (W : World) : Odds := ⟨fun b o => W.heap[b]? = some o⟩
theorem ghostOf_get (W : World) (b : Nat) : (ghostOf W).heap[b]? = (W.heap[b]?).map (veil b) := by
  simp [ghostOf, Array.getElem?_mapIdx]
theorem ghostOf_size (W : World) : (ghostOf W).heap.size = W.heap.size := by simp [ghostOf]
theorem plain_of [Asks] {P : Program} {o : Obj} (h : ¬ oddObj o) : plainObj P o := by
  cases o <;> first | trivial | exact absurd trivial h
theorem ghostOf_cell (W : World) (p : Addr) : (ghostOf W).cell? p = W.cell? p := by
  unfold World.cell?
  rw [ghostOf_get]
  cases h : W.heap[p.block]? with
  | none => rfl
  | some o =>
    simp only [Option.map_some]
    unfold veil
    by_cases ho : oddObj o
    · rw [if_pos ho]
      cases o <;> first | rfl | exact absurd ho id
    · rw [if_neg ho]
theorem ghostOf_sim (W : World) : @WSim _ (@trueAsks _ (oddsOf W)) Try.prog (startS W) (ghostOf W) W := by
  letI : Odds := oddsOf W
  letI : Asks := trueAsks
  refine ⟨ghostOf_size W, fun b hb => ?_, fun b hb => ?_, rfl, rfl⟩
  · rw [ghostOf_size] at hb
    obtain ⟨o, ho⟩ : ∃ o, W.heap[b]? = some o := ⟨W.heap[b], by simp [hb]⟩
    refine ⟨veil b o, o, by rw [ghostOf_get, ho]; rfl, ho, ?_⟩
    by_cases hod : oddObj o
    · have e1 : startS W b = 2 := if_pos ⟨o, ho, hod⟩
      have e2 : veil b o = .view ⟨b, 0, none⟩ 0 := if_pos hod
      rw [e1, e2]
      exact .odd hod ho
    · have e1 : startS W b = 0 := if_neg fun ⟨o', h1, h2⟩ => by rw [ho] at h1; cases h1; exact hod h2
      have e2 : veil b o = o := if_neg hod
      rw [e1, e2]
      exact .alive (plain_of hod)
  · refine if_neg fun ⟨o, h1, _⟩ => ?_
    rw [ghostOf_size] at hb
    rw [Array.getElem?_eq_none hb] at h1
    cases h1
/-- what stood before the call stands as it did -/
theorem end_keeps {W : World} {S' : Nat → Nat} {v' w' : World} (h : @WSim _ (@trueAsks _ (oddsOf W)) Try.prog S' v' w') (hb : ∀ k, k < W.heap.size → v'.heap[k]? = (ghostOf W).heap[k]?) : ∀ k, k < W.heap.size → w'.heap[k]? = W.heap[k]? := by
  letI : Odds := oddsOf W
  letI : Asks := trueAsks
  intro k hk
  obtain ⟨o, ho⟩ : ∃ o, W.heap[k]? = some o := ⟨W.heap[k], by simp [hk]⟩
  have hv : v'.heap[k]? = some (veil k o) := by rw [hb k hk, ghostOf_get, ho]; rfl
  obtain ⟨ov, ow, h1, h2, h3⟩ := h.obj k (Array.getElem?_eq_some_iff.1 hv).1
  rw [hv] at h1
  obtain rfl := Option.some.inj h1
  rw [h2, ho]
  generalize S' k = s at h3
  by_cases hod : oddObj o
  · have e2 : veil k o = .view ⟨k, 0, none⟩ 0 := if_pos hod
    rw [e2] at h3
    cases h3 with
    | alive hp => exact hp.elim
    | odd _ hq => exact (hq : W.heap[k]? = some ow).symm.trans ho
  · have e2 : veil k o = o := if_neg hod
    rw [e2] at h3
    cases h3 with
    | alive _ => rfl
    | cells => exact absurd trivial hod
    | odd _ _ => exact absurd trivial hod
/-- nothing has been done yet -/
theorem past_nilS (Shun : Loc → Prop) (B : Nat) : Past Shun B #[] :=
  ⟨fun said => by rintro ⟨i, j, _, ⟨a, b, ha, _⟩, _⟩; simp [Trace.act?] at ha, fun i a ha => by simp [touchAt, Trace.act?] at ha, fun i g hg => by simp [Trace.g?] at hg, rfl, by simp⟩
/-- **the run**: from a lone contract of the ghost's program -/
theorem runs_of {Post : Value → World → Prop} {R : Value → Prop} {f : FuncId} {fn : Func} {tr : Tmp} {args : Array Value} (W : World) (hf : Try.prog.funcs[f]? = some fn) (hfine : funcFine Try.prog fn = true) (hne : f ≠ 32)
    (hinit : Try.prog.inits.idxOf? f = none) (htr : fn.results = #[.tmp tr])
    (hC : ∀ v : World, v.heap = (ghostOf W).heap → Calls TryG.prog f args v fun e w' => (∃ u, e = .returned u ∧ R u ∧ Ext v w') ∨ Probed e w')
    (hEnd : ∀ u w', R u → w'.os = W.os → w'.output = W.output → W.heap.size ≤ w'.heap.size → (∀ k, k < W.heap.size → w'.heap[k]? = W.heap[k]?) → Post u w') :
    ∃ M last o w' t', runNT Try.prog (M + 1) (solo (G (Frame.enter Try.prog f args .normal) []) W) #[] = (.ended o w', t') ∧ runN Try.prog M (solo (G (Frame.enter Try.prog f args .normal) []) W) = .next last ∧ step Try.prog last = .ended o w' ∧ Conc.Good Try.prog Post last o w' t' := by
  letI : Odds := oddsOf W
  have hok : @fnOK _ trueAsks Try.prog f := ⟨fn, hf, hfine, fun e => absurd e hne, fun i e => by cases e; exact hne rfl⟩
  have hwin : Wins Try.prog Post (startS W) (gor (Frame.enter Try.prog f args .normal) []) W := by
    refine wins_of_calls thePhase (R := fun u v' => R u ∧ v'.os = W.os ∧ v'.output = W.output ∧ W.heap.size ≤ v'.heap.size ∧ ∀ k, k < W.heap.size → v'.heap[k]? = (ghostOf W).heap[k]?) hok hinit hf htr (ghostOf_sim W) (fun τ => ?_) fun u v' S' w' hR hW => ?_
    · refine (hC ((ghostOf W).re τ 0) rfl).mono fun e w' hw => ?_
      rcases hw with ⟨u, rfl, hu, he⟩ | hp
      · have e1 : w'.os = ((ghostOf W).re τ 0).os := Below.os he
        have e2 : w'.output = ((ghostOf W).re τ 0).output := Below.output he
        exact .inl ⟨u, rfl, hu, e1, e2, by have := he.size; exact (ghostOf_size W) ▸ this, fun k hk => he.block (by show k < (ghostOf W).heap.size; rw [ghostOf_size]; exact hk)⟩
      · exact .inr hp
    · obtain ⟨h1, h2, h3, h4, h5⟩ := hR
      have hsz := @WSim.size _ trueAsks _ _ _ _ hW
      exact hEnd u w' h1 ((@WSim.os _ trueAsks _ _ _ _ hW).symm.trans h2) ((@WSim.output _ trueAsks _ _ _ _ hW).symm.trans h3) (by omega) (end_keeps hW h5)
  rw [solo_eq_crowd]
  exact hwin #[_] _ #[] (fun _ => 0) W.drawn rfl (leavers_one _ _) (past_nilS _ _)
theorem cell_heap {v w : World} (h : v.heap = w.heap) (p : Addr) : v.cell? p = w.cell? p := by
  unfold World.cell?
  rw [h]
theorem bys_ghost {v W : World} {u : Value} {xs : List Int} (hv : v.heap = (ghostOf W).heap) (h : Bys W u xs) : Bys v u xs := by
  obtain ⟨A, c, rfl, h1, h2, h3, h4⟩ := h
  refine ⟨A, c, rfl, h1, h2, h3, fun k x hx => ?_⟩
  obtain ⟨b, o, e1, e2, e3, e4⟩ := h4 k x hx
  exact ⟨b, o, e1, by rw [hv, ghostOf_size]; exact e2, by rw [cell_heap hv, ghostOf_cell]; exact e3, e4⟩
theorem same_of_keeps {W w' : World} (hk : ∀ k, k < W.heap.size → w'.heap[k]? = W.heap[k]?) {p : MemPlace} (hp : p.block < W.heap.size) : W.sameAt w' p := by
  cases p with
  | cell b o => exact World.cell?_of_block (w := W) (hk b hp)
  | map b => exact hk b hp
theorem kept_of {W w' : World} (ho : w'.os = W.os) (hou : w'.output = W.output) (hk : ∀ k, k < W.heap.size → w'.heap[k]? = W.heap[k]?) (may : MemPlace → Prop) : W.keptBut w' may := by
  refine ⟨ho, hou, fun i hi => ?_⟩
  rw [hk i hi]
  split <;> simp_all
end Go.Sf
namespace Go.Proofs.Ytphgnbjikgglmaa
open Go Go.ChangeShapes Go.WideShapes Go.ChangeAt Go.RowKit Go.Sf
theorem own : ownKnob Try.prog.godebug = none := by kernel_rfl
theorem laidOut : laidOutB Try.prog = true := by kernel_rfl
theorem u8_bd {n : Int} (h : (Lit.int .u8 n).wf = true) : 0 ≤ n ∧ n ≤ 255 := by
  simp [Lit.wf, IntKind.min, IntKind.max, IntKind.signed, IntKind.bits] at h
  omega
set_option maxRecDepth 100000 in
/-- an argument of bytes: how it reads -/
theorem open_code {H : Type} {enc : TypeId × Value → H} {W : World} {base : Nat} {v : Value} {d : DataW H} {p : List MemPlace} (hval : Value.okWide Try.prog W .any base 22 v)
    (h : DataW.Trod enc Try.prog W 0 (fun _ => true) true 22 v d p) :
    (∃ xs, Bys W v xs ∧ xs.length ≤ 1048576) ∨ ∃ A n c, v = .slice A n c ∧ 1048576 < n ∧ n ≤ maxLen := by
  obtain ⟨a0, n0, c0, rfl⟩ := okWide_slice Try.underlying22 hval
  obtain ⟨fuel, hf⟩ := h
  rcases open_ints Try.underlying22 Try.underlying5 (by kernel_rfl) hf with ⟨hcs, -⟩ | ⟨a, n, c, zs, hcs, -, hl, hm, hz, -, hcell, hwf⟩
  · simp [Value.cells] at hcs
    obtain ⟨rfl, rfl, rfl⟩ := hcs
    exact .inl ⟨[], ⟨none, 0, rfl, Nat.le_refl _, ⟨Nat.zero_le _, fun _ => rfl⟩, Nat.zero_le _, fun k x h => by simp at h⟩, Nat.zero_le _⟩
  · simp [Value.cells] at hcs
    obtain ⟨rfl, rfl, rfl⟩ := hcs
    simp only [if_true] at hz
    by_cases hn : 1048576 < n0
    · exact .inr ⟨_, _, _, rfl, hn, Nat.le_trans hl hm⟩
    · have hlen : (zs.take n0).length = n0 := by simp; omega
      refine .inl ⟨zs.take n0, ⟨some a, c0, by rw [hlen], by rw [hlen]; exact hl, ⟨hm, fun h => by cases h⟩, by rw [hlen]; unfold lim; omega, ?_⟩, by omega⟩
      intro k x hx
      rw [List.getElem?_take] at hx
      split at hx
      case isFalse => cases hx
      have hk : k < zs.length := by omega
      have hc := hcell k hk
      obtain ⟨b, o, spot⟩ := a
      have hspot : spot = none := by simpa [Addr.add] using World.cell?_spot (hcell 0 (by omega))
      subst hspot
      rw [add_plain] at hc
      have hx' : zs.getD k 0 = x := by simp [List.getD, hx]
      rw [hx'] at hc
      have hw := u8_bd (hwf x (List.mem_of_getElem? hx))
      exact ⟨b, o, rfl, World.block_lt_of_cell? _ _ hc, hc, hw.1, hw.2⟩
end Go.Proofs.Ytphgnbjikgglmaa
