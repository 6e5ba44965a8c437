/- The law FnAllowLess: its row and its card. -/
import Derived.Test.YtoljibhdakacjaaGreatDoorR10
import Derived.WalkSmall
import Derived.Test.YtoljibhdakacjaaGreatDoorRCFnAllowLess
import Derived.Test.YtoljibhdakacjaaGreatDoorTVOver
namespace Go.Proofs.YtoljibhdakacjaaGreatDoor.fnAllowLess
open Go.ChangeShapes Go.WideShapes Go.ChangeAt Go.RowKit Go.Sf Go.Stop Go.Extern.Stop
set_option maxRecDepth 100000 in
theorem contract (H : Type) (enc : TypeId × Value → H) (W : World) (base : Nat) (args : Array Value) (ds gs : List (DataW H)) (before : List MemPlace)
    (hval : ∀ (j : Nat) t v, Tryz.f5.params[j]? = some t → args[j]? = some v → Value.okWide Tryz.prog W .any base t v)
    (hW : DataW.Whole enc Tryz.prog Tryz.f5.params.toList Rows.fnAllowLessSpec.vars false W args.toList ds gs before) (hS : W.ShapedOpen Tryz.prog) (hL : laidMetH Tryz.prog laidE W) :
    Calls Tryz.prog 5 args W fun e W' => ∃ v, e = .returned v ∧ Rows.fnAllowLessSpec.post enc Tryz.prog Tryz.f5 false true false false W args v W' := by
  have hW' := hW
  obtain ⟨p, q, hA0, hV0, rfl, hfz, -⟩ := hW
  have hA : DataW.TrodAll enc Tryz.prog W 0 (fun _ => true) true Tryz.f5.params.toList args.toList ds p := hA0
  rw [Tryz.params5] at hA hval
  obtain ⟨v0, v1, d0, d1, p0, p1, rfl, rfl, rfl, h0, h1⟩ := trodAll_two hA
  obtain ⟨a, hv, hEB⟩ := broken_of hL
  have vr : ∀ {X : World}, X.var? Tryz.prog "loop.example/snapshotfiles/impl.errBroken" = some #[.iface 299 (.pointer (some a))] → ∀ sp : Nat → Bool,
      DataW.TrodVars enc Tryz.prog X sp ["loop.example/snapshotfiles/impl.errBroken"] [tok enc (.iface 299 (.pointer (some a)))] [.cell 0 0] :=
    fun x sp => vars_read1 enc gE gEType Tryz.underlying100 x trivial sp
  have hV : DataW.TrodVars enc Tryz.prog W (fun _ => true) ["loop.example/snapshotfiles/impl.errBroken"] gs q := hV0
  obtain ⟨rfl, rfl⟩ := hV.unique (vr hv _)
  have hlt : ∀ x ∈ p0 ++ p1, x.block < W.heap.size := fun x hx => hW'.lt x (List.mem_append_left _ hx)
  have hgW : 0 < W.heap.size := hW'.lt (.cell 0 0) (by simp)
  have hlt0 : ∀ x ∈ p0, x.block < W.heap.size := fun x hx => hlt x (by simp [hx])
  have hlt1 : ∀ x ∈ p1, x.block < W.heap.size := fun x hx => hlt x (by simp [hx])
  have walk : Calls Tryz.prog 5 #[v0, v1] W (Ret (.bool true) W) := by
    rcases open_code (hval 0 22 v0 rfl rfl) h0 with ⟨xs, hb, hl⟩ | ⟨A, n, c, rfl, hn, hm⟩
    · rcases open_code (hval 1 22 v1 rfl rfl) h1 with ⟨ys, hb2, hl2⟩ | ⟨A, n, c, rfl, hn, hm⟩
      · exact FnAllowLess_c W hb (ml_of hS) hl hb2 hl2 hEB
      · exact FnAllowLess_big2 W hb hl hn hm
    · exact FnAllowLess_big W hn hm
  refine walk.mono ?_
  rintro e W' ⟨rfl, he⟩
  have e1 : Rows.fnAllowLessSpec.fn H ([d0, d1] ++ [tok enc (.iface 299 (.pointer (some a)))]) = { results := [.lit (.bool true)], args := [d0, d1], vars := [tok enc (.iface 299 (.pointer (some a)))] } := rfl
  refine ⟨_, rfl, _, _, _, [], p0 ++ p1, [.cell 0 0], hW', ?_, ?_, ?_, Below.frame he _, fun h => by cases h⟩
  · rw [e1]; exact trodAll_mk1 (shut_bool Tryz.underlying4 _)
  · rw [e1]; exact trodAll_mk2 (WideElems.Trod_stays laidOut (by kernel_rfl) (of_decide_eq_true (by kernel_rfl)) h0 (fun x hx => Below.same he (hlt0 x hx)) (fun x hx => by simpa using hlt0 x hx)) (WideElems.Trod_stays laidOut (by kernel_rfl) (of_decide_eq_true (by kernel_rfl)) h1 (fun x hx => Below.same he (hlt1 x hx)) (fun x hx => by simpa using hlt1 x hx))
  · rw [e1]; exact vr (var?_below he gE hgW hv) _
theorem reads (os : Os) {H : Type} (enc : TypeId × Value → H) : ∃ places, DataW.whole enc Tryz.prog ((laidWorldE os).forCall (fun _ _ => 0) ⟨#[], #[.slice none 0 0], []⟩).memory Tryz.f5.params.toList Rows.fnAllowLessSpec.vars false #[Value.slice none 0 0, Value.slice none 0 0].toList 8 = some ([.nil, .nil], [.held (enc (299, .pointer (some ⟨lowE, 0, none⟩)))], places) :=
  ⟨[.cell 0 0], by kernel_rfl⟩
set_option maxRecDepth 100000 in
theorem lifted (os : Os) (started : os.Started) (H : Type) (enc : TypeId × Value → H) (F : Stop.Interp) :
    ReturnsInHanded {} Tryz.checked os 5 .any ((OpenSpec.ofChange Rows.fnAllowLessSpec).preRow enc Tryz.prog Tryz.f5 Rows.fnAllowLessRow.domain false Rows.fnAllowLessRow.laid) (((OpenSpec.ofChange Rows.fnAllowLessSpec).at F).post enc Tryz.prog Tryz.f5 false true false false) := by
  obtain ⟨places, hx⟩ := reads os enc
  refine returnsInHanded_of_row (C := Tryz.checked) (s := OpenSpec.ofChange Rows.fnAllowLessSpec) own started (by kernel_rfl) Tryz.func5
    (witness_row_at (enc := enc) (C := Tryz.checked) false (laidWorldE os) #[.slice none 0 0, .slice none 0 0] rfl (by kernel_rfl) (by kernel_rfl) (by kernel_rfl)
      (OpenSpec.preRow_of_cond 8 hx (by kernel_rfl) (fun k hk => by cases hk) (by kernel_rfl) (laid_metE os _))) ?_
  intro W base args ds gs before hval hW _ _ _ hL hS _
  exact contract H enc W base args ds gs before hval hW hS hL
theorem said : Rows.FnAllowLessSaid :=
  OpenClaim.holds_of_cond 5 Tryz.f5 rfl rfl rfl rfl rfl rfl rfl ⟨rfl, rfl, rfl, rfl, rfl⟩ rfl rfl rfl rfl rfl (by kernel_rfl) Tryz.func5 closed
    (of_decide_eq_true (by kernel_rfl)) (by unfold Func.isWrapper; first | (rw [if_pos (by decide +kernel)]; kernel_rfl) | (rw [if_neg (by decide +kernel)]; exact ⟨rfl, rfl⟩))
    (fun os started H enc _ F => by rw [OpenClaim.pre_eq_preRow]; exact lifted os started H enc F)
theorem plain (f : FuncId) (fn : Func) (hf : Tryz.pinned.checked.prog.funcNamed Rows.fnAllowLessRow.func = some f) (hfn : Tryz.pinned.checked.prog.funcs[f]? = some fn) :
    true = Tryz.pinned.checked.prog.looks [] ∧ ∀ (j : Nat) t, fn.params[j]? = some t → Tryz.pinned.checked.prog.wantsStandIn t = false := by
  obtain rfl : f = 5 := Option.some.inj ((show Tryz.prog.funcNamed Rows.fnAllowLessRow.func = some 5 by kernel_rfl).symm.trans hf) |>.symm
  obtain rfl : fn = Tryz.f5 := (Option.some.inj (Tryz.func5.symm.trans hfn)).symm
  refine ⟨by kernel_rfl, fun j t ht => ?_⟩
  rw [Tryz.params5] at ht
  obtain rfl : t = 22 := by simpa using Array.mem_of_getElem? ht
  exact (show Tryz.prog.wantsStandIn 22 = false by kernel_rfl)
end Go.Proofs.YtoljibhdakacjaaGreatDoor.fnAllowLess
namespace Go.Proofs.YtoljibhdakacjaaGreatDoor
set_option maxRecDepth 100000 in
theorem fnAllowLess_card : Rows.FnAllowLessCardSaid :=
  Claim7.holds_tied_plain_at .later [] _ _ _ _ fnAllowLess.said (fun _ h => by cases h) (by kernel_rfl) (fun _ h => by cases h) fnAllowLess_row_tie rfl ⟨rfl, rfl⟩ (mainIs_of (P := Tryz.prog) rfl rfl (by kernel_rfl)) rfl fnAllowLess.plain (by kernel_rfl)
end Go.Proofs.YtoljibhdakacjaaGreatDoor
