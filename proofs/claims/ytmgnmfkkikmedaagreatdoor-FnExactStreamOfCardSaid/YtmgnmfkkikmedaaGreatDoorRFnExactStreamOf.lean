/- The law FnExactStreamOf: its row and its card. -/
import Derived.Test.YtmgnmfkkikmedaaGreatDoorR1
import Derived.Test.YtmgnmfkkikmedaaGreatDoorRCFnExactStreamOf
import Derived.Test.YtmgnmfkkikmedaaGreatDoorR2
import Derived.Test.YtmgnmfkkikmedaaGreatDoorR4
import Derived.Test.YtmgnmfkkikmedaaGreatDoorR5
import Derived.Test.YtmgnmfkkikmedaaGreatDoorTXStreamOf
namespace Go.Proofs.YtmgnmfkkikmedaaGreatDoor.fnExactStreamOf
open Go.ChangeShapes Go.WideShapes Go.ChangeAt Go.RowKit Go.Sf
set_option maxRecDepth 100000 in
theorem contract (H : Type) (enc : TypeId × Value → H) (W : World) (base : Nat) (args : Array Value) (ds gs : List (DataW H)) (before : List MemPlace)
    (hval : ∀ (j : Nat) t v, Tryz.f3.params[j]? = some t → args[j]? = some v → Value.okWide Tryz.prog W .any base t v)
    (hW : DataW.Whole enc Tryz.prog Tryz.f3.params.toList Rows.fnExactStreamOfSpec.vars false W args.toList ds gs before) (hS : W.ShapedOpen Tryz.prog) :
    Calls Tryz.prog 3 args W fun e W' => ∃ v, e = .returned v ∧ Rows.fnExactStreamOfSpec.post enc Tryz.prog Tryz.f3 false true false false W args v W' := by
  have hW' := hW
  obtain ⟨p, q, hA0, hV0, rfl, hfz, -⟩ := hW
  have hA : DataW.TrodAll enc Tryz.prog W 0 (fun _ => true) true Tryz.f3.params.toList args.toList ds p := hA0
  rw [Tryz.params3] at hA hval
  obtain ⟨v0, v1, v2, d0, d1, d2, p0, p1, p2, rfl, rfl, rfl, h0, h1, h2⟩ := trodAll_three hA
  obtain ⟨rfl, rfl⟩ := trodVars_none hV0
  simp only [List.append_nil] at hW'
  have hlt : ∀ x ∈ p0 ++ p1 ++ p2, x.block < W.heap.size := fun x hx => hW'.lt x hx
  have hlt0 : ∀ x ∈ p0, x.block < W.heap.size := fun x hx => hlt x (by simp [hx])
  have hlt1 : ∀ x ∈ p1, x.block < W.heap.size := fun x hx => hlt x (by simp [hx])
  have hlt2 : ∀ x ∈ p2, x.block < W.heap.size := fun x hx => hlt x (by simp [hx])
  obtain ⟨l0, rfl, r0⟩ := open_disk (hval 0 26 v0 rfl rfl) h0
  obtain ⟨l1, rfl, r1⟩ := open_str (hval 1 9 v1 rfl rfl) h1
  obtain ⟨l2, rfl, r2⟩ := open_str (hval 2 9 v2 rfl rfl) h2
  have walk : Calls Tryz.prog 3 #[.agg #[l0.1, l0.2.1, l0.2.2.1], .string l1, .string l2] W (Ret (.bool true) W) := FnExactStreamOf_c W r0.1 r0.2.1 r0.2.2 r1 r2 (ml_of hS)
  refine walk.mono ?_
  rintro e W' ⟨rfl, he⟩
  have e1 : Rows.fnExactStreamOfSpec.fn H ([d0, d1, d2] ++ []) = { results := [.lit (.bool true)], args := [d0, d1, d2] } := rfl
  refine ⟨_, rfl, _, _, _, [], p0 ++ p1 ++ p2, [], hW', ?_, ?_, ?_, Below.frame he _, fun h => by cases h⟩
  · rw [e1]; exact trodAll_mk1 (shut_bool Tryz.underlying4 _)
  · rw [e1, List.append_assoc]; exact trodAll_mk3 (WideElems.Trod_stays laidOut (by kernel_rfl) (of_decide_eq_true (by kernel_rfl)) h0 (fun x hx => Below.same he (hlt0 x hx)) (fun x hx => by simpa using hlt0 x hx)) (WideElems.Trod_stays laidOut (by kernel_rfl) (of_decide_eq_true (by kernel_rfl)) h1 (fun x hx => Below.same he (hlt1 x hx)) (fun x hx => by simpa using hlt1 x hx)) (WideElems.Trod_stays laidOut (by kernel_rfl) (of_decide_eq_true (by kernel_rfl)) h2 (fun x hx => Below.same he (hlt2 x hx)) (fun x hx => by simpa using hlt2 x hx))
  · rw [e1]; rfl
theorem reads (os : Os) {H : Type} (enc : TypeId × Value → H) : ∃ places, DataW.whole enc Tryz.prog ((laidWorld os).forCall (fun _ _ => 0) ⟨#[], #[.slice none 0 0], []⟩).memory Tryz.f3.params.toList Rows.fnExactStreamOfSpec.vars false #[Value.agg #[.slice none 0 0, .slice none 0 0, .slice none 0 0], Value.string ⟨#[]⟩, Value.string ⟨#[]⟩].toList 8 = some ([.agg [.nil, .nil, .nil], .lit (.string []), .lit (.string [])], [], places) :=
  ⟨[], by kernel_rfl⟩
set_option maxRecDepth 100000 in
theorem lifted (os : Os) (started : os.Started) (H : Type) (enc : TypeId × Value → H) (F : Stop.Interp) :
    ReturnsInHanded {} Tryz.checked os 3 .any ((OpenSpec.ofChange Rows.fnExactStreamOfSpec).preRow enc Tryz.prog Tryz.f3 Rows.fnExactStreamOfRow.domain false Rows.fnExactStreamOfRow.laid) (((OpenSpec.ofChange Rows.fnExactStreamOfSpec).at F).post enc Tryz.prog Tryz.f3 false true false false) := by
  obtain ⟨places, hx⟩ := reads os enc
  refine returnsInHanded_of_row (C := Tryz.checked) (s := OpenSpec.ofChange Rows.fnExactStreamOfSpec) own started (by kernel_rfl) Tryz.func3
    (witness_row_at (enc := enc) (C := Tryz.checked) false (laidWorld os) #[Value.agg #[.slice none 0 0, .slice none 0 0, .slice none 0 0], Value.string ⟨#[]⟩, Value.string ⟨#[]⟩] rfl (by kernel_rfl) (by kernel_rfl) (by kernel_rfl)
      (OpenSpec.preRow_of_cond 8 hx (by kernel_rfl) (fun k hk => by cases hk) (by kernel_rfl) (laid_met os _))) ?_
  intro W base args ds gs before hval hW _ _ _ _ hS _
  exact contract H enc W base args ds gs before hval hW hS
theorem said : Rows.FnExactStreamOfSaid :=
  OpenClaim.holds_of_cond 3 Tryz.f3 rfl rfl rfl rfl rfl rfl rfl ⟨rfl, rfl, rfl, rfl, rfl⟩ rfl rfl rfl rfl rfl (by kernel_rfl) Tryz.func3 closed
    (of_decide_eq_true (by kernel_rfl)) (by unfold Func.isWrapper; first | (rw [if_pos (by decide +kernel)]; kernel_rfl) | (rw [if_neg (by decide +kernel)]; exact ⟨rfl, rfl⟩))
    (fun os started H enc _ F => by rw [OpenClaim.pre_eq_preRow]; exact lifted os started H enc F)
theorem plain (f : FuncId) (fn : Func) (hf : Tryz.pinned.checked.prog.funcNamed Rows.fnExactStreamOfRow.func = some f) (hfn : Tryz.pinned.checked.prog.funcs[f]? = some fn) :
    true = Tryz.pinned.checked.prog.looks [] ∧ ∀ (j : Nat) t, fn.params[j]? = some t → Tryz.pinned.checked.prog.wantsStandIn t = false := by
  obtain rfl : f = 3 := Option.some.inj ((show Tryz.prog.funcNamed Rows.fnExactStreamOfRow.func = some 3 by kernel_rfl).symm.trans hf) |>.symm
  obtain rfl : fn = Tryz.f3 := (Option.some.inj (Tryz.func3.symm.trans hfn)).symm
  refine ⟨by kernel_rfl, fun j t ht => ?_⟩
  rw [Tryz.params3] at ht
  have ht' : t = 26 ∨ t = 9 := by simpa using Array.mem_of_getElem? ht
  rcases ht' with rfl | rfl
  · exact (show Tryz.prog.wantsStandIn 26 = false by kernel_rfl)
  · exact (show Tryz.prog.wantsStandIn 9 = false by kernel_rfl)
end Go.Proofs.YtmgnmfkkikmedaaGreatDoor.fnExactStreamOf
namespace Go.Proofs.YtmgnmfkkikmedaaGreatDoor
set_option maxRecDepth 100000 in
theorem fnExactStreamOf_card : Rows.FnExactStreamOfCardSaid :=
  Claim7.holds_tied_plain_at .later [] _ _ _ _ fnExactStreamOf.said (fun _ h => by cases h) (by kernel_rfl) (fun _ h => by cases h) fnExactStreamOf_row_tie rfl ⟨rfl, rfl⟩ (mainIs_of (P := Tryz.prog) rfl rfl (by kernel_rfl)) rfl fnExactStreamOf.plain (by kernel_rfl)
end Go.Proofs.YtmgnmfkkikmedaaGreatDoor
