/- The law FnDiskText: its row and its card. -/
import Derived.Test.YtoljibhdakacjaaGreatDoorR7
import Derived.Test.YtoljibhdakacjaaGreatDoorRCFnDiskText
import Derived.Test.YtoljibhdakacjaaGreatDoorTVText
namespace Go.Proofs.YtoljibhdakacjaaGreatDoor.fnDiskText
open Go.ChangeShapes Go.WideShapes Go.ChangeAt Go.RowKit Go.Sf
set_option maxRecDepth 100000 in
theorem contract (H : Type) (enc : TypeId × Value → H) (W : World) (base : Nat) (args : Array Value) (ds gs : List (DataW H)) (before : List MemPlace)
    (hval : ∀ (j : Nat) t v, Tryz.f8.params[j]? = some t → args[j]? = some v → Value.okWide Tryz.prog W .any base t v)
    (hW : DataW.Whole enc Tryz.prog Tryz.f8.params.toList Rows.fnDiskTextSpec.vars false W args.toList ds gs before) (hS : W.ShapedOpen Tryz.prog) :
    Calls Tryz.prog 8 args W fun e W' => ∃ v, e = .returned v ∧ Rows.fnDiskTextSpec.post enc Tryz.prog Tryz.f8 false true false false W args v W' := by
  have hW' := hW
  obtain ⟨p, q, hA0, hV0, rfl, hfz, -⟩ := hW
  have hA : DataW.TrodAll enc Tryz.prog W 0 (fun _ => true) true Tryz.f8.params.toList args.toList ds p := hA0
  rw [Tryz.params8] at hA hval
  obtain ⟨v0, d0, rfl, rfl, h0⟩ := trodAll_one hA
  obtain ⟨rfl, rfl⟩ := trodVars_none hV0
  simp only [List.append_nil] at hW'
  have hlt : ∀ x ∈ p, x.block < W.heap.size := fun x hx => hW'.lt x hx
  have walk : Calls Tryz.prog 8 #[v0] W (Ret (.bool true) W) := by
    rcases open_code (hval 0 22 v0 rfl rfl) h0 with ⟨xs, hb, hl⟩ | ⟨A, n, c, rfl, hn, hm⟩
    · exact FnDiskText_c W hb (ml_of hS) hl
    · exact FnDiskText_big W hn hm
  refine walk.mono ?_
  rintro e W' ⟨rfl, he⟩
  have e1 : Rows.fnDiskTextSpec.fn H ([d0] ++ []) = { results := [.lit (.bool true)], args := [d0] } := rfl
  refine ⟨_, rfl, _, _, _, [], p, [], hW', ?_, ?_, ?_, Below.frame he _, fun h => by cases h⟩
  · rw [e1]; exact trodAll_mk1 (shut_bool Tryz.underlying4 _)
  · rw [e1]; exact trodAll_mk1 (WideElems.Trod_stays laidOut (by kernel_rfl) (of_decide_eq_true (by kernel_rfl)) h0 (fun x hx => Below.same he (hlt x hx)) (fun x hx => by simpa using hlt x hx))
  · rw [e1]; rfl
theorem laid_metFnDiskText (os : Os) (args : Array Value) : laidMet Tryz.prog Rows.fnDiskTextRow.laid ((laidWorldT os).forCall (fun _ _ => 0) ⟨#[], args, []⟩).memory :=
  (LaidIn.of_run (l := Rows.fnDiskTextRow.laid) [3, 4, 1, 6, 5] 8 (by kernel_rfl) (by kernel_rfl) (by kernel_rfl) (by kernel_rfl)).met
theorem reads (os : Os) {H : Type} (enc : TypeId × Value → H) : ∃ places, DataW.whole enc Tryz.prog ((laidWorldT os).forCall (fun _ _ => 0) ⟨#[], #[.slice none 0 0], []⟩).memory Tryz.f8.params.toList Rows.fnDiskTextSpec.vars false #[Value.slice none 0 0].toList 8 = some ([.nil], [], places) :=
  ⟨[], by kernel_rfl⟩
set_option maxRecDepth 100000 in
theorem lifted (os : Os) (started : os.Started) (H : Type) (enc : TypeId × Value → H) (F : Stop.Interp) :
    ReturnsInHanded {} Tryz.checked os 8 .any ((OpenSpec.ofChange Rows.fnDiskTextSpec).preRow enc Tryz.prog Tryz.f8 Rows.fnDiskTextRow.domain false Rows.fnDiskTextRow.laid) (((OpenSpec.ofChange Rows.fnDiskTextSpec).at F).post enc Tryz.prog Tryz.f8 false true false false) := by
  obtain ⟨places, hx⟩ := reads os enc
  refine returnsInHanded_of_row (C := Tryz.checked) (s := OpenSpec.ofChange Rows.fnDiskTextSpec) own started (by kernel_rfl) Tryz.func8
    (witness_row_at (enc := enc) (C := Tryz.checked) false (laidWorldT os) #[.slice none 0 0] rfl (by kernel_rfl) (by kernel_rfl) (by kernel_rfl)
      (OpenSpec.preRow_of_cond 8 hx (by kernel_rfl) (fun k hk => by cases hk) (by kernel_rfl) (laid_metFnDiskText os _))) ?_
  intro W base args ds gs before hval hW _ _ _ _ hS _
  exact contract H enc W base args ds gs before hval hW hS
theorem said : Rows.FnDiskTextSaid :=
  OpenClaim.holds_of_cond 8 Tryz.f8 rfl rfl rfl rfl rfl rfl rfl ⟨rfl, rfl, rfl, rfl, rfl⟩ rfl rfl rfl rfl rfl (by kernel_rfl) Tryz.func8 closed
    (of_decide_eq_true (by kernel_rfl)) (by unfold Func.isWrapper; first | (rw [if_pos (by decide +kernel)]; kernel_rfl) | (rw [if_neg (by decide +kernel)]; exact ⟨rfl, rfl⟩))
    (fun os started H enc _ F => by rw [OpenClaim.pre_eq_preRow]; exact lifted os started H enc F)
theorem plain (f : FuncId) (fn : Func) (hf : Tryz.pinned.checked.prog.funcNamed Rows.fnDiskTextRow.func = some f) (hfn : Tryz.pinned.checked.prog.funcs[f]? = some fn) :
    true = Tryz.pinned.checked.prog.looks [] ∧ ∀ (j : Nat) t, fn.params[j]? = some t → Tryz.pinned.checked.prog.wantsStandIn t = false := by
  obtain rfl : f = 8 := Option.some.inj ((show Tryz.prog.funcNamed Rows.fnDiskTextRow.func = some 8 by kernel_rfl).symm.trans hf) |>.symm
  obtain rfl : fn = Tryz.f8 := (Option.some.inj (Tryz.func8.symm.trans hfn)).symm
  refine ⟨by kernel_rfl, fun j t ht => ?_⟩
  rw [Tryz.params8] at ht
  obtain rfl : t = 22 := by simpa using Array.mem_of_getElem? ht
  exact (show Tryz.prog.wantsStandIn 22 = false by kernel_rfl)
end Go.Proofs.YtoljibhdakacjaaGreatDoor.fnDiskText
namespace Go.Proofs.YtoljibhdakacjaaGreatDoor
set_option maxRecDepth 100000 in
theorem fnDiskText_card : Rows.FnDiskTextCardSaid :=
  Claim7.holds_tied_plain_at .later [] _ _ _ _ fnDiskText.said (fun _ h => by cases h) (by kernel_rfl) (fun _ h => by cases h) fnDiskText_row_tie rfl ⟨rfl, rfl⟩ (mainIs_of (P := Tryz.prog) rfl rfl (by kernel_rfl)) rfl fnDiskText.plain (by kernel_rfl)
end Go.Proofs.YtoljibhdakacjaaGreatDoor
