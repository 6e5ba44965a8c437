/- The law FnExactQuotasAllow: its row and its card. -/
import Derived.Test.YtadjkgdlpaddjaaGreatDoorR1
import Derived.Test.YtadjkgdlpaddjaaGreatDoorRCFnExactQuotasAllow
import Derived.Test.YtadjkgdlpaddjaaGreatDoorR2
import Derived.Test.YtadjkgdlpaddjaaGreatDoorR4
import Derived.Test.YtadjkgdlpaddjaaGreatDoorR5
import Derived.Test.YtadjkgdlpaddjaaGreatDoorR8
import Derived.Test.YtadjkgdlpaddjaaGreatDoorTXQuotasAllow
import Derived.WalkSmall
namespace Go.Proofs.YtadjkgdlpaddjaaGreatDoor.fnExactQuotasAllow
open Go.ChangeShapes Go.WideShapes Go.ChangeAt Go.RowKit Go.Sf Go.Stop Go.Extern.Stop
set_option maxRecDepth 100000 in
theorem contract (H : Type) (enc : TypeId × Value → H) (W : World) (base : Nat) (args : Array Value) (ds gs : List (DataW H)) (before : List MemPlace)
    (hval : ∀ (j : Nat) t v, Tryz.f8.params[j]? = some t → args[j]? = some v → Value.okWide Tryz.prog W .any base t v)
    (hW : DataW.Whole enc Tryz.prog Tryz.f8.params.toList Rows.fnExactQuotasAllowSpec.vars false W args.toList ds gs before) (hS : W.ShapedOpen Tryz.prog) (hL : laidMetH Tryz.prog Rows.fnExactQuotasAllowRow.laid W) :
    Calls Tryz.prog 8 args W fun e W' => ∃ v, e = .returned v ∧ Rows.fnExactQuotasAllowSpec.post enc Tryz.prog Tryz.f8 false true false false W args v W' := by
  have hW' := hW
  obtain ⟨p, q, hA0, hV0, rfl, hfz, -⟩ := hW
  have hA : DataW.TrodAll enc Tryz.prog W 0 (fun _ => true) true Tryz.f8.params.toList args.toList ds p := hA0
  rw [Tryz.params8] at hA hval
  obtain ⟨v0, v1, v2, v3, d0, d1, d2, d3, p0, p1, p2, p3, rfl, rfl, rfl, h0, h1, h2, h3⟩ := trodAll_four hA
  obtain ⟨a, hv, hEB⟩ := broken_of hL
  have vr : ∀ {X : World}, X.var? Tryz.prog "loop.example/snapshotfiles/impl.errBroken" = some #[.iface 371 (.pointer (some a))] → ∀ sp : Nat → Bool,
      DataW.TrodVars enc Tryz.prog X sp ["loop.example/snapshotfiles/impl.errBroken"] [tok enc (.iface 371 (.pointer (some a)))] [.cell 0 0] :=
    fun x sp => vars_read1 enc gE gEType Tryz.underlying168 x trivial sp
  have hV : DataW.TrodVars enc Tryz.prog W (fun _ => true) ["loop.example/snapshotfiles/impl.errBroken"] gs q := hV0
  obtain ⟨rfl, rfl⟩ := hV.unique (vr hv _)
  have hlt : ∀ x ∈ p0 ++ p1 ++ p2 ++ p3, x.block < W.heap.size := fun x hx => hW'.lt x (List.mem_append_left _ hx)
  have hgW : 0 < W.heap.size := hW'.lt (.cell 0 0) (by simp)
  have hlt0 : ∀ x ∈ p0, x.block < W.heap.size := fun x hx => hlt x (by simp [hx])
  have hlt1 : ∀ x ∈ p1, x.block < W.heap.size := fun x hx => hlt x (by simp [hx])
  have hlt2 : ∀ x ∈ p2, x.block < W.heap.size := fun x hx => hlt x (by simp [hx])
  have hlt3 : ∀ x ∈ p3, x.block < W.heap.size := fun x hx => hlt x (by simp [hx])
  obtain ⟨l0, rfl, r0⟩ := open_disk (hval 0 26 v0 rfl rfl) h0
  obtain ⟨l1, r1⟩ := open_quotas (hval 1 57 v1 rfl rfl) h1
  obtain ⟨l2, rfl, r2⟩ := open_str (hval 2 9 v2 rfl rfl) h2
  obtain ⟨l3, rfl, r3⟩ := open_int (hval 3 3 v3 rfl rfl) h3
  have walk : Calls Tryz.prog 8 #[.agg #[l0.1, l0.2.1, l0.2.2.1], v1, .string l2, .int .i64 l3] W (Ret (.bool true) W) := FnExactQuotasAllow_c W r0.1 r0.2.1 r0.2.2 r1 r2 r3 (ml_of hS) hEB
  refine walk.mono ?_
  rintro e W' ⟨rfl, he⟩
  have e1 : Rows.fnExactQuotasAllowSpec.fn H ([d0, d1, d2, d3] ++ [tok enc (.iface 371 (.pointer (some a)))]) = { results := [.lit (.bool true)], args := [d0, d1, d2, d3], vars := [tok enc (.iface 371 (.pointer (some a)))] } := rfl
  refine ⟨_, rfl, _, _, _, [], p0 ++ p1 ++ p2 ++ p3, [.cell 0 0], hW', ?_, ?_, ?_, Below.frame he _, fun h => by cases h⟩
  · rw [e1]; exact trodAll_mk1 (shut_bool Tryz.underlying4 _)
  · rw [e1, List.append_assoc, List.append_assoc]; exact trodAll_mk4 (WideElems.Trod_stays laidOut (by kernel_rfl) (of_decide_eq_true (by kernel_rfl)) h0 (fun x hx => Below.same he (hlt0 x hx)) (fun x hx => by simpa using hlt0 x hx)) (WideElems.Trod_stays laidOut (by kernel_rfl) (of_decide_eq_true (by kernel_rfl)) h1 (fun x hx => Below.same he (hlt1 x hx)) (fun x hx => by simpa using hlt1 x hx)) (WideElems.Trod_stays laidOut (by kernel_rfl) (of_decide_eq_true (by kernel_rfl)) h2 (fun x hx => Below.same he (hlt2 x hx)) (fun x hx => by simpa using hlt2 x hx)) (WideElems.Trod_stays laidOut (by kernel_rfl) (of_decide_eq_true (by kernel_rfl)) h3 (fun x hx => Below.same he (hlt3 x hx)) (fun x hx => by simpa using hlt3 x hx))
  · rw [e1]; exact vr (var?_below he gE hgW hv) _
theorem reads (os : Os) {H : Type} (enc : TypeId × Value → H) : ∃ places, DataW.whole enc Tryz.prog ((laidWorldE os).forCall (fun _ _ => 0) ⟨#[], #[.slice none 0 0], []⟩).memory Tryz.f8.params.toList Rows.fnExactQuotasAllowSpec.vars false #[Value.agg #[.slice none 0 0, .slice none 0 0, .slice none 0 0], Value.slice none 0 0, Value.string ⟨#[]⟩, Value.int .i64 0].toList 8 = some ([.agg [.nil, .nil, .nil], .nil, .lit (.string []), .lit (.int .i64 0)], [.held (enc (371, .pointer (some ⟨lowE, 0, none⟩)))], places) :=
  ⟨[.cell 0 0], by kernel_rfl⟩
set_option maxRecDepth 100000 in
theorem lifted (os : Os) (started : os.Started) (H : Type) (enc : TypeId × Value → H) (F : Stop.Interp) :
    ReturnsInHanded {} Tryz.checked os 8 .any ((OpenSpec.ofChange Rows.fnExactQuotasAllowSpec).preRow enc Tryz.prog Tryz.f8 Rows.fnExactQuotasAllowRow.domain false Rows.fnExactQuotasAllowRow.laid) (((OpenSpec.ofChange Rows.fnExactQuotasAllowSpec).at F).post enc Tryz.prog Tryz.f8 false true false false) := by
  obtain ⟨places, hx⟩ := reads os enc
  refine returnsInHanded_of_row (C := Tryz.checked) (s := OpenSpec.ofChange Rows.fnExactQuotasAllowSpec) own started (by kernel_rfl) Tryz.func8
    (witness_row_at (enc := enc) (C := Tryz.checked) false (laidWorldE os) #[Value.agg #[.slice none 0 0, .slice none 0 0, .slice none 0 0], Value.slice none 0 0, Value.string ⟨#[]⟩, Value.int .i64 0] rfl (by kernel_rfl) (by kernel_rfl) (by kernel_rfl)
      (OpenSpec.preRow_of_cond 8 hx (by kernel_rfl) (fun k hk => by cases hk) (by kernel_rfl) (laid_metE os _))) ?_
  intro W base args ds gs before hval hW _ _ _ hL hS _
  exact contract H enc W base args ds gs before hval hW hS hL
theorem said : Rows.FnExactQuotasAllowSaid :=
  OpenClaim.holds_of_cond 8 Tryz.f8 rfl rfl rfl rfl rfl rfl rfl ⟨rfl, rfl, rfl, rfl, rfl⟩ rfl rfl rfl rfl rfl (by kernel_rfl) Tryz.func8 closed
    (of_decide_eq_true (by kernel_rfl)) (by unfold Func.isWrapper; first | (rw [if_pos (by decide +kernel)]; kernel_rfl) | (rw [if_neg (by decide +kernel)]; exact ⟨rfl, rfl⟩))
    (fun os started H enc _ F => by rw [OpenClaim.pre_eq_preRow]; exact lifted os started H enc F)
theorem plain (f : FuncId) (fn : Func) (hf : Tryz.pinned.checked.prog.funcNamed Rows.fnExactQuotasAllowRow.func = some f) (hfn : Tryz.pinned.checked.prog.funcs[f]? = some fn) :
    true = Tryz.pinned.checked.prog.looks [] ∧ ∀ (j : Nat) t, fn.params[j]? = some t → Tryz.pinned.checked.prog.wantsStandIn t = false := by
  obtain rfl : f = 8 := Option.some.inj ((show Tryz.prog.funcNamed Rows.fnExactQuotasAllowRow.func = some 8 by kernel_rfl).symm.trans hf) |>.symm
  obtain rfl : fn = Tryz.f8 := (Option.some.inj (Tryz.func8.symm.trans hfn)).symm
  refine ⟨by kernel_rfl, fun j t ht => ?_⟩
  rw [Tryz.params8] at ht
  have ht' : t = 26 ∨ t = 57 ∨ t = 9 ∨ t = 3 := by simpa using Array.mem_of_getElem? ht
  rcases ht' with rfl | rfl | rfl | rfl
  · exact (show Tryz.prog.wantsStandIn 26 = false by kernel_rfl)
  · exact (show Tryz.prog.wantsStandIn 57 = false by kernel_rfl)
  · exact (show Tryz.prog.wantsStandIn 9 = false by kernel_rfl)
  · exact (show Tryz.prog.wantsStandIn 3 = false by kernel_rfl)
end Go.Proofs.YtadjkgdlpaddjaaGreatDoor.fnExactQuotasAllow
namespace Go.Proofs.YtadjkgdlpaddjaaGreatDoor
set_option maxRecDepth 100000 in
theorem fnExactQuotasAllow_card : Rows.FnExactQuotasAllowCardSaid :=
  Claim7.holds_tied_plain_at .later [] _ _ _ _ fnExactQuotasAllow.said (fun _ h => by cases h) (by kernel_rfl) (fun _ h => by cases h) fnExactQuotasAllow_row_tie rfl ⟨rfl, rfl⟩ (mainIs_of (P := Tryz.prog) rfl rfl (by kernel_rfl)) rfl fnExactQuotasAllow.plain (by kernel_rfl)
end Go.Proofs.YtadjkgdlpaddjaaGreatDoor
