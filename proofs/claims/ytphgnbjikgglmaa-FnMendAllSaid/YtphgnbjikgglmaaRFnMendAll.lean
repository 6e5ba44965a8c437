/- The law FnMendAll returns true for every input, on every schedule; the input reads as it did. No condition. -/
import Derived.Test.YtphgnbjikgglmaaR12
import Derived.Test.YtphgnbjikgglmaaT195
set_option linter.all false
namespace Go.Proofs.Ytphgnbjikgglmaa.fnMendAll
open Go Go.Conc Go.ChangeShapes Go.WideShapes Go.ChangeAt Go.RowKit Go.Sf
set_option maxRecDepth 100000 in
theorem runs (H : Type) (enc : TypeId × Value → H) (W : World) (base : Nat) (args : Array Value) (ds gs : List (DataW H)) (before : List MemPlace)
    (hval : ∀ (j : Nat) t v, Try.f6.params[j]? = some t → args[j]? = some v → Value.okWide Try.prog W .any base t v)
    (hW : DataW.Whole enc Try.prog Try.f6.params.toList Rows.fnMendAllSpec.vars false W args.toList ds gs before) :
    ∃ M last o w' t', runNT Try.prog (M + 1) (solo (G (Frame.enter Try.prog 6 args .normal) []) W) #[] = (.ended o w', t') ∧ runN Try.prog M (solo (G (Frame.enter Try.prog 6 args .normal) []) W) = .next last ∧
      step Try.prog last = .ended o w' ∧ Conc.Good Try.prog (fun v W' => Rows.fnMendAllSpec.post enc Try.prog Try.f6 false true false false W args v W') last o w' t' := by
  have hW' := hW
  obtain ⟨p, q, hA0, hV, rfl, hfz, -⟩ := hW
  have hA : DataW.TrodAll enc Try.prog W 0 (fun _ => true) true Try.f6.params.toList args.toList ds p := hA0
  rw [Try.params6] at hA hval
  obtain ⟨v0, d0, rfl, rfl, h0⟩ := trodAll_one hA
  obtain ⟨rfl, rfl⟩ := trodVars_none hV
  have hlt : ∀ x ∈ p, x.block < W.heap.size := fun x hx => hW'.lt x (List.mem_append_left _ hx)
  refine runs_of (R := fun u => u = .bool true) W Try.func6 (by kernel_rfl) (by decide) (by kernel_rfl) (by rfl) (fun v hv => ?_) fun u w' hu ho hou hsz hk => ?_
  · rcases open_code (hval 0 22 v0 rfl rfl) h0 with ⟨xs, hb, hl⟩ | ⟨A, n, c, rfl, hn, hm⟩
    · refine (FnMendAll_c v (bys_ghost hv hb) hl).mono fun e w' hw => ?_
      rcases hw with ⟨u, h1, h2, h3⟩ | hp
      · exact .inl ⟨u, h1, h2, h3⟩
      · exact .inr hp
    · refine (FnMendAll_big v hn hm).mono fun e w' hw => ?_
      exact .inl ⟨_, hw.1, rfl, hw.2⟩
  · subst hu
    simp only [List.append_nil] at hW'
    exact ⟨_, _, _, [], p, [], hW', trodAll_mk1 (shut_bool Try.underlying4 true),
      trodAll_mk1 (WideElems.Trod_stays laidOut (by kernel_rfl) (of_decide_eq_true (by kernel_rfl)) h0 (fun x hx => same_of_keeps hk (hlt x hx)) (fun x hx => by simpa using hlt x hx)), rfl, kept_of ho hou hk _, fun h => by cases h⟩
set_option maxRecDepth 100000 in
theorem lifted (os : Os) (started : os.Started) (H : Type) (enc : TypeId × Value → H) :
    ReturnsInLeavingWide {} Try.checked os 6 .any (Rows.fnMendAllSpec.pre6 enc Try.prog Try.f6 Rows.fnMendAllRow.domain false) (Rows.fnMendAllSpec.post enc Try.prog Try.f6 false true false false) := by
  refine returnsInLeavingWide_of_change_sized (C := Try.checked) own started Try.func6
    (ChangeSpec.witness6 (enc := enc) (C := Try.checked) false ⟨#[], #[.slice none 0 0], []⟩ 8 (by kernel_rfl) (by kernel_rfl) (by kernel_rfl) (by kernel_rfl)) ?_
  intro W base args ds gs before hval hW _ _ _
  exact runs H enc W base args ds gs before hval hW
end Go.Proofs.Ytphgnbjikgglmaa.fnMendAll
namespace Go.Proofs.Ytphgnbjikgglmaa
open Go Go.Conc
set_option maxRecDepth 100000 in
theorem fnMendAll_said : Rows.FnMendAllSaid :=
  OpenClaim.holds_of_wide_leaving 6 Try.f6 rfl rfl rfl rfl rfl rfl rfl ⟨rfl, rfl, rfl, rfl, rfl⟩ rfl rfl rfl rfl rfl (by kernel_rfl) Try.func6 (by kernel_rfl)
    (of_decide_eq_true (by kernel_rfl)) (by unfold Func.isWrapper; first | (rw [if_pos (by decide +kernel)]; kernel_rfl) | (rw [if_neg (by decide +kernel)]; exact ⟨rfl, rfl⟩))
    (fun os started H enc _ => fnMendAll.lifted os started H enc)
end Go.Proofs.Ytphgnbjikgglmaa
