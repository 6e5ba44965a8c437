/- The law FnExactMendFrom returns true for every input, on every schedule; the input reads as it did. No condition. -/
import Derived.Test.YtphgnbjikgglmaaR13
import Derived.Test.YtphgnbjikgglmaaT196
set_option linter.all false
namespace Go.Proofs.Ytphgnbjikgglmaa.fnExactMendFrom
open Go Go.Conc Go.ChangeShapes Go.WideShapes Go.ChangeAt Go.RowKit Go.Sf
set_option maxRecDepth 100000 in
theorem runs (H : Type) (enc : TypeId × Value → H) (W : World) (base : Nat) (args : Array Value) (ds gs : List (DataW H)) (before : List MemPlace)
    (hval : ∀ (j : Nat) t v, Try.f7.params[j]? = some t → args[j]? = some v → Value.okWide Try.prog W .any base t v)
    (hW : DataW.Whole enc Try.prog Try.f7.params.toList Rows.fnExactMendFromSpec.vars false W args.toList ds gs before) :
    ∃ M last o w' t', runNT Try.prog (M + 1) (solo (G (Frame.enter Try.prog 7 args .normal) []) W) #[] = (.ended o w', t') ∧ runN Try.prog M (solo (G (Frame.enter Try.prog 7 args .normal) []) W) = .next last ∧
      step Try.prog last = .ended o w' ∧ Conc.Good Try.prog (fun v W' => Rows.fnExactMendFromSpec.post enc Try.prog Try.f7 false true false false W args v W') last o w' t' := by
  have hW' := hW
  obtain ⟨p, q, hA0, hV, rfl, hfz, -⟩ := hW
  have hA : DataW.TrodAll enc Try.prog W 0 (fun _ => true) true Try.f7.params.toList args.toList ds p := hA0
  rw [Try.params7] at hA hval
  obtain ⟨v0, v1, v2, d0, d1, d2, p0, p1, p2, rfl, rfl, rfl, h0, h1, h2⟩ := trodAll_three hA
  obtain ⟨rfl, rfl⟩ := trodVars_none hV
  have hlt : ∀ x ∈ p0 ++ p1 ++ p2, x.block < W.heap.size := fun x hx => hW'.lt x (List.mem_append_left _ hx)
  have hlt0 : ∀ x ∈ p0, x.block < W.heap.size := fun x hx => hlt x (by simp [hx])
  have hlt1 : ∀ x ∈ p1, x.block < W.heap.size := fun x hx => hlt x (by simp [hx])
  have hlt2 : ∀ x ∈ p2, x.block < W.heap.size := fun x hx => hlt x (by simp [hx])
  obtain ⟨l, hl⟩ := open_helds (hval 0 39 v0 rfl rfl) h0
  obtain ⟨cs, hcs⟩ := open_checks (hval 1 40 v1 rfl rfl) h1
  obtain ⟨ol, hol⟩ := open_helds (hval 2 39 v2 rfl rfl) h2
  refine runs_of (R := fun u => u = .bool true) W Try.func7 (by kernel_rfl) (by decide) (by kernel_rfl) (by rfl) (fun v hv => ?_) fun u w' hu ho hou hsz hk => ?_
  · refine (FnExactMendFrom_c v (ahds_ghost hv hl) (acks_ghost hv hcs) (ahds_ghost hv hol)).mono fun e w' hw => ?_
    rcases hw with ⟨u, h1, h2, h3⟩ | hp
    · exact .inl ⟨u, h1, h2, h3⟩
    · exact .inr hp
  · subst hu
    simp only [List.append_nil] at hW'
    exact ⟨_, _, _, [], p0 ++ p1 ++ p2, [], hW', trodAll_mk1 (shut_bool Try.underlying4 true),
      by
        rw [List.append_assoc]
        exact trodAll_mk3 (WideElems.Trod_stays laidOut (by kernel_rfl) (of_decide_eq_true (by kernel_rfl)) h0 (fun x hx => same_of_keeps hk (hlt0 x hx)) (fun x hx => by simpa using hlt0 x hx))
          (WideElems.Trod_stays laidOut (by kernel_rfl) (of_decide_eq_true (by kernel_rfl)) h1 (fun x hx => same_of_keeps hk (hlt1 x hx)) (fun x hx => by simpa using hlt1 x hx))
          (WideElems.Trod_stays laidOut (by kernel_rfl) (of_decide_eq_true (by kernel_rfl)) h2 (fun x hx => same_of_keeps hk (hlt2 x hx)) (fun x hx => by simpa using hlt2 x hx)), rfl, kept_of ho hou hk _, fun h => by cases h⟩
set_option maxRecDepth 100000 in
theorem lifted (os : Os) (started : os.Started) (H : Type) (enc : TypeId × Value → H) :
    ReturnsInLeavingWide {} Try.checked os 7 .any (Rows.fnExactMendFromSpec.pre6 enc Try.prog Try.f7 Rows.fnExactMendFromRow.domain false) (Rows.fnExactMendFromSpec.post enc Try.prog Try.f7 false true false false) := by
  refine returnsInLeavingWide_of_change_sized (C := Try.checked) own started Try.func7
    (ChangeSpec.witness6 (enc := enc) (C := Try.checked) false ⟨#[], #[.slice none 0 0, .slice none 0 0, .slice none 0 0], []⟩ 8 (by kernel_rfl) (by kernel_rfl) (by kernel_rfl) (by kernel_rfl)) ?_
  intro W base args ds gs before hval hW _ _ _
  exact runs H enc W base args ds gs before hval hW
end Go.Proofs.Ytphgnbjikgglmaa.fnExactMendFrom
namespace Go.Proofs.Ytphgnbjikgglmaa
open Go Go.Conc
set_option maxRecDepth 100000 in
theorem fnExactMendFrom_said : Rows.FnExactMendFromSaid :=
  OpenClaim.holds_of_wide_leaving 7 Try.f7 rfl rfl rfl rfl rfl rfl rfl ⟨rfl, rfl, rfl, rfl, rfl⟩ rfl rfl rfl rfl rfl (by kernel_rfl) Try.func7 (by kernel_rfl)
    (of_decide_eq_true (by kernel_rfl)) (by unfold Func.isWrapper; first | (rw [if_pos (by decide +kernel)]; kernel_rfl) | (rw [if_neg (by decide +kernel)]; exact ⟨rfl, rfl⟩))
    (fun os started H enc _ => fnExactMendFrom.lifted os started H enc)
end Go.Proofs.Ytphgnbjikgglmaa
