/- The reference makes changes in a tree. -/
import Derived.Test.YtbdgpbakhjpklaaGreatDoorGJ
import Derived.Test.YtbdgpbakhjpklaaGreatDoorGH
import Derived.Test.YtbdgpbakhjpklaaGreatDoorGI
/-! The reference makes changes in a tree. -/
namespace Go.Sf
open Go Go.RowKit Go.Proofs
/-- a list and whether there is one -/
def StepP (w : World) (o : Option (List It)) (e : Ending) (w' : World) : Prop := ∃ u, e = .returned (.tuple #[u, .bool o.isSome]) ∧ (∀ S', o = some S' → Its w.heap.size w' u S') ∧ Ext w w'
theorem StepP.none_ {w w' : World} {u : Value} (e : Ext w w') : StepP w none (.returned (.tuple #[u, .bool false])) w' := ⟨_, rfl, (fun _ h => by cases h), e⟩
theorem step_1n {S : List It} {x : It} (h : S.find? (pathIs x.path) = none) : stepOf S ⟨1, x⟩ = some (putIt x S) := by
  unfold stepOf; rw [if_pos rfl, if_neg (by show ¬ (findIt S x.path).isSome = true; unfold findIt; rw [h]; simp)]
theorem step_1s {S : List It} {x y : It} (h : S.find? (pathIs x.path) = some y) : stepOf S ⟨1, x⟩ = none := by
  unfold stepOf; rw [if_pos rfl, if_pos (by show (findIt S x.path).isSome = true; unfold findIt; rw [h]; rfl)]
theorem step_2n {S : List It} {x : It} (h : S.find? (pathIs x.path) = none) : stepOf S ⟨2, x⟩ = none := by
  unfold stepOf; rw [if_neg (by simp), if_pos rfl, if_neg (by show ¬ findIt S x.path = some x; unfold findIt; rw [h]; simp)]
theorem step_2s {S : List It} {x y : It} (h : S.find? (pathIs x.path) = some y) : stepOf S ⟨2, x⟩ = if eqb y x = true then some (S.filter (awP x)) else none := by
  unfold stepOf; rw [if_neg (by simp), if_pos rfl]
  cases he : eqb y x with
  | true => rw [if_pos (by show findIt S x.path = some x; unfold findIt; rw [h, eqb_true.1 he]), if_pos rfl]
  | false => rw [if_neg (by show ¬ findIt S x.path = some x; unfold findIt; rw [h]; intro e; cases e; exact eqb_false.1 he rfl), if_neg (by simp)]
theorem step_3n {S : List It} {x : It} (h : S.find? (pathIs x.path) = none) : stepOf S ⟨3, x⟩ = none := by
  unfold stepOf; rw [if_neg (by simp), if_neg (by simp), if_pos rfl, if_neg (by rintro ⟨y, hy, -⟩; change findIt S x.path = some y at hy; unfold findIt at hy; rw [h] at hy; cases hy)]
theorem step_3s {S : List It} {x y : It} (h : S.find? (pathIs x.path) = some y) : stepOf S ⟨3, x⟩ = if y.dir = false ∧ x.dir = false ∧ y.ids ≠ x.ids then some (putIt x S) else none := by
  unfold stepOf; rw [if_neg (by simp), if_neg (by simp), if_pos rfl]
  by_cases hc : y.dir = false ∧ x.dir = false ∧ y.ids ≠ x.ids
  · rw [if_pos hc, if_pos ⟨y, h, hc⟩]
  · rw [if_neg hc, if_neg (by rintro ⟨z, hz, hc'⟩; change S.find? (pathIs x.path) = some z at hz; rw [h] at hz; cases hz; exact hc hc')]
theorem step_no {S : List It} {x : It} {k : Int} (h1 : k ≠ 1) (h2 : k ≠ 2) (h3 : k ≠ 3) : stepOf S ⟨k, x⟩ = none := by
  unfold stepOf; rw [if_neg h1, if_neg h2, if_neg h3]
theorem erase_away {x y : It} : ∀ {S : List It} {i : Nat}, Srt S → S[i]? = some y → y.path = x.path → S.eraseIdx i = S.filter (awP x) := by
  intro S
  induction S with
  | nil => intro i _ h; simp at h
  | cons z r ih =>
    intro i hs h e
    have hs' := List.pairwise_cons.1 hs
    cases i with
    | zero =>
      simp only [List.getElem?_cons_zero, Option.some.injEq] at h
      subst h
      rw [List.eraseIdx_cons_zero, List.filter_cons_of_neg (by rw [awP, eqb_true.2 e]; simp)]
      exact (List.filter_eq_self.2 fun q hq => by
        rw [awP, eqb_false.2 fun k => by have := hs'.1 q hq; rw [k, e, blt_irr] at this; cases this]; rfl).symm
    | succ i =>
      rw [List.getElem?_cons_succ] at h
      rw [List.eraseIdx_cons_succ, ih hs'.2 h e, List.filter_cons_of_pos]
      have := hs'.1 y (List.mem_of_getElem? h)
      rw [awP, eqb_false.2 fun k => by rw [k, e, blt_irr] at this; cases this]; rfl
set_option maxRecDepth 8000 in
set_option maxHeartbeats 2000000 in
theorem l13Step_1 {B B' : Nat} {v cv : Value} {S : List It} {x : It} (w : World) (h : Its B w v S) (hs : Srt S) (hc : ChV B' w cv ⟨1, x⟩) (hlen : S.length + 1 < lim) :
    Calls Tryz.prog 79 #[v, cv] w (StepP w (stepOf S ⟨1, x⟩)) := by
  obtain ⟨u3, rfl, hki, hp, hu⟩ := hc
  obtain ⟨xp, xd, xi⟩ := x
  simp only at hki hp hu ⊢
  have H := Lib.hid h
  have HX : Hid (∀ W, Ext w W → ItV B' W (.agg #[.string xp, .bool xd, u3]) ⟨xp, xd, xi⟩) := Lib.hid fun W e => ⟨_, rfl, hp, hu.ext e⟩
  have Ca0 := fun W e => l5At_c xp W (H.out.ext (w' := W) e)
  have Cl0 := fun W e => l5All_c W (H.out.ext (w' := W) e)
  have Cp0 := fun W e => l5Put_c W (H.out.ext (w' := W) e) (HX.out W e) hlen
  obtain ⟨A, cc, rfl, hA⟩ := h
  obtain ⟨Au, cu, rfl, -⟩ := hu
  have HA := Lib.hid hA
  have Hl := Lib.hid hlen
  have Hs := Lib.hid hs
  clear hA hlen hs
  have e0 : Ext w (w.alloc (.cells #[.int .i64 1, .string xp, .bool xd, .slice Au xi.length cu] 95)) := (Ext.refl w).alloc _
  have hbk := Blk.new w 95 #[.int .i64 1, .string xp, .bool xd, .slice Au xi.length cu]
  have b0 := fun W (e : Ext _ W) => hbk.at_ (i := 0) (u := .int .i64 1) rfl W e
  have b1 := fun W (e : Ext _ W) => hbk.at_ (i := 1) (u := .string xp) rfl W e
  have b2 := fun W (e : Ext _ W) => hbk.at_ (i := 2) (u := .bool xd) rfl W e
  have b3 := fun W (e : Ext _ W) => hbk.at_ (i := 3) (u := .slice Au xi.length cu) rfl W e
  clear hbk
  have hex : ∃ w0, w0 = w.alloc (.cells #[.int .i64 1, .string xp, .bool xd, .slice Au xi.length cu] 95) := ⟨_, rfl⟩
  obtain ⟨w0, hw0⟩ := hex
  rw [← hw0] at e0 b0 b1 b2 b3
  have Hw0 := Lib.hid hw0; clear hw0
  rcases atG_find (pathIs xp) S 0 with ⟨f1, f2⟩ | ⟨i, y, f1, f2, f3, f4, -⟩
  · have Ca : Calls Tryz.prog 91 #[.slice A S.length cc, .string xp] w0 (Ret (.int .i64 (-1)) w0) := by
      have := Ca0 w0 e0; rwa [atPath, f2] at this
    clear Ca0 Cl0
    rw [step_1n (x := ⟨xp, xd, xi⟩) f1]
    go_enter Tryz.func79, Tryz.ntmps79
    go_wp2_with fail
    rw [← Hw0.out]
    refine Ca.mono ?_
    rintro e w1 ⟨rfl, he1⟩
    have q0 := b0 w1 he1; have q1 := b1 w1 he1; have q2 := b2 w1 he1; have q3 := b3 w1 he1
    have e01 := e0.trans he1
    go_wp2_with fail
    refine (Cp0 w1 e01).mono ?_
    rintro e w9 ⟨v2, rfl, hO2, he9⟩
    go_wp2
    go_ret2
    exact ⟨_, rfl, (fun S' e => by cases e; exact (hO2.both (B' := w.heap.size) (e01).size (e01).size).sl (EIt_ok _) (Nat.le_refl _) (Nat.le_trans (putIt_length _) (by have := Hl.out; omega))), (e01).trans he9⟩
  · have Ca : Calls Tryz.prog 91 #[.slice A S.length cc, .string xp] w0 (Ret (.int .i64 (i : Int)) w0) := by
      have := Ca0 w0 e0; rw [atPath, f4] at this; simpa using this
    have hil := lt_of_get f1
    have hi0 : ¬ ((i : Int) < 0) := by omega
    have hyp : y.path = xp := by simpa [pathIs, eqb_iff] using f2
    obtain ⟨bS, oS, uS, rfl, -, -, hpy, hiy, c0, c1, c2⟩ := Its.at_ HA.out f1
    have Cs : ∀ W, Ext w W → Calls Tryz.prog 69 #[.agg #[.string y.path, .bool y.dir, uS], .agg #[.string xp, .bool xd, .slice Au xi.length cu]] W (Ret (.bool (eqb y ⟨xp, xd, xi⟩)) W) := fun W e => spec_l13Same_c W ⟨_, rfl, hpy, hiy.ext e⟩ (HX.out W e)
    have F1 := Lib.hid f1
    obtain ⟨AS, cS, rfl, -⟩ := hiy
    clear Ca0 f1 f2 f4
    rw [step_1s (x := ⟨xp, xd, xi⟩) f3]
    go_enter Tryz.func79, Tryz.ntmps79
    go_wp2_with fail
    rw [← Hw0.out]
    refine Ca.mono ?_
    rintro e w1 ⟨rfl, he1⟩
    have q0 := b0 w1 he1; have q1 := b1 w1 he1; have q2 := b2 w1 he1; have q3 := b3 w1 he1
    have e01 := e0.trans he1
    go_wp2_with fail
    refine (Cp0 w1 e01).mono ?_
    rintro e w9 ⟨v2, rfl, hO2, he9⟩
    go_wp2
    go_ret2
    exact StepP.none_ (e01.trans he9)
set_option maxRecDepth 8000 in
set_option maxHeartbeats 2000000 in
theorem l13Step_2 {B B' : Nat} {v cv : Value} {S : List It} {x : It} (w : World) (h : Its B w v S) (hs : Srt S) (hc : ChV B' w cv ⟨2, x⟩) (hlen : S.length + 1 < lim) :
    Calls Tryz.prog 79 #[v, cv] w (StepP w (stepOf S ⟨2, x⟩)) := by
  obtain ⟨u3, rfl, hki, hp, hu⟩ := hc
  obtain ⟨xp, xd, xi⟩ := x
  simp only at hki hp hu ⊢
  have H := Lib.hid h
  have HX : Hid (∀ W, Ext w W → ItV B' W (.agg #[.string xp, .bool xd, u3]) ⟨xp, xd, xi⟩) := Lib.hid fun W e => ⟨_, rfl, hp, hu.ext e⟩
  have Ca0 := fun W e => l5At_c xp W (H.out.ext (w' := W) e)
  have Cl0 := fun W e => l5All_c W (H.out.ext (w' := W) e)
  have Cp0 := fun W e => l5Put_c W (H.out.ext (w' := W) e) (HX.out W e) hlen
  obtain ⟨A, cc, rfl, hA⟩ := h
  obtain ⟨Au, cu, rfl, -⟩ := hu
  have HA := Lib.hid hA
  have Hl := Lib.hid hlen
  have Hs := Lib.hid hs
  clear hA hlen hs
  have e0 : Ext w (w.alloc (.cells #[.int .i64 2, .string xp, .bool xd, .slice Au xi.length cu] 95)) := (Ext.refl w).alloc _
  have hbk := Blk.new w 95 #[.int .i64 2, .string xp, .bool xd, .slice Au xi.length cu]
  have b0 := fun W (e : Ext _ W) => hbk.at_ (i := 0) (u := .int .i64 2) rfl W e
  have b1 := fun W (e : Ext _ W) => hbk.at_ (i := 1) (u := .string xp) rfl W e
  have b2 := fun W (e : Ext _ W) => hbk.at_ (i := 2) (u := .bool xd) rfl W e
  have b3 := fun W (e : Ext _ W) => hbk.at_ (i := 3) (u := .slice Au xi.length cu) rfl W e
  clear hbk
  have hex : ∃ w0, w0 = w.alloc (.cells #[.int .i64 2, .string xp, .bool xd, .slice Au xi.length cu] 95) := ⟨_, rfl⟩
  obtain ⟨w0, hw0⟩ := hex
  rw [← hw0] at e0 b0 b1 b2 b3
  have Hw0 := Lib.hid hw0; clear hw0
  rcases atG_find (pathIs xp) S 0 with ⟨f1, f2⟩ | ⟨i, y, f1, f2, f3, f4, -⟩
  · have Ca : Calls Tryz.prog 91 #[.slice A S.length cc, .string xp] w0 (Ret (.int .i64 (-1)) w0) := by
      have := Ca0 w0 e0; rwa [atPath, f2] at this
    clear Ca0 Cl0
    rw [step_2n (x := ⟨xp, xd, xi⟩) f1]
    go_enter Tryz.func79, Tryz.ntmps79
    go_wp2_with fail
    rw [← Hw0.out]
    refine Ca.mono ?_
    rintro e w1 ⟨rfl, he1⟩
    have q0 := b0 w1 he1; have q1 := b1 w1 he1; have q2 := b2 w1 he1; have q3 := b3 w1 he1
    have e01 := e0.trans he1
    go_wp2
    refine wp_region_ext (by kernel_rfl) (by kernel_rfl) ?_
    repeat (first | (apply q_plain rfl; (· intro W eW; go_simp; (first | done | rfl | (rw [if_pos] <;> first | omega | rfl))); (try simp only [Act.put, List.setIfInBounds_toArray, List.set_cons_zero, List.set_cons_succ])) | (refine qg_skip (by rfl) ?_; (try simp only [Act.put, List.setIfInBounds_toArray, List.set_cons_zero, List.set_cons_succ])) | (apply qg_plain (by rfl); (· intro W eW; go_simp; (first | done | rfl | (rw [if_pos] <;> first | omega | rfl))); (try simp only [Act.put, List.setIfInBounds_toArray, List.set_cons_zero, List.set_cons_succ])))
    refine q_nil ?_
    intro w2 e2
    have e02 := e01.trans e2
    go_wp2
    go_ret2
    exact StepP.none_ (e02.alloc _)
  · have Ca : Calls Tryz.prog 91 #[.slice A S.length cc, .string xp] w0 (Ret (.int .i64 (i : Int)) w0) := by
      have := Ca0 w0 e0; rw [atPath, f4] at this; simpa using this
    have hil := lt_of_get f1
    have hi0 : ¬ ((i : Int) < 0) := by omega
    have hyp : y.path = xp := by simpa [pathIs, eqb_iff] using f2
    obtain ⟨bS, oS, uS, rfl, -, -, hpy, hiy, c0, c1, c2⟩ := Its.at_ HA.out f1
    have Cs : ∀ W, Ext w W → Calls Tryz.prog 69 #[.agg #[.string y.path, .bool y.dir, uS], .agg #[.string xp, .bool xd, .slice Au xi.length cu]] W (Ret (.bool (eqb y ⟨xp, xd, xi⟩)) W) := fun W e => spec_l13Same_c W ⟨_, rfl, hpy, hiy.ext e⟩ (HX.out W e)
    have F1 := Lib.hid f1
    obtain ⟨AS, cS, rfl, -⟩ := hiy
    clear Ca0 f1 f2 f4
    rw [step_2s (x := ⟨xp, xd, xi⟩) f3]
    clear f3
    obtain ⟨yp, yd, yi⟩ := y
    simp only at hyp hpy c0 c1 c2 Cs F1 ⊢
    subst hyp
    cases hse : eqb (⟨yp, yd, yi⟩ : It) ⟨yp, xd, xi⟩ with
    | false =>
      rw [if_neg (by simp)]
      rw [hse] at Cs
      go_enter Tryz.func79, Tryz.ntmps79
      go_wp2_with fail
      rw [← Hw0.out]
      refine Ca.mono ?_
      rintro e w1 ⟨rfl, he1⟩
      have q0 := b0 w1 he1; have q1 := b1 w1 he1; have q2 := b2 w1 he1; have q3 := b3 w1 he1
      have e01 := e0.trans he1
      have d1 := fun W (e : Ext w1 W) => b1 W (he1.trans e)
      have d2 := fun W (e : Ext w1 W) => b2 W (he1.trans e)
      have d3 := fun W (e : Ext w1 W) => b3 W (he1.trans e)
      have a0 := fun W (e : Ext w1 W) => c0 W (e01.trans e)
      have a1 := fun W (e : Ext w1 W) => c1 W (e01.trans e)
      have a2 := fun W (e : Ext w1 W) => c2 W (e01.trans e)
      have Cq := fun W (e : Ext w1 W) => Cs W (e01.trans e)
      clear Cs hse Cp0 Cl0
      go_wp2
      refine wp_region_ext (by kernel_rfl) (by kernel_rfl) ?_
      repeat (first | (apply q_plain rfl; (· intro W eW; go_simp; (first | done | rfl | (rw [if_pos] <;> first | omega | rfl))); (try simp only [Act.put, List.setIfInBounds_toArray, List.set_cons_zero, List.set_cons_succ])) | (refine qg_skip (by rfl) ?_; (try simp only [Act.put, List.setIfInBounds_toArray, List.set_cons_zero, List.set_cons_succ])) | (apply qg_plain (by rfl); (· intro W eW; go_simp; (first | done | rfl | (rw [if_pos] <;> first | omega | rfl))); (try simp only [Act.put, List.setIfInBounds_toArray, List.set_cons_zero, List.set_cons_succ])))
      ((first | apply q_call rfl | apply qg_call (by rfl)); (· intro W eW; go_simp; (first | done | (constructor <;> rfl))); (· intro W eW; exact Cq W eW); (try simp only [Act.put, List.setIfInBounds_toArray, List.set_cons_zero, List.set_cons_succ]))
      repeat (first | (apply q_plain rfl; (· intro W eW; go_simp; (first | done | rfl | (rw [if_pos] <;> first | omega | rfl))); (try simp only [Act.put, List.setIfInBounds_toArray, List.set_cons_zero, List.set_cons_succ])) | (refine qg_skip (by rfl) ?_; (try simp only [Act.put, List.setIfInBounds_toArray, List.set_cons_zero, List.set_cons_succ])) | (apply qg_plain (by rfl); (· intro W eW; go_simp; (first | done | rfl | (rw [if_pos] <;> first | omega | rfl))); (try simp only [Act.put, List.setIfInBounds_toArray, List.set_cons_zero, List.set_cons_succ])))
      refine q_nil ?_
      intro w2 e2
      have e02 := e01.trans e2
      go_wp2
      go_ret2
      exact StepP.none_ (e02.alloc _)
    | true =>
      rw [if_pos rfl]
      rw [hse] at Cs
      go_enter Tryz.func79, Tryz.ntmps79
      go_wp2_with fail
      rw [← Hw0.out]
      refine Ca.mono ?_
      rintro e w1 ⟨rfl, he1⟩
      have q0 := b0 w1 he1; have q1 := b1 w1 he1; have q2 := b2 w1 he1; have q3 := b3 w1 he1
      have e01 := e0.trans he1
      have d1 := fun W (e : Ext w1 W) => b1 W (he1.trans e)
      have d2 := fun W (e : Ext w1 W) => b2 W (he1.trans e)
      have d3 := fun W (e : Ext w1 W) => b3 W (he1.trans e)
      have a0 := fun W (e : Ext w1 W) => c0 W (e01.trans e)
      have a1 := fun W (e : Ext w1 W) => c1 W (e01.trans e)
      have a2 := fun W (e : Ext w1 W) => c2 W (e01.trans e)
      have Cq := fun W (e : Ext w1 W) => Cs W (e01.trans e)
      clear Cs hse Cp0
      go_wp2
      refine wp_region_ext (by kernel_rfl) (by kernel_rfl) ?_
      repeat (first | (apply q_plain rfl; (· intro W eW; go_simp; (first | done | rfl | (rw [if_pos] <;> first | omega | rfl))); (try simp only [Act.put, List.setIfInBounds_toArray, List.set_cons_zero, List.set_cons_succ])) | (refine qg_skip (by rfl) ?_; (try simp only [Act.put, List.setIfInBounds_toArray, List.set_cons_zero, List.set_cons_succ])) | (apply qg_plain (by rfl); (· intro W eW; go_simp; (first | done | rfl | (rw [if_pos] <;> first | omega | rfl))); (try simp only [Act.put, List.setIfInBounds_toArray, List.set_cons_zero, List.set_cons_succ])))
      ((first | apply q_call rfl | apply qg_call (by rfl)); (· intro W eW; go_simp; (first | done | (constructor <;> rfl))); (· intro W eW; exact Cq W eW); (try simp only [Act.put, List.setIfInBounds_toArray, List.set_cons_zero, List.set_cons_succ]))
      repeat (first | (apply q_plain rfl; (· intro W eW; go_simp; (first | done | rfl | (rw [if_pos] <;> first | omega | rfl))); (try simp only [Act.put, List.setIfInBounds_toArray, List.set_cons_zero, List.set_cons_succ])) | (refine qg_skip (by rfl) ?_; (try simp only [Act.put, List.setIfInBounds_toArray, List.set_cons_zero, List.set_cons_succ])) | (apply qg_plain (by rfl); (· intro W eW; go_simp; (first | done | rfl | (rw [if_pos] <;> first | omega | rfl))); (try simp only [Act.put, List.setIfInBounds_toArray, List.set_cons_zero, List.set_cons_succ])))
      refine q_nil ?_
      intro w2 e2
      have e02 := e01.trans e2
      clear Cq d1 d2 d3 a0 a1 a2 q0 q1 q2 q3 b0 b1 b2 b3 c0 c1 c2
      go_wp2_with fail
      refine (Cl0 w2 e02).mono ?_
      rintro e w3 ⟨v2, rfl, hO, he4⟩
      have hl := Hl.out
      obtain ⟨g, c, rfl, hg, hnc, hcm⟩ := hO.formP (by omega)
      have HO := Lib.hid hO; clear hO
      have hw1 : IntKind.i64.wrap ((i : Int) + 1) = (i : Int) + 1 := IntWalk.i64_in _ (by unfold lim at hl; omega)
      have hp1 : (0 : Int) ≤ (i : Int) + 1 := by omega
      have hn1 : ((i : Int) + 1).toNat = i + 1 := by omega
      have hle : i + 1 ≤ S.length := hil
      have hle' : (i : Int) + 1 ≤ (S.length : Int) := by omega
      have hic : i ≤ c := by omega
      have HF : Hid (S.length ≤ c ∧ S.length + 1 < 4194304) := Lib.hid ⟨hnc, hl⟩
      clear hcm hnc hl Cl0
      go_wp2
      refine wp_region_still_tail 7 (by kernel_rfl) (by kernel_rfl) ?_
      simp only [List.take_succ_cons, List.take_zero, List.drop_succ_cons, List.drop_zero]
      repeat still_step
      refine wpStill_nil ?_
      refine wp_del (w0 := w2) rfl _ _ rfl el_It (EIt_ok _) (he4.drew) g c i S hil (HO.out.ext (EIt_ok _) (Ext.refl _).drew) (by rfl) (if c = i + 1 then ⟨g, 0, none⟩ else ⟨g, (i + 1) * 3, none⟩) (c - (i + 1)) ?_ ?_ ?_
      · show Value.slice _ _ _ = _
        congr 1
        split <;> simp [*]
      · intro hlt
        have := HF.out
        rw [if_neg (by omega)]
      · intro w5 hO5 he5 hk5
        have HI : Hid (Its w.heap.size w5 (.slice (some ⟨g, 0, none⟩) (S.length - 1) c) (S.filter (awP ⟨yp, xd, xi⟩))) := Lib.hid (by
          rw [← erase_away (x := ⟨yp, xd, xi⟩) Hs.out F1.out rfl]
          exact (hO5.both (B' := w.heap.size) e02.size e02.size).sl (EIt_ok _) (Nat.le_refl _) (by have := HF.out; rw [List.length_eraseIdx, if_pos hil]; unfold lim; omega))
        have he6 : Ext w w5 := e02.trans he5
        clear hO5 hk5 HO hw1 hp1 hn1 hle hle' hic HF
        by_cases hci : c = i + 1
        · subst hci
          go_wp2
          go_ret2
          exact ⟨_, rfl, (fun S' e => by cases e; exact HI.out), he6⟩
        · go_wp2
          go_ret2
          exact ⟨_, rfl, (fun S' e => by cases e; exact HI.out), he6⟩
set_option maxRecDepth 8000 in
set_option maxHeartbeats 2000000 in
theorem l13Step_3 {B B' : Nat} {v cv : Value} {S : List It} {x : It} (w : World) (h : Its B w v S) (hs : Srt S) (hc : ChV B' w cv ⟨3, x⟩) (hlen : S.length + 1 < lim) :
    Calls Tryz.prog 79 #[v, cv] w (StepP w (stepOf S ⟨3, x⟩)) := by
  obtain ⟨u3, rfl, hki, hp, hu⟩ := hc
  obtain ⟨xp, xd, xi⟩ := x
  simp only at hki hp hu ⊢
  have H := Lib.hid h
  have HX : Hid (∀ W, Ext w W → ItV B' W (.agg #[.string xp, .bool xd, u3]) ⟨xp, xd, xi⟩) := Lib.hid fun W e => ⟨_, rfl, hp, hu.ext e⟩
  have Ca0 := fun W e => l5At_c xp W (H.out.ext (w' := W) e)
  have Cl0 := fun W e => l5All_c W (H.out.ext (w' := W) e)
  have Cp0 := fun W e => l5Put_c W (H.out.ext (w' := W) e) (HX.out W e) hlen
  obtain ⟨A, cc, rfl, hA⟩ := h
  obtain ⟨Au, cu, rfl, -⟩ := hu
  have HA := Lib.hid hA
  have Hl := Lib.hid hlen
  have Hs := Lib.hid hs
  clear hA hlen hs
  have e0 : Ext w (w.alloc (.cells #[.int .i64 3, .string xp, .bool xd, .slice Au xi.length cu] 95)) := (Ext.refl w).alloc _
  have hbk := Blk.new w 95 #[.int .i64 3, .string xp, .bool xd, .slice Au xi.length cu]
  have b0 := fun W (e : Ext _ W) => hbk.at_ (i := 0) (u := .int .i64 3) rfl W e
  have b1 := fun W (e : Ext _ W) => hbk.at_ (i := 1) (u := .string xp) rfl W e
  have b2 := fun W (e : Ext _ W) => hbk.at_ (i := 2) (u := .bool xd) rfl W e
  have b3 := fun W (e : Ext _ W) => hbk.at_ (i := 3) (u := .slice Au xi.length cu) rfl W e
  clear hbk
  have hex : ∃ w0, w0 = w.alloc (.cells #[.int .i64 3, .string xp, .bool xd, .slice Au xi.length cu] 95) := ⟨_, rfl⟩
  obtain ⟨w0, hw0⟩ := hex
  rw [← hw0] at e0 b0 b1 b2 b3
  have Hw0 := Lib.hid hw0; clear hw0
  rcases atG_find (pathIs xp) S 0 with ⟨f1, f2⟩ | ⟨i, y, f1, f2, f3, f4, -⟩
  · have Ca : Calls Tryz.prog 91 #[.slice A S.length cc, .string xp] w0 (Ret (.int .i64 (-1)) w0) := by
      have := Ca0 w0 e0; rwa [atPath, f2] at this
    clear Ca0 Cl0
    rw [step_3n (x := ⟨xp, xd, xi⟩) f1]
    go_enter Tryz.func79, Tryz.ntmps79
    go_wp2_with fail
    rw [← Hw0.out]
    refine Ca.mono ?_
    rintro e w1 ⟨rfl, he1⟩
    have q0 := b0 w1 he1; have q1 := b1 w1 he1; have q2 := b2 w1 he1; have q3 := b3 w1 he1
    have e01 := e0.trans he1
    go_wp2
    refine wp_region_ext (by kernel_rfl) (by kernel_rfl) ?_
    repeat (first | (apply q_plain rfl; (· intro W eW; go_simp; (first | done | rfl | (rw [if_pos] <;> first | omega | rfl))); (try simp only [Act.put, List.setIfInBounds_toArray, List.set_cons_zero, List.set_cons_succ])) | (refine qg_skip (by rfl) ?_; (try simp only [Act.put, List.setIfInBounds_toArray, List.set_cons_zero, List.set_cons_succ])) | (apply qg_plain (by rfl); (· intro W eW; go_simp; (first | done | rfl | (rw [if_pos] <;> first | omega | rfl))); (try simp only [Act.put, List.setIfInBounds_toArray, List.set_cons_zero, List.set_cons_succ])))
    refine q_nil ?_
    intro w2 e2
    have e02 := e01.trans e2
    go_wp2
    go_ret2
    exact StepP.none_ (e02.alloc _)
  · have Ca : Calls Tryz.prog 91 #[.slice A S.length cc, .string xp] w0 (Ret (.int .i64 (i : Int)) w0) := by
      have := Ca0 w0 e0; rw [atPath, f4] at this; simpa using this
    have hil := lt_of_get f1
    have hi0 : ¬ ((i : Int) < 0) := by omega
    have hyp : y.path = xp := by simpa [pathIs, eqb_iff] using f2
    obtain ⟨bS, oS, uS, rfl, -, -, hpy, hiy, c0, c1, c2⟩ := Its.at_ HA.out f1
    have Cs : ∀ W, Ext w W → Calls Tryz.prog 69 #[.agg #[.string y.path, .bool y.dir, uS], .agg #[.string xp, .bool xd, .slice Au xi.length cu]] W (Ret (.bool (eqb y ⟨xp, xd, xi⟩)) W) := fun W e => spec_l13Same_c W ⟨_, rfl, hpy, hiy.ext e⟩ (HX.out W e)
    have F1 := Lib.hid f1
    obtain ⟨AS, cS, rfl, -⟩ := hiy
    clear Ca0 f1 f2 f4
    rw [step_3s (x := ⟨xp, xd, xi⟩) f3]
    clear f3
    obtain ⟨yp, yd, yi⟩ := y
    simp only at hyp hpy c0 c1 c2 Cs F1 ⊢
    subst hyp
    cases yd with
    | true =>
      rw [if_neg (by simp)]
      go_enter Tryz.func79, Tryz.ntmps79
      go_wp2_with fail
      rw [← Hw0.out]
      refine Ca.mono ?_
      rintro e w1 ⟨rfl, he1⟩
      have q0 := b0 w1 he1; have q1 := b1 w1 he1; have q2 := b2 w1 he1; have q3 := b3 w1 he1
      have e01 := e0.trans he1
      have d1 := fun W (e : Ext w1 W) => b1 W (he1.trans e)
      have d2 := fun W (e : Ext w1 W) => b2 W (he1.trans e)
      have d3 := fun W (e : Ext w1 W) => b3 W (he1.trans e)
      have a0 := fun W (e : Ext w1 W) => c0 W (e01.trans e)
      have a1 := fun W (e : Ext w1 W) => c1 W (e01.trans e)
      have a2 := fun W (e : Ext w1 W) => c2 W (e01.trans e)
      go_wp2
      refine wp_region_ext (by kernel_rfl) (by kernel_rfl) ?_
      repeat (first | (apply q_plain rfl; (· intro W eW; go_simp; (first | done | rfl | (rw [if_pos] <;> first | omega | rfl))); (try simp only [Act.put, List.setIfInBounds_toArray, List.set_cons_zero, List.set_cons_succ])) | (refine qg_skip (by rfl) ?_; (try simp only [Act.put, List.setIfInBounds_toArray, List.set_cons_zero, List.set_cons_succ])) | (apply qg_plain (by rfl); (· intro W eW; go_simp; (first | done | rfl | (rw [if_pos] <;> first | omega | rfl))); (try simp only [Act.put, List.setIfInBounds_toArray, List.set_cons_zero, List.set_cons_succ])))
      refine q_nil ?_
      intro w2 e2
      have e02 := e01.trans e2
      go_wp2
      go_ret2
      exact StepP.none_ (e02.alloc _)
    | false =>
    cases xd with
    | true =>
      rw [if_neg (by simp)]
      go_enter Tryz.func79, Tryz.ntmps79
      go_wp2_with fail
      rw [← Hw0.out]
      refine Ca.mono ?_
      rintro e w1 ⟨rfl, he1⟩
      have q0 := b0 w1 he1; have q1 := b1 w1 he1; have q2 := b2 w1 he1; have q3 := b3 w1 he1
      have e01 := e0.trans he1
      have d1 := fun W (e : Ext w1 W) => b1 W (he1.trans e)
      have d2 := fun W (e : Ext w1 W) => b2 W (he1.trans e)
      have d3 := fun W (e : Ext w1 W) => b3 W (he1.trans e)
      have a0 := fun W (e : Ext w1 W) => c0 W (e01.trans e)
      have a1 := fun W (e : Ext w1 W) => c1 W (e01.trans e)
      have a2 := fun W (e : Ext w1 W) => c2 W (e01.trans e)
      go_wp2
      refine wp_region_ext (by kernel_rfl) (by kernel_rfl) ?_
      repeat (first | (apply q_plain rfl; (· intro W eW; go_simp; (first | done | rfl | (rw [if_pos] <;> first | omega | rfl))); (try simp only [Act.put, List.setIfInBounds_toArray, List.set_cons_zero, List.set_cons_succ])) | (refine qg_skip (by rfl) ?_; (try simp only [Act.put, List.setIfInBounds_toArray, List.set_cons_zero, List.set_cons_succ])) | (apply qg_plain (by rfl); (· intro W eW; go_simp; (first | done | rfl | (rw [if_pos] <;> first | omega | rfl))); (try simp only [Act.put, List.setIfInBounds_toArray, List.set_cons_zero, List.set_cons_succ])))
      refine q_nil ?_
      intro w2 e2
      have e02 := e01.trans e2
      go_wp2
      go_ret2
      exact StepP.none_ (e02.alloc _)
    | false =>
      by_cases hids : yi = xi
      · subst hids
        rw [if_neg (by simp)]
        rw [eqb_true.2 rfl] at Cs
        go_enter Tryz.func79, Tryz.ntmps79
        go_wp2_with fail
        rw [← Hw0.out]
        refine Ca.mono ?_
        rintro e w1 ⟨rfl, he1⟩
        have q0 := b0 w1 he1; have q1 := b1 w1 he1; have q2 := b2 w1 he1; have q3 := b3 w1 he1
        have e01 := e0.trans he1
        have d1 := fun W (e : Ext w1 W) => b1 W (he1.trans e)
        have d2 := fun W (e : Ext w1 W) => b2 W (he1.trans e)
        have d3 := fun W (e : Ext w1 W) => b3 W (he1.trans e)
        have a0 := fun W (e : Ext w1 W) => c0 W (e01.trans e)
        have a1 := fun W (e : Ext w1 W) => c1 W (e01.trans e)
        have a2 := fun W (e : Ext w1 W) => c2 W (e01.trans e)
        have Cq := fun W (e : Ext w1 W) => Cs W (e01.trans e)
        clear Cs Cp0 Cl0
        go_wp2
        refine wp_region_ext (by kernel_rfl) (by kernel_rfl) ?_
        repeat (first | (apply q_plain rfl; (· intro W eW; go_simp; (first | done | rfl | (rw [if_pos] <;> first | omega | rfl))); (try simp only [Act.put, List.setIfInBounds_toArray, List.set_cons_zero, List.set_cons_succ])) | (refine qg_skip (by rfl) ?_; (try simp only [Act.put, List.setIfInBounds_toArray, List.set_cons_zero, List.set_cons_succ])) | (apply qg_plain (by rfl); (· intro W eW; go_simp; (first | done | rfl | (rw [if_pos] <;> first | omega | rfl))); (try simp only [Act.put, List.setIfInBounds_toArray, List.set_cons_zero, List.set_cons_succ])))
        ((first | apply q_call rfl | apply qg_call (by rfl)); (· intro W eW; go_simp; (first | done | (constructor <;> rfl))); (· intro W eW; exact Cq W eW); (try simp only [Act.put, List.setIfInBounds_toArray, List.set_cons_zero, List.set_cons_succ]))
        repeat (first | (apply q_plain rfl; (· intro W eW; go_simp; (first | done | rfl | (rw [if_pos] <;> first | omega | rfl))); (try simp only [Act.put, List.setIfInBounds_toArray, List.set_cons_zero, List.set_cons_succ])) | (refine qg_skip (by rfl) ?_; (try simp only [Act.put, List.setIfInBounds_toArray, List.set_cons_zero, List.set_cons_succ])) | (apply qg_plain (by rfl); (· intro W eW; go_simp; (first | done | rfl | (rw [if_pos] <;> first | omega | rfl))); (try simp only [Act.put, List.setIfInBounds_toArray, List.set_cons_zero, List.set_cons_succ])))
        refine q_nil ?_
        intro w2 e2
        have e02 := e01.trans e2
        go_wp2
        go_ret2
        exact StepP.none_ (e02.alloc _)
      · rw [if_pos ⟨rfl, rfl, hids⟩]
        rw [eqb_false.2 (by intro e; cases e; exact hids rfl)] at Cs
        go_enter Tryz.func79, Tryz.ntmps79
        go_wp2_with fail
        rw [← Hw0.out]
        refine Ca.mono ?_
        rintro e w1 ⟨rfl, he1⟩
        have q0 := b0 w1 he1; have q1 := b1 w1 he1; have q2 := b2 w1 he1; have q3 := b3 w1 he1
        have e01 := e0.trans he1
        have d1 := fun W (e : Ext w1 W) => b1 W (he1.trans e)
        have d2 := fun W (e : Ext w1 W) => b2 W (he1.trans e)
        have d3 := fun W (e : Ext w1 W) => b3 W (he1.trans e)
        have a0 := fun W (e : Ext w1 W) => c0 W (e01.trans e)
        have a1 := fun W (e : Ext w1 W) => c1 W (e01.trans e)
        have a2 := fun W (e : Ext w1 W) => c2 W (e01.trans e)
        have Cq := fun W (e : Ext w1 W) => Cs W (e01.trans e)
        clear Cs Cl0
        go_wp2
        refine wp_region_ext (by kernel_rfl) (by kernel_rfl) ?_
        repeat (first | (apply q_plain rfl; (· intro W eW; go_simp; (first | done | rfl | (rw [if_pos] <;> first | omega | rfl))); (try simp only [Act.put, List.setIfInBounds_toArray, List.set_cons_zero, List.set_cons_succ])) | (refine qg_skip (by rfl) ?_; (try simp only [Act.put, List.setIfInBounds_toArray, List.set_cons_zero, List.set_cons_succ])) | (apply qg_plain (by rfl); (· intro W eW; go_simp; (first | done | rfl | (rw [if_pos] <;> first | omega | rfl))); (try simp only [Act.put, List.setIfInBounds_toArray, List.set_cons_zero, List.set_cons_succ])))
        ((first | apply q_call rfl | apply qg_call (by rfl)); (· intro W eW; go_simp; (first | done | (constructor <;> rfl))); (· intro W eW; exact Cq W eW); (try simp only [Act.put, List.setIfInBounds_toArray, List.set_cons_zero, List.set_cons_succ]))
        repeat (first | (apply q_plain rfl; (· intro W eW; go_simp; (first | done | rfl | (rw [if_pos] <;> first | omega | rfl))); (try simp only [Act.put, List.setIfInBounds_toArray, List.set_cons_zero, List.set_cons_succ])) | (refine qg_skip (by rfl) ?_; (try simp only [Act.put, List.setIfInBounds_toArray, List.set_cons_zero, List.set_cons_succ])) | (apply qg_plain (by rfl); (· intro W eW; go_simp; (first | done | rfl | (rw [if_pos] <;> first | omega | rfl))); (try simp only [Act.put, List.setIfInBounds_toArray, List.set_cons_zero, List.set_cons_succ])))
        refine q_nil ?_
        intro w2 e2
        have e02 := e01.trans e2
        have q0 := d1 w2 e2; have q1 := d2 w2 e2; have q2 := d3 w2 e2
        go_wp2_with fail
        refine (Cp0 w2 e02).mono ?_
        rintro e w9 ⟨v2, rfl, hO2, he9⟩
        go_wp2
        go_ret2
        exact ⟨_, rfl, (fun S' e => by cases e; exact (hO2.both (B' := w.heap.size) (e02).size (e02).size).sl (EIt_ok _) (Nat.le_refl _) (Nat.le_trans (putIt_length _) (by have := Hl.out; omega))), (e02).trans he9⟩
set_option maxRecDepth 8000 in
set_option maxHeartbeats 2000000 in
theorem l13Step_o {B B' : Nat} {v cv : Value} {S : List It} {x : It} {kd : Int} (k1 : kd ≠ 1) (k2 : kd ≠ 2) (k3 : kd ≠ 3) (w : World) (h : Its B w v S) (hs : Srt S) (hc : ChV B' w cv ⟨kd, x⟩) (hlen : S.length + 1 < lim) :
    Calls Tryz.prog 79 #[v, cv] w (StepP w (stepOf S ⟨kd, x⟩)) := by
  obtain ⟨u3, rfl, hki, hp, hu⟩ := hc
  obtain ⟨xp, xd, xi⟩ := x
  simp only at hki hp hu ⊢
  have H := Lib.hid h
  have HX : Hid (∀ W, Ext w W → ItV B' W (.agg #[.string xp, .bool xd, u3]) ⟨xp, xd, xi⟩) := Lib.hid fun W e => ⟨_, rfl, hp, hu.ext e⟩
  have Ca0 := fun W e => l5At_c xp W (H.out.ext (w' := W) e)
  have Cl0 := fun W e => l5All_c W (H.out.ext (w' := W) e)
  have Cp0 := fun W e => l5Put_c W (H.out.ext (w' := W) e) (HX.out W e) hlen
  obtain ⟨A, cc, rfl, hA⟩ := h
  obtain ⟨Au, cu, rfl, -⟩ := hu
  have HA := Lib.hid hA
  have Hl := Lib.hid hlen
  have Hs := Lib.hid hs
  clear hA hlen hs
  have e0 : Ext w (w.alloc (.cells #[.int .i64 kd, .string xp, .bool xd, .slice Au xi.length cu] 95)) := (Ext.refl w).alloc _
  have hbk := Blk.new w 95 #[.int .i64 kd, .string xp, .bool xd, .slice Au xi.length cu]
  have b0 := fun W (e : Ext _ W) => hbk.at_ (i := 0) (u := .int .i64 kd) rfl W e
  have b1 := fun W (e : Ext _ W) => hbk.at_ (i := 1) (u := .string xp) rfl W e
  have b2 := fun W (e : Ext _ W) => hbk.at_ (i := 2) (u := .bool xd) rfl W e
  have b3 := fun W (e : Ext _ W) => hbk.at_ (i := 3) (u := .slice Au xi.length cu) rfl W e
  clear hbk
  have hex : ∃ w0, w0 = w.alloc (.cells #[.int .i64 kd, .string xp, .bool xd, .slice Au xi.length cu] 95) := ⟨_, rfl⟩
  obtain ⟨w0, hw0⟩ := hex
  rw [← hw0] at e0 b0 b1 b2 b3
  have Hw0 := Lib.hid hw0; clear hw0
  rcases atG_find (pathIs xp) S 0 with ⟨f1, f2⟩ | ⟨i, y, f1, f2, f3, f4, -⟩
  · have Ca : Calls Tryz.prog 91 #[.slice A S.length cc, .string xp] w0 (Ret (.int .i64 (-1)) w0) := by
      have := Ca0 w0 e0; rwa [atPath, f2] at this
    clear Ca0 Cl0
    rw [step_no k1 k2 k3]
    go_enter Tryz.func79, Tryz.ntmps79
    go_wp2_with fail
    rw [← Hw0.out]
    refine Ca.mono ?_
    rintro e w1 ⟨rfl, he1⟩
    have q0 := b0 w1 he1; have q1 := b1 w1 he1; have q2 := b2 w1 he1; have q3 := b3 w1 he1
    have e01 := e0.trans he1
    go_wp2
    go_ret2
    exact StepP.none_ (by (repeat' (first | exact Ext.refl _ | assumption | refine Ext.alloc ?_ _ | refine Ext.drew ?_ | refine Ext.drewN ?_ _)))
  · have Ca : Calls Tryz.prog 91 #[.slice A S.length cc, .string xp] w0 (Ret (.int .i64 (i : Int)) w0) := by
      have := Ca0 w0 e0; rw [atPath, f4] at this; simpa using this
    have hil := lt_of_get f1
    have hi0 : ¬ ((i : Int) < 0) := by omega
    have hyp : y.path = xp := by simpa [pathIs, eqb_iff] using f2
    obtain ⟨bS, oS, uS, rfl, -, -, hpy, hiy, c0, c1, c2⟩ := Its.at_ HA.out f1
    have Cs : ∀ W, Ext w W → Calls Tryz.prog 69 #[.agg #[.string y.path, .bool y.dir, uS], .agg #[.string xp, .bool xd, .slice Au xi.length cu]] W (Ret (.bool (eqb y ⟨xp, xd, xi⟩)) W) := fun W e => spec_l13Same_c W ⟨_, rfl, hpy, hiy.ext e⟩ (HX.out W e)
    have F1 := Lib.hid f1
    obtain ⟨AS, cS, rfl, -⟩ := hiy
    clear Ca0 f1 f2 f4
    rw [step_no k1 k2 k3]
    go_enter Tryz.func79, Tryz.ntmps79
    go_wp2_with fail
    rw [← Hw0.out]
    refine Ca.mono ?_
    rintro e w1 ⟨rfl, he1⟩
    have q0 := b0 w1 he1; have q1 := b1 w1 he1; have q2 := b2 w1 he1; have q3 := b3 w1 he1
    have e01 := e0.trans he1
    go_wp2
    go_ret2
    exact StepP.none_ (by (repeat' (first | exact Ext.refl _ | assumption | refine Ext.alloc ?_ _ | refine Ext.drew ?_ | refine Ext.drewN ?_ _)))

theorem l13Step_c {B B' : Nat} {v cv : Value} {S : List It} {c : Ch} (w : World) (h : Its B w v S) (hs : Srt S) (hc : ChV B' w cv c) (hlen : S.length + 1 < lim) :
    Calls Tryz.prog 79 #[v, cv] w (StepP w (stepOf S c)) := by
  obtain ⟨kd, x⟩ := c
  by_cases k1 : kd = 1
  · subst k1; exact l13Step_1 w h hs hc hlen
  by_cases k2 : kd = 2
  · subst k2; exact l13Step_2 w h hs hc hlen
  by_cases k3 : kd = 3
  · subst k3; exact l13Step_3 w h hs hc hlen
  exact l13Step_o k1 k2 k3 w h hs hc hlen
end Go.Sf

/-! The reference's ChangesRun. -/
namespace Go.Sf
open Go Go.RowKit Go.Proofs
theorem runOf_no {l : List It} {cs : List Ch} (h : treeOk l = false) : runOf l cs = none := by unfold runOf; rw [if_neg (by simp [h])]
theorem runOf_none {l : List It} {cs : List Ch} (h : runAll l cs = none) : runOf l cs = none := by unfold runOf; rw [h]; split <;> rfl
theorem runOf_of {l S : List It} {cs : List Ch} (h : treeOk l = true) (hr : runAll l cs = some S) : runOf l cs = if treeOk S = true then some S else none := by unfold runOf; rw [if_pos h, hr]; rfl
set_option maxRecDepth 8000 in
set_option maxHeartbeats 2000000 in
theorem specChangesRun_c {B B' : Nat} {v vc : Value} {l : List It} {cs : List Ch} (w : World) (h : Its B w v l) (hc : Chs B' w vc cs) (hcl : cs.length ≤ 4000000) :
    Calls Tryz.prog 38 #[v, vc] w (RetP (OptIts w.heap.size (runOf l cs)) w) := by
  have H := Lib.hid h
  have Ct : ∀ W, Ext w W → Calls Tryz.prog 67 #[v] W (Ret (.bool (treeOk l)) W) := fun W e => specTreeValid_c W (H.out.ext e)
  obtain ⟨A, c, rfl, hA⟩ := hc
  cases ht : treeOk l with
  | false =>
    rw [ht] at Ct
    have Hd := Lib.hid (runOf_no (cs := cs) ht)
    clear ht h hA
    go_enter Tryz.func38, Tryz.ntmps38
    go_wp2_with fail
    refine (Ct _ (Ext.refl _)).mono ?_
    rintro e w1 ⟨rfl, he1⟩
    go_wp2
    go_ret2
    exact ⟨_, rfl, OptIts.none_ Hd.out, he1.alloc _⟩
  | true =>
  rw [ht] at Ct
  have hl12 := (tree_set.1 ht).1
  have Hsl := Lib.hid (tree_set.1 ht).2.1
  have Ht := Lib.hid ht
  have hex : ∃ n, cs.length = n := ⟨_, rfl⟩
  obtain ⟨n, hn⟩ := hex
  rw [hn] at hcl ⊢
  have Hn := Lib.hid hn
  have HA := Lib.hid hA
  clear hA hn h ht
  go_enter Tryz.func38, Tryz.ntmps38
  go_wp2_with fail
  refine (Ct _ (Ext.refl _)).mono ?_
  rintro e w1 ⟨rfl, he1⟩
  go_wp2_with fail
  refine (l5All_c w1 (H.out.ext he1)).mono ?_
  rintro e w2 ⟨v2, rfl, hO, he2⟩
  have e02 := he1.trans he2
  have HI2 : Hid (Its w.heap.size w2 v2 l) := Lib.hid ((hO.both (B' := w.heap.size) he1.size he1.size).sl (EIt_ok _) (Nat.le_refl _) (by unfold lim; omega))
  clear hO
  go_wp2
  go_loopw [6, 7] (fun v i wr => ∃ (k : Nat) (S : List It), k ≤ n ∧ i = .int .i64 k ∧ Ext w wr ∧ Its w.heap.size wr v S ∧ S.length ≤ 12 + k ∧ Hid (Srt S) ∧ Hid (runAll l cs = runAll S (cs.drop k))) (fun _ i _ => n - (intOf i).toNat)
  case atStart => exact ⟨0, l, by omega, rfl, e02, HI2.out, by omega, Hsl, Lib.hid (by simp)⟩
  case round =>
    obtain ⟨k, S, hk, rfl, he, hI, hSl, hS, hrest⟩ := hrel
    have HI := Lib.hid hI
    by_cases hlt : k < n
    · obtain ⟨x, hx⟩ := get_of_lt (l := cs) (k := k) (by rw [Hn.out]; exact hlt)
      obtain ⟨b, o, u, rfl, -, -, hki, hps, hu, hc0, hc1, hc2, hc3⟩ := Chs.at_ HA.out hx
      obtain ⟨Ax, cx, rfl, hux⟩ := hu
      have hd := drop_cons hx
      rw [hd] at hrest
      obtain ⟨kd, ⟨xp, xd, xi⟩⟩ := x
      simp only at hki hps hux hc0 hc1 hc2 hc3
      have a0 := fun W (e : Ext wr W) => hc0 W (he.trans e); have a1 := fun W (e : Ext wr W) => hc1 W (he.trans e); have a2 := fun W (e : Ext wr W) => hc2 W (he.trans e); have a3 := fun W (e : Ext wr W) => hc3 W (he.trans e)
      have q0 := a0 wr (Ext.refl _); have q1 := a1 wr (Ext.refl _); have q2 := a2 wr (Ext.refl _); have q3 := a3 wr (Ext.refl _)
      have HX : Hid (∀ W, Ext wr W → ItV B' W (.agg #[.string xp, .bool xd, .slice Ax xi.length cx]) ⟨xp, xd, xi⟩) := Lib.hid fun W e => ⟨_, rfl, hps, Ints.ext (show Ints B' w _ _ from ⟨_, _, rfl, hux⟩) (he.trans e)⟩
      have HC : Hid (∀ W, Ext wr W → ChV B' W (.agg #[.int .i64 kd, .string xp, .bool xd, .slice Ax xi.length cx]) ⟨kd, ⟨xp, xd, xi⟩⟩) := Lib.hid fun W e => ⟨_, rfl, hki, hps, Ints.ext (show Ints B' w _ _ from ⟨_, _, rfl, hux⟩) (he.trans e)⟩
      have Ci := fun W (e : Ext wr W) => l5Item_c W (HX.out W e)
      clear hc0 hc1 hc2 hc3 hux hx hd hI
      cases hio : itemOk ⟨xp, xd, xi⟩ with
      | false =>
        rw [hio] at Ci
        have Hr : Hid (runOf l cs = none) := Lib.hid (runOf_none (by rw [hrest.out, run_bad hio]))
        clear hio hrest
        go_wp2_with (go_at_call 78; refine (Ci _ (Ext.refl _)).mono ?_; rintro e w3 ⟨rfl, he3⟩)
        go_ret2
        exact ⟨_, rfl, OptIts.none_ Hr.out, (he.trans he3).alloc _⟩
      | true =>
      rw [hio] at Ci
      go_wp2_with (go_at_call 78; refine (Ci _ (Ext.refl _)).mono ?_; rintro e w3 ⟨rfl, he3⟩; have q0 := a0 w3 he3; have q1 := a1 w3 he3; have q2 := a2 w3 he3; have q3 := a3 w3 he3)
      refine (l13Step_c w3 (HI.out.ext he3) hS.out (HC.out _ he3) (by unfold lim; omega)).mono ?_
      rintro e w4 ⟨u4, rfl, hst, he4⟩
      have Hst := Lib.hid hst
      clear hst q0 q1 q2 q3 a0 a1 a2 a3
      cases hsp : stepOf S ⟨kd, ⟨xp, xd, xi⟩⟩ with
      | none =>
        have Hr : Hid (runOf l cs = none) := Lib.hid (runOf_none (by rw [hrest.out, run_none hsp]))
        clear hrest hsp
        simp only [Option.isSome_none]
        go_wp2
        go_ret2
        exact ⟨_, rfl, OptIts.none_ Hr.out, ((he.trans he3).trans he4).alloc _⟩
      | some S' =>
        have Hr : Hid (runAll l cs = runAll S' (cs.drop (k + 1))) := Lib.hid (by rw [hrest.out, run_step hio hsp])
        have hss := step_srt hS.out hsp
        have HI4 : Hid (Its w.heap.size w4 u4 S') := Lib.hid ((Hst.out S' hsp).keep (he.trans he3).size (fun _ _ _ => rfl))
        have HS' := Lib.hid hss.1
        have hsl := hss.2
        clear hrest hsp hss Hst
        simp only [Option.isSome_some]
        go_wp2
        go_roundw
        case rel => exact ⟨k + 1, S', by omega, by go_num, (he.trans he3).trans he4, HI4.out, by omega, HS', Hr⟩
        case measure => simp [intOf]; omega
    · have hks : k = n := by omega
      subst hks
      have Hr : Hid (runOf l cs = if treeOk S = true then some S else none) := Lib.hid (runOf_of Ht.out (by rw [hrest.out, List.drop_eq_nil_of_le (by rw [Hn.out]; exact Nat.le_refl _)]; rfl))
      have Cv := specTreeValid_c wr hI
      clear hrest hI
      cases hts : treeOk S with
      | false =>
        rw [hts] at Cv
        have Hr2 : Hid (runOf l cs = none) := Lib.hid (by rw [Hr.out, hts]; rfl)
        clear hts
        go_wp2_with (go_at_call 67; refine Cv.mono ?_; rintro e w3 ⟨rfl, he3⟩)
        go_ret2
        exact ⟨_, rfl, OptIts.none_ Hr2.out, (he.trans he3).alloc _⟩
      | true =>
        rw [hts] at Cv
        have Hr2 : Hid (runOf l cs = some S) := Lib.hid (by rw [Hr.out, hts]; rfl)
        clear hts
        go_wp2_with (go_at_call 67; refine Cv.mono ?_; rintro e w3 ⟨rfl, he3⟩)
        go_ret2
        exact ⟨_, rfl, OptIts.some_ Hr2.out (HI.out.ext he3), he.trans he3⟩
end Go.Sf
