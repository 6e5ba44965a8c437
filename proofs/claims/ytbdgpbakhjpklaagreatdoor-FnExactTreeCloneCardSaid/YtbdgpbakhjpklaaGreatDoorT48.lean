/- The sort of items by their paths: the closure, and what the library's sort leaves. -/
import Derived.Test.YtbdgpbakhjpklaaGreatDoorGK
import Derived.Shelf.SlSortCmp.WholeK
namespace Go.Sf
open Go Go.RowKit Go.Proofs Go.Sort
instance : Inhabited It := ⟨⟨⟨#[]⟩, false, []⟩⟩
/-- an item and where its ids lie -/
abbrev SI := It × Option Addr × Nat
def encSI (q : SI) : List Value := [.string q.1.path, .bool q.1.dir, .slice q.2.1 q.1.ids.length q.2.2]
theorem encSI_len (q : SI) : (encSI q).length = 3 := rfl
theorem encSI_one (q : SI) : ∀ v ∈ encSI q, v.oneCell' = true := by
  intro v hv
  simp [encSI] at hv
  rcases hv with rfl | rfl | rfl <;> rfl
def cmpSI (x y : SI) : Int := cmpB x.1.path y.1.path
theorem ltSI (x y : SI) : ltOf cmpSI x y = blt x.1.path y.1.path := by
  unfold ltOf cmpSI
  cases h1 : blt x.1.path y.1.path with
  | true => rw [cmpB_lt h1]; rfl
  | false =>
    cases h2 : blt y.1.path x.1.path with
    | true => rw [cmpB_gt h1 h2]; rfl
    | false => rw [cmpB_eq h1 h2]; rfl
theorem swoSI : SWO (ltOf cmpSI) where
  irrefl x := by rw [ltSI]; exact blt_irr _
  trans x y z h1 h2 := by rw [ltSI] at *; exact blt_tr h1 h2
  ntrans x y z h1 h2 := by
    rw [ltSI] at *
    cases h : blt x.1.path z.1.path with
    | false => rfl
    | true =>
      cases h3 : blt y.1.path x.1.path with
      | true => rw [blt_tr h3 h] at h2; cases h2
      | false => rw [blt_tot h1 h3, h2] at h; cases h
set_option maxHeartbeats 1000000 in
theorem isNaN_same (s : ByteArray) (w : World) : Calls Tryz.prog 117 #[.string s] w (fun e w' => e = .returned (.bool false) ∧ w' = w) := by
  go_enter Tryz.func117, Tryz.ntmps117
  go_wp2
  go_ret
  exact ⟨by simp, rfl⟩
set_option maxHeartbeats 1000000 in
theorem Compare_same (s t : ByteArray) (w : World) : Calls Tryz.prog 88 #[.string s, .string t] w (fun e w' => e = .returned (.int .i64 (cmpB s t)) ∧ w' = w) := by
  cases h1 : blt s t with
  | true =>
    have H := Lib.hid (cmpB_lt h1)
    have g1 : Op.bytesLess s.toList t.toList = true := h1
    clear h1
    go_enter Tryz.func88, Tryz.ntmps88
    go_wp2_with (go_at_call 117; refine (isNaN_same _ _).mono ?_; rintro e w1 ⟨rfl, rfl⟩)
    go_ret
    exact ⟨ret_i H.out.symm, rfl⟩
  | false =>
    cases h2 : blt t s with
    | true =>
      have H := Lib.hid (cmpB_gt h1 h2)
      have g1 : Op.bytesLess s.toList t.toList = false := h1
      have g2 : (s.toList == t.toList) = false := by rw [bytes_ne_iff, decide_eq_false_iff_not]; rintro rfl; rw [blt_irr] at h2; cases h2
      clear h1 h2
      go_enter Tryz.func88, Tryz.ntmps88
      go_wp2_with (go_at_call 117; refine (isNaN_same _ _).mono ?_; rintro e w1 ⟨rfl, rfl⟩)
      go_ret
      exact ⟨ret_i H.out.symm, rfl⟩
    | false =>
      have H := Lib.hid (cmpB_eq h1 h2)
      have g1 : Op.bytesLess s.toList t.toList = false := h1
      have g2 : (s.toList == t.toList) = true := by rw [bytes_ne_iff, decide_eq_true_iff]; exact blt_tot h1 h2
      clear h1 h2
      go_enter Tryz.func88, Tryz.ntmps88
      go_wp2_with (go_at_call 117; refine (isNaN_same _ _).mono ?_; rintro e w1 ⟨rfl, rfl⟩)
      go_ret
      exact ⟨ret_i H.out.symm, rfl⟩
set_option maxHeartbeats 1000000 in
theorem inTree1_c (x y : SI) (W : World) : Calls Tryz.prog 87 #[.agg (encSI x).toArray, .agg (encSI y).toArray] W fun e w' => e = .returned (.int .i64 (cmpSI x y)) ∧ ∃ q os', w' = grow (W.drewN q) os' := by
  have hcon := fun W' => Compare_same x.1.path y.1.path W'
  show Calls Tryz.prog 87 #[.agg #[.string x.1.path, .bool x.1.dir, .slice x.2.1 x.1.ids.length x.2.2], .agg #[.string y.1.path, .bool y.1.dir, .slice y.2.1 y.1.ids.length y.2.2]] W _
  unfold cmpSI
  generalize cmpB x.1.path y.1.path = r at hcon ⊢
  go_enter Tryz.func87, Tryz.ntmps87
  go_wp2_with (go_at_call 88; refine (hcon _).mono ?_; rintro e w' ⟨rfl, rfl⟩)
  go_ret
  exact ⟨rfl, 0, _, by rw [alloc_eq_grow, alloc_eq_grow, grow_grow]; rfl⟩
theorem cmpLaysSI (blk off size : Nat) (w : World) : CmpLays Tryz.prog 87 #[] encSI 3 cmpSI blk off size w :=
  fun _ _ _ _ x y => inTree1_c x y _
/-! ### the row, in the sort's words -/
theorem list_choice {α β : Type} {P : Nat → α → β → Prop} : ∀ (l : List α), (∀ k x, l[k]? = some x → ∃ y, P k x y) → ∃ ys : List β, ys.length = l.length ∧ ∀ (k : Nat) (x : α) (y : β), l[k]? = some x → ys[k]? = some y → P k x y := by
  intro l
  induction l generalizing P with
  | nil => intro _; exact ⟨[], rfl, fun k x y h => by simp at h⟩
  | cons a r ih =>
    intro h
    obtain ⟨b, hb⟩ := h 0 a rfl
    obtain ⟨ys, h1, h2⟩ := ih (P := fun k => P (k + 1)) fun k x hx => h (k + 1) x (by simpa using hx)
    refine ⟨b :: ys, by simp [h1], fun k x y hx hy => ?_⟩
    cases k with
    | zero => simp at hx hy; subst hx; subst hy; exact hb
    | succ k => exact h2 k x y (by simpa using hx) (by simpa using hy)
end Go.Sf
