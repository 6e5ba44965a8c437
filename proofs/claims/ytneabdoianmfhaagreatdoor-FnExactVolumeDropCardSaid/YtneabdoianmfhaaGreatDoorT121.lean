/- The reference puts an item into a valid tree. -/
import Derived.Test.YtneabdoianmfhaaGreatDoorGJ
import Derived.Test.YtneabdoianmfhaaGreatDoorT57
import Derived.Test.YtneabdoianmfhaaGreatDoorGI
namespace Go.Sf
open Go Go.RowKit Go.Proofs
def mayPut (l : List It) (x : It) : Bool := match findIt l x.path with
  | some y => !(y.dir || x.dir)
  | none => true
/-- a tree with an item put into it -/
noncomputable def treePut (l : List It) (x : It) : Option (List It) :=
  if treeOk l = true ∧ itemOk x = true ∧ mayPut l x = true ∧ treeOk (putIt x l) = true then some (putIt x l) else none
set_option maxRecDepth 4000 in
set_option maxHeartbeats 2000000 in
theorem specTreePut_c {B B' : Nat} {v xv : Value} {l : List It} {x : It} (w : World) (h : Its B w v l) (hx : ItV B' w xv x) :
    Calls Tryz.prog 96 #[v, xv] w (RetP (OptIts w.heap.size (treePut l x)) w) := by
  have H := Lib.hid h; have HX := Lib.hid hx
  obtain ⟨A, c, rfl, hA⟩ := h
  have hl := hA.2.2.1
  unfold lim at hl
  obtain ⟨ux, rfl, hpx, hux⟩ := hx
  obtain ⟨Ax, cx, rfl, -⟩ := hux
  have hbk := Blk.new w 100 #[.string x.path, .bool x.dir, .slice Ax x.ids.length cx]
  have e0 : Ext w (w.alloc (.cells #[.string x.path, .bool x.dir, .slice Ax x.ids.length cx] 100)) := (Ext.refl w).alloc _
  have d0 := fun W (e : Ext _ W) => hbk.at_ (i := 0) (u := .string x.path) rfl W e
  have d1 := fun W (e : Ext _ W) => hbk.at_ (i := 1) (u := .bool x.dir) rfl W e
  have d2 := fun W (e : Ext _ W) => hbk.at_ (i := 2) (u := .slice Ax x.ids.length cx) rfl W e
  have C1 := fun W (e : Ext (w.alloc (.cells #[.string x.path, .bool x.dir, .slice Ax x.ids.length cx] 100)) W) => specTreeValid_c W (H.out.ext (e0.trans e))
  have C2 := fun W (e : Ext (w.alloc (.cells #[.string x.path, .bool x.dir, .slice Ax x.ids.length cx] 100)) W) => l5Item_c W (HX.out.ext (e0.trans e))
  have HA := Lib.hid hA
  clear hbk hA
  cases h1 : treeOk l with
  | false =>
    rw [h1] at C1
    have Hr : Hid (treePut l x = none) := Lib.hid (by unfold treePut; rw [if_neg]; rw [h1]; simp)
    clear h1 C2
    go_enter Tryz.func96, Tryz.ntmps96
    go_wp2_with (go_at_call 112; (with_reducible show Calls _ _ #[.slice _ l.length c] _ _); refine (C1 _ (Ext.refl _)).mono ?_; rintro e w2 ⟨rfl, he2⟩)
    go_ret2
    exact ⟨_, rfl, OptIts.none_ Hr.out, (e0.trans he2).alloc _⟩
  | true =>
  rw [h1] at C1
  cases h2 : itemOk x with
  | false =>
    rw [h2] at C2
    have Hr : Hid (treePut l x = none) := Lib.hid (by unfold treePut; rw [if_neg]; rw [h2]; simp)
    clear h1 h2
    go_enter Tryz.func96, Tryz.ntmps96
    go_wp2_with (first | (go_at_call 112; (with_reducible show Calls _ _ #[.slice _ l.length c] _ _); refine (C1 _ (Ext.refl _)).mono ?_; rintro e w2 ⟨rfl, he2⟩; have q0 := d0 w2 he2; have q1 := d1 w2 he2; have q2 := d2 w2 he2) | (go_at_call 155; refine (C2 _ he2).mono ?_; rintro e w3 ⟨rfl, he3⟩))
    go_ret2
    exact ⟨_, rfl, OptIts.none_ Hr.out, ((e0.trans he2).trans he3).alloc _⟩
  | true =>
  rw [h2] at C2
  have h12 : l.length ≤ 12 := (treeOk_iff.1 h1).1
  have C4 := fun W (e : Ext (w.alloc (.cells #[.string x.path, .bool x.dir, .slice Ax x.ids.length cx] 100)) W) => l5Put_c W (H.out.ext (e0.trans e)) (HX.out.ext (e0.trans e)) (by unfold lim; omega)
  have Hp : Hid (treePut l x = if mayPut l x = true ∧ treeOk (putIt x l) = true then some (putIt x l) else none) := Lib.hid (by unfold treePut; simp [h1, h2])
  have hpl := putIt_length (x := x) l
  clear h1 h2
  rcases atG_find (pathIs x.path) l 0 with ⟨h1, h2⟩ | ⟨i, y, h1, h2, h3, h4, -⟩
  · have C3 : ∀ W, Ext (w.alloc (.cells #[.string x.path, .bool x.dir, .slice Ax x.ids.length cx] 100)) W → Calls Tryz.prog 106 #[.slice A l.length c, .string x.path] W (Ret (.int .i64 (-1)) W) := fun W e => by rw [← h2]; exact l5At_c _ W (H.out.ext (e0.trans e))
    have hm : mayPut l x = true := by unfold mayPut findIt; rw [h1]
    clear h1 h2
    cases hv : treeOk (putIt x l) with
    | false =>
      have Cv : ∀ W v2, Its w.heap.size W v2 (putIt x l) → Calls Tryz.prog 112 #[v2] W (Ret (.bool false) W) := fun W v2 hh => by rw [← hv]; exact specTreeValid_c W hh
      have hd : treePut l x = none := by rw [Hp.out, hv]; simp
      have Hd := Lib.hid hd; clear hd hv Hp
      go_enter Tryz.func96, Tryz.ntmps96
      go_wp2_with (first | (go_at_call 112; (with_reducible show Calls _ _ #[.slice _ l.length c] _ _); refine (C1 _ (Ext.refl _)).mono ?_; rintro e w2 ⟨rfl, he2⟩; have q0 := d0 w2 he2; have q1 := d1 w2 he2; have q2 := d2 w2 he2) | (go_at_call 155; refine (C2 _ he2).mono ?_; rintro e w3 ⟨rfl, he3⟩; have he4 := he2.trans he3; have r0 := d0 w3 he4; have r1 := d1 w3 he4; clear q0 q1 q2) | (go_at_call 106; refine (C3 _ he4).mono ?_; rintro e w5 ⟨rfl, he5⟩; have he6 := he4.trans he5; have s0 := d0 w5 he6; have s1 := d1 w5 he6; have s2 := d2 w5 he6; clear r0 r1 he5) | (go_at_call 156; refine (C4 _ he6).mono ?_; rintro e w7 ⟨v2, rfl, hO, he7⟩; have he8 := he6.trans he7; have hI := (hO.sl (EIt_ok _) (Nat.le_refl _) (by unfold lim; omega)); have HI := Lib.hid (Its.keep hI ((e0.trans he6).size) (fun _ _ _ => rfl)); clear hO hI he7) | (go_at_call 112; (with_reducible show Calls _ _ #[v2] _ _); refine (Cv _ _ HI.out).mono ?_; rintro e w9 ⟨rfl, he9⟩))
      go_ret2
      exact ⟨_, rfl, OptIts.none_ Hd.out, ((e0.trans he8).trans he9).alloc _⟩
    | true =>
      have Cv : ∀ W v2, Its w.heap.size W v2 (putIt x l) → Calls Tryz.prog 112 #[v2] W (Ret (.bool true) W) := fun W v2 hh => by rw [← hv]; exact specTreeValid_c W hh
      have hd : treePut l x = some (putIt x l) := by rw [Hp.out, hv]; simp [hm]
      have Hd := Lib.hid hd; clear hd hv Hp
      go_enter Tryz.func96, Tryz.ntmps96
      go_wp2_with (first | (go_at_call 112; (with_reducible show Calls _ _ #[.slice _ l.length c] _ _); refine (C1 _ (Ext.refl _)).mono ?_; rintro e w2 ⟨rfl, he2⟩; have q0 := d0 w2 he2; have q1 := d1 w2 he2; have q2 := d2 w2 he2) | (go_at_call 155; refine (C2 _ he2).mono ?_; rintro e w3 ⟨rfl, he3⟩; have he4 := he2.trans he3; have r0 := d0 w3 he4; have r1 := d1 w3 he4; clear q0 q1 q2) | (go_at_call 106; refine (C3 _ he4).mono ?_; rintro e w5 ⟨rfl, he5⟩; have he6 := he4.trans he5; have s0 := d0 w5 he6; have s1 := d1 w5 he6; have s2 := d2 w5 he6; clear r0 r1 he5) | (go_at_call 156; refine (C4 _ he6).mono ?_; rintro e w7 ⟨v2, rfl, hO, he7⟩; have he8 := he6.trans he7; have hI := (hO.sl (EIt_ok _) (Nat.le_refl _) (by unfold lim; omega)); have HI := Lib.hid (Its.keep hI ((e0.trans he6).size) (fun _ _ _ => rfl)); clear hO hI he7) | (go_at_call 112; (with_reducible show Calls _ _ #[v2] _ _); refine (Cv _ _ HI.out).mono ?_; rintro e w9 ⟨rfl, he9⟩))
      go_ret2
      refine ⟨_, rfl, ?_, (e0.trans he8).trans he9⟩
      rw [Hd.out]
      exact ⟨v2, rfl, HI.out.ext he9⟩
  · have C3 : ∀ W, Ext (w.alloc (.cells #[.string x.path, .bool x.dir, .slice Ax x.ids.length cx] 100)) W → Calls Tryz.prog 106 #[.slice A l.length c, .string x.path] W (Ret (.int .i64 (i : Int)) W) := fun W e => by
      have := l5At_c x.path W (H.out.ext (e0.trans e)); rw [atPath, h4] at this; simpa using this
    have hil := lt_of_get h1
    have hf : findIt l x.path = some y := h3
    obtain ⟨b, o, u2, rfl, -, -, -, -, -, hc1, -⟩ := Its.at_ HA.out h1
    have D1 := fun W (e : Ext (w.alloc (.cells #[.string x.path, .bool x.dir, .slice Ax x.ids.length cx] 100)) W) => hc1 W (e0.trans e)
    clear hc1 h1 h2 h3 h4
    by_cases hyd : (y.dir || x.dir) = true
    · have Hr : Hid (treePut l x = none) := Lib.hid (by rw [Hp.out, if_neg]; unfold mayPut; rw [hf]; simp [hyd])
      cases hyd1 : y.dir with
      | true =>
        rw [hyd1] at D1
        clear hf hyd hyd1 Hp
        go_enter Tryz.func96, Tryz.ntmps96
        go_wp2_with (first | (go_at_call 112; (with_reducible show Calls _ _ #[.slice _ l.length c] _ _); refine (C1 _ (Ext.refl _)).mono ?_; rintro e w2 ⟨rfl, he2⟩; have q0 := d0 w2 he2; have q1 := d1 w2 he2; have q2 := d2 w2 he2) | (go_at_call 155; refine (C2 _ he2).mono ?_; rintro e w3 ⟨rfl, he3⟩; have he4 := he2.trans he3; have r0 := d0 w3 he4; have r1 := d1 w3 he4; clear q0 q1 q2) | (go_at_call 106; refine (C3 _ he4).mono ?_; rintro e w5 ⟨rfl, he5⟩; have he6 := he4.trans he5; have s0 := d0 w5 he6; have s1 := d1 w5 he6; have s2 := d2 w5 he6; have s3 := D1 w5 he6; clear r0 r1 he5) |  fail)
        go_ret2
        exact ⟨_, rfl, OptIts.none_ Hr.out, (e0.trans he6).alloc _⟩
      | false =>
        have hxd : x.dir = true := by rw [hyd1] at hyd; simpa using hyd
        rw [hyd1] at D1
        clear hf hyd hyd1 Hp
        obtain ⟨xp, xd, xi⟩ := x
        simp only at *
        subst hxd
        go_enter Tryz.func96, Tryz.ntmps96
        go_wp2_with (first | (go_at_call 112; (with_reducible show Calls _ _ #[.slice _ l.length c] _ _); refine (C1 _ (Ext.refl _)).mono ?_; rintro e w2 ⟨rfl, he2⟩; have q0 := d0 w2 he2; have q1 := d1 w2 he2; have q2 := d2 w2 he2) | (go_at_call 155; refine (C2 _ he2).mono ?_; rintro e w3 ⟨rfl, he3⟩; have he4 := he2.trans he3; have r0 := d0 w3 he4; have r1 := d1 w3 he4; clear q0 q1 q2) | (go_at_call 106; refine (C3 _ he4).mono ?_; rintro e w5 ⟨rfl, he5⟩; have he6 := he4.trans he5; have s0 := d0 w5 he6; have s1 := d1 w5 he6; have s2 := d2 w5 he6; have s3 := D1 w5 he6; clear r0 r1 he5) |  fail)
        go_ret2
        exact ⟨_, rfl, OptIts.none_ Hr.out, (e0.trans he6).alloc _⟩
    · have hyd1 : y.dir = false := by cases h : y.dir <;> simp [h] at hyd ⊢
      have hxd : x.dir = false := by cases h : x.dir <;> simp [h] at hyd ⊢
      have hm : mayPut l x = true := by unfold mayPut; rw [hf]; simp [hyd1, hxd]
      rw [hyd1] at D1
      clear hf hyd hyd1
      obtain ⟨xp, xd, xi⟩ := x
      simp only at *
      subst hxd
      cases hv : treeOk (putIt ⟨xp, false, xi⟩ l) with
      | false =>
        have Cv : ∀ W v2, Its w.heap.size W v2 (putIt ⟨xp, false, xi⟩ l) → Calls Tryz.prog 112 #[v2] W (Ret (.bool false) W) := fun W v2 hh => by rw [← hv]; exact specTreeValid_c W hh
        have hd : treePut l ⟨xp, false, xi⟩ = none := by rw [Hp.out, hv]; simp
        have Hd := Lib.hid hd; clear hd hv Hp
        go_enter Tryz.func96, Tryz.ntmps96
        go_wp2_with (first | (go_at_call 112; (with_reducible show Calls _ _ #[.slice _ l.length c] _ _); refine (C1 _ (Ext.refl _)).mono ?_; rintro e w2 ⟨rfl, he2⟩; have q0 := d0 w2 he2; have q1 := d1 w2 he2; have q2 := d2 w2 he2) | (go_at_call 155; refine (C2 _ he2).mono ?_; rintro e w3 ⟨rfl, he3⟩; have he4 := he2.trans he3; have r0 := d0 w3 he4; have r1 := d1 w3 he4; clear q0 q1 q2) | (go_at_call 106; refine (C3 _ he4).mono ?_; rintro e w5 ⟨rfl, he5⟩; have he6 := he4.trans he5; have s0 := d0 w5 he6; have s1 := d1 w5 he6; have s2 := d2 w5 he6; have s3 := D1 w5 he6; clear r0 r1 he5) | (go_at_call 156; refine (C4 _ he6).mono ?_; rintro e w7 ⟨v2, rfl, hO, he7⟩; have he8 := he6.trans he7; have hI := (hO.sl (EIt_ok _) (Nat.le_refl _) (by unfold lim; omega)); have HI := Lib.hid (Its.keep hI ((e0.trans he6).size) (fun _ _ _ => rfl)); clear hO hI he7) | (go_at_call 112; (with_reducible show Calls _ _ #[v2] _ _); refine (Cv _ _ HI.out).mono ?_; rintro e w9 ⟨rfl, he9⟩))
        go_ret2
        exact ⟨_, rfl, OptIts.none_ Hd.out, ((e0.trans he8).trans he9).alloc _⟩
      | true =>
        have Cv : ∀ W v2, Its w.heap.size W v2 (putIt ⟨xp, false, xi⟩ l) → Calls Tryz.prog 112 #[v2] W (Ret (.bool true) W) := fun W v2 hh => by rw [← hv]; exact specTreeValid_c W hh
        have hd : treePut l ⟨xp, false, xi⟩ = some (putIt ⟨xp, false, xi⟩ l) := by rw [Hp.out, hv]; simp [hm]
        have Hd := Lib.hid hd; clear hd hv Hp
        go_enter Tryz.func96, Tryz.ntmps96
        go_wp2_with (first | (go_at_call 112; (with_reducible show Calls _ _ #[.slice _ l.length c] _ _); refine (C1 _ (Ext.refl _)).mono ?_; rintro e w2 ⟨rfl, he2⟩; have q0 := d0 w2 he2; have q1 := d1 w2 he2; have q2 := d2 w2 he2) | (go_at_call 155; refine (C2 _ he2).mono ?_; rintro e w3 ⟨rfl, he3⟩; have he4 := he2.trans he3; have r0 := d0 w3 he4; have r1 := d1 w3 he4; clear q0 q1 q2) | (go_at_call 106; refine (C3 _ he4).mono ?_; rintro e w5 ⟨rfl, he5⟩; have he6 := he4.trans he5; have s0 := d0 w5 he6; have s1 := d1 w5 he6; have s2 := d2 w5 he6; have s3 := D1 w5 he6; clear r0 r1 he5) | (go_at_call 156; refine (C4 _ he6).mono ?_; rintro e w7 ⟨v2, rfl, hO, he7⟩; have he8 := he6.trans he7; have hI := (hO.sl (EIt_ok _) (Nat.le_refl _) (by unfold lim; omega)); have HI := Lib.hid (Its.keep hI ((e0.trans he6).size) (fun _ _ _ => rfl)); clear hO hI he7) | (go_at_call 112; (with_reducible show Calls _ _ #[v2] _ _); refine (Cv _ _ HI.out).mono ?_; rintro e w9 ⟨rfl, he9⟩))
        go_ret2
        refine ⟨_, rfl, ?_, (e0.trans he8).trans he9⟩
        rw [Hd.out]
        exact ⟨v2, rfl, HI.out.ext he9⟩
end Go.Sf
