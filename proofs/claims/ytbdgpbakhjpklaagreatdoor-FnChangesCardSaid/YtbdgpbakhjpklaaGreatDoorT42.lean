/- The reference moves and clones items of a tree. -/
import Derived.Test.YtbdgpbakhjpklaaGreatDoorT41
import Derived.Test.YtbdgpbakhjpklaaGreatDoorP12
namespace Go.Sf
open Go Go.RowKit Go.Proofs
theorem copyAll_out {f t : ByteArray} {x : It} {r : List It} (h : within x.path f = false) : copyAll f t (x :: r) = copyAll f t r := by rw [copyAll, if_neg (by simp [h])]
theorem copyAll_fail {f t : ByteArray} {x : It} {r : List It} (h : within x.path f = true) (hp : pmove x.path f t = none) : copyAll f t (x :: r) = none := by
  rw [copyAll, if_pos h, mvItem, hp]; rfl
theorem copyAll_in {f t p : ByteArray} {x : It} {r : List It} (h : within x.path f = true) (hp : pmove x.path f t = some p) : copyAll f t (x :: r) = (copyAll f t r).map fun ys => ⟨p, x.dir, x.ids⟩ :: ys := by
  rw [copyAll, if_pos h, mvItem, hp]; rfl
theorem OptIts.some_ {B : Nat} {w : World} {o : Option (List It)} {L : List It} {v : Value} (h : o = some L) (hs : Its B w v L) : OptIts B o (.tuple #[v, .bool true]) w := by
  subst h; exact ⟨_, rfl, hs⟩
set_option maxRecDepth 8000 in
set_option maxHeartbeats 2000000 in
theorem l23Copies_c {B : Nat} {v : Value} {l : List It} (f t : ByteArray) (w : World) (h : Its B w v l) (hf : f.size < lim) (ht : t.size < lim) :
    Calls Tryz.prog 48 #[v, .string f, .string t] w (RetP (OptIts w.heap.size (copyAll f t l)) w) := by
  obtain ⟨A, c, rfl, hA⟩ := h
  have hl := hA.2.2.1
  unfold lim at hl
  have hex : ∃ n, l.length = n := ⟨_, rfl⟩
  obtain ⟨n, hn⟩ := hex
  rw [hn] at hl ⊢
  have Hn := Lib.hid hn
  have HA := Lib.hid hA
  have Hf := Lib.hid hf; have Ht := Lib.hid ht
  clear hA hn hf ht
  go_enter Tryz.func48, Tryz.ntmps48
  go_wp2
  go_loopw [8, 9] (fun v i wr => ∃ (k : Nat) (out : List It), k ≤ n ∧ i = .int .i64 k ∧ Ext w wr ∧ OwnS w.heap.size 32 3 (EIt w.heap.size) wr v out ∧ out.length ≤ k ∧ Hid (copyAll f t l = (copyAll f t (l.drop k)).map fun ys => out ++ ys)) (fun _ i _ => n - (intOf i).toNat)
  case atStart => exact ⟨0, [], by omega, rfl, (Ext.refl w).alloc _, OwnS.lit0 _ _ _ _ (Nat.le_refl _), by simp, Lib.hid (by simp)⟩
  case round =>
    obtain ⟨k, out, hk, rfl, he, hO, hol, hrest⟩ := hrel
    by_cases hlt : k < n
    · obtain ⟨x, hx⟩ := get_of_lt (l := l) (k := k) (by rw [Hn.out]; exact hlt)
      obtain ⟨b, o, u2, rfl, -, -, hps, hu, hc0, hc1, hc2⟩ := Its.at_ HA.out hx
      obtain ⟨Ax, cx, rfl, hux⟩ := hu
      have a0 := fun W (e : Ext wr W) => hc0 W (he.trans e); have a1 := fun W (e : Ext wr W) => hc1 W (he.trans e); have a2 := fun W (e : Ext wr W) => hc2 W (he.trans e)
      have HX : Hid (∀ W, Ext wr W → ItV B W (.agg #[.string x.path, .bool x.dir, .slice Ax x.ids.length cx]) x) := Lib.hid fun W e => ⟨_, rfl, hps, Ints.ext (show Ints B w _ _ from ⟨_, _, rfl, hux⟩) (he.trans e)⟩
      have hd := drop_cons hx
      rw [hd] at hrest
      have HO := Lib.hid hO
      have Cw : ∀ W, Calls Tryz.prog 55 #[.string x.path, .string f] W (Ret (.bool (within x.path f)) W) := fun W => l1Within_c _ _ W hps Hf.out
      have Cm : ∀ W, Calls Tryz.prog 92 #[.string x.path, .string f, .string t] W (Ret (pmV (pmove x.path f t)) W) := fun W => specPathMove_c _ _ _ W hps Hf.out Ht.out
      have q0 := a0 wr (Ext.refl _)
      clear hc0 hc1 hc2 hux hx hd hO
      cases hw : within x.path f with
      | false =>
        rw [hw] at Cw
        rw [copyAll_out hw] at hrest
        clear hw
        go_wp2_with (go_at_call 55; refine (Cw _).mono ?_; rintro e w1 ⟨rfl, he1⟩)
        go_roundw
        case rel => exact ⟨k + 1, out, by omega, by go_num, he.trans he1, HO.out.ext (EIt_ok _) he1, by omega, hrest⟩
        case measure => simp [intOf]; omega
      | true =>
        rw [hw] at Cw
        cases hp : pmove x.path f t with
        | none =>
          rw [hp] at Cm
          have Hr : Hid (copyAll f t l = none) := Lib.hid (by rw [hrest.out, copyAll_fail hw hp]; rfl)
          change ∀ W, Calls Tryz.prog 92 _ W (Ret (.tuple #[.string ⟨#[]⟩, .bool false]) W) at Cm
          clear hw hp hrest
          go_wp2_with (first | (go_at_call 55; refine (Cw _).mono ?_; rintro e w1 ⟨rfl, he1⟩; have q0 := a0 w1 he1) | (go_at_call 92; refine (Cm _).mono ?_; rintro e w2 ⟨rfl, he2⟩))
          go_ret2
          exact ⟨_, rfl, OptIts.none_ Hr.out, ((he.trans he1).trans he2).alloc _⟩
        | some p =>
          rw [hp] at Cm
          have hpp : p.size < lim := by have := pathOk_len (pmove_some hp).2.2.2.2.1; unfold lim; omega
          have Hr : Hid (copyAll f t l = (copyAll f t (l.drop (k + 1))).map fun ys => (out ++ [⟨p, x.dir, x.ids⟩]) ++ ys) := Lib.hid (by
            rw [hrest.out, copyAll_in hw hp, Option.map_map]
            congr 1; funext ys; simp)
          change ∀ W, Calls Tryz.prog 92 _ W (Ret (.tuple #[.string p, .bool true]) W) at Cm
          have Hpp := Lib.hid hpp
          clear hw hp hrest
          go_wp2_with (first | (go_at_call 55; refine (Cw _).mono ?_; rintro e w1 ⟨rfl, he1⟩; have q0 := a0 w1 he1) | (go_at_call 92; refine (Cm _).mono ?_; rintro e w2 ⟨rfl, he2⟩; have he12 := he1.trans he2; have q0 := a0 w2 he12; have q1 := a1 w2 he12; have q2 := a2 w2 he12) | (go_at_call 68; refine (l5Copy_c (x := x) _ (HX.out _ he12)).mono ?_; rintro e w3 ⟨v3, rfl, ⟨u9, rfl, hps', ⟨A9, c9, rfl, hu9⟩⟩, he3⟩; have hu' : Ints w2.heap.size w3 (.slice A9 x.ids.length c9) x.ids := ⟨_, _, rfl, hu9⟩; have he4 : Ext w (w3.alloc (.cells #[.string p, .bool x.dir, .slice A9 x.ids.length c9] 32)) := ((he.trans he12).trans he3).alloc _; have HO3 := Lib.hid (HO.out.ext (EIt_ok _) ((he12.trans he3).alloc (.cells #[.string p, .bool x.dir, .slice A9 x.ids.length c9] 32))); have Hu3 : Hid (Ints w.heap.size (w3.alloc (.cells #[.string p, .bool x.dir, .slice A9 x.ids.length c9] 32)) (.slice A9 x.ids.length c9) x.ids) := Lib.hid ((hu'.keep (Ext.size (he.trans he12)) (fun _ _ _ => rfl)).ext ((Ext.refl w3).alloc _)); clear hu' hu9 q0 q1 q2 hps') | (at_builtin; go_must (refine wp_ap1 (w0 := w) (by rfl) _ _ (by rfl) el_It (EIt_ok _) he4 _ out [⟨p, x.dir, x.ids⟩] (by rfl) HO3.out 1 1 rfl #[.string p, .bool x.dir, .slice A9 x.ids.length c9] _ (by rfl) (by first | rfl | simp) rfl (one3 Hu3.out.one) (one_E (eit_of_v (x := ⟨p, x.dir, x.ids⟩) Hpp.out Hu3.out)) ?_ ?_)))
          · simp; unfold lim; omega
          · intro v' w' hO' he' _
            have HO' := Lib.hid hO'; have HE' := Lib.hid he'
            clear hO' he' a0 a1 a2 he4 he3
            go_wp2
            go_roundw
            case rel => exact ⟨k + 1, _, by omega, by go_num, HE'.out, HO'.out, by simp; omega, Hr⟩
            case measure => simp [intOf]; omega
    · have hks : k = n := by omega
      subst hks
      have Hr : Hid (copyAll f t l = some out) := Lib.hid (by
        rw [hrest.out, List.drop_eq_nil_of_le (by rw [Hn.out]; exact Nat.le_refl _), copyAll]; simp)
      have HO := Lib.hid hO
      clear hrest hO
      obtain ⟨A', c', rfl⟩ := HO.out.form
      go_wp2
      go_ret2
      exact ⟨_, rfl, OptIts.some_ Hr.out (HO.out.sl (EIt_ok _) (Nat.le_refl _) (by unfold lim; omega)), he⟩
end Go.Sf
