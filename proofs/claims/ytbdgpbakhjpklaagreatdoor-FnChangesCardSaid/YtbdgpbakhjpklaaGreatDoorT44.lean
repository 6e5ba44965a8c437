/- The reference's TreeMove and TreeClone. -/
import Derived.Test.YtbdgpbakhjpklaaGreatDoorT43
namespace Go.Sf
open Go Go.RowKit Go.Proofs
theorem moveOf_not {l : List It} {f t : ByteArray} (h : mvOk l f t = false) : moveOf l f t = none := by rw [moveOf, if_neg (by simp [h])]
theorem cloneOf_not {l : List It} {f t : ByteArray} (h : mvOk l f t = false) : cloneOf l f t = none := by rw [cloneOf, if_neg (by simp [h])]
theorem moveOf_none {l : List It} {f t : ByteArray} (h : mvOk l f t = true) (hc : copyAll f t l = none) : moveOf l f t = none := by rw [moveOf, if_pos h, hc]; rfl
theorem cloneOf_none {l : List It} {f t : ByteArray} (h : mvOk l f t = true) (hc : copyAll f t l = none) : cloneOf l f t = none := by rw [cloneOf, if_pos h, hc]; rfl
theorem moveOf_put {l cs : List It} {f t : ByteArray} (h : mvOk l f t = true) (hc : copyAll f t l = some cs) : moveOf l f t = placeOf (restOf l f) cs := by rw [moveOf, if_pos h, hc]; rfl
theorem cloneOf_put {l cs : List It} {f t : ByteArray} (h : mvOk l f t = true) (hc : copyAll f t l = some cs) : cloneOf l f t = placeOf l cs := by rw [cloneOf, if_pos h, hc]; rfl
theorem OptIts.eq {B : Nat} {o o' : Option (List It)} {v : Value} {w : World} (h : OptIts B o v w) (e : o = o') : OptIts B o' v w := e ▸ h
theorem OptIts.low {B B' : Nat} {o : Option (List It)} {v : Value} {w : World} (h : OptIts B o v w) (hB : B' ≤ B) : OptIts B' o v w := let ⟨u, h1, h2⟩ := h; ⟨u, h1, h2.keep hB (fun _ _ _ => rfl)⟩
theorem copy_len {l cs : List It} {f t : ByteArray} (h : copyAll f t l = some cs) : cs.length ≤ l.length := by
  rw [(copyAll_some h).1]; exact List.length_filter_le _ _
theorem rest_len (l : List It) (f : ByteArray) : (restOf l f).length ≤ l.length := List.length_filter_le _ _
theorem rest_take {l : List It} {f : ByteArray} {k : Nat} {x : It} (h : l[k]? = some x) : restOf (l.take (k + 1)) f = restOf (l.take k) f ++ if within x.path f = true then [] else [x] := by
  rw [take_succ_get h, restOf, restOf, List.filter_append]
  congr 1
  cases hw : within x.path f <;> simp [hw]
set_option maxRecDepth 8000 in
set_option maxHeartbeats 2000000 in
theorem specTreeMove_c {B : Nat} {v : Value} {l : List It} (f t : ByteArray) (w : World) (h : Its B w v l) (hf : f.size < lim) (ht : t.size < lim) :
    Calls Tryz.prog 21 #[v, .string f, .string t] w (RetP (OptIts w.heap.size (moveOf l f t)) w) := by
  have H := Lib.hid (h.keep (B' := 0) (Nat.zero_le _) (fun _ _ _ => rfl))
  clear h
  have Ck := l23Ok_c f t w H.out hf ht
  cases hok : mvOk l f t with
  | false =>
    rw [hok] at Ck
    have Hd := Lib.hid (moveOf_not hok)
    clear hok
    go_enter Tryz.func21, Tryz.ntmps21
    go_wp2_with fail
    refine Ck.mono ?_
    rintro e w1 ⟨rfl, he1⟩
    go_wp2
    go_ret2
    exact ⟨_, rfl, OptIts.none_ Hd.out, he1.alloc _⟩
  | true =>
  rw [hok] at Ck
  have hl12 : l.length ≤ 12 := (tree_set.1 (mvOk_iff.1 hok).1).1
  have Hok := Lib.hid hok
  clear hok
  cases hc : copyAll f t l with
  | none =>
    have Hd := Lib.hid (moveOf_none Hok.out hc)
    have Hc := Lib.hid hc
    clear hc
    go_enter Tryz.func21, Tryz.ntmps21
    go_wp2_with fail
    refine Ck.mono ?_
    rintro e w1 ⟨rfl, he1⟩
    go_wp2_with fail
    refine (l23Copies_c f t w1 (H.out.ext he1) hf ht).mono ?_
    rw [Hc.out]
    rintro e w2 ⟨v2, rfl, ⟨u2, rfl, -⟩, he2⟩
    go_wp2
    go_ret2
    exact ⟨_, rfl, OptIts.none_ Hd.out, (he1.trans he2).alloc _⟩
  | some cs =>
    have Hd := Lib.hid (moveOf_put Hok.out hc)
    have Hc := Lib.hid hc
    have hcl := copy_len hc
    clear hc
    have H' := H
    obtain ⟨A, c, rfl, hA⟩ := H'.out
    have HA := Lib.hid hA
    have hex : ∃ n, l.length = n := ⟨_, rfl⟩
    obtain ⟨n, hn⟩ := hex
    rw [hn] at hl12 hcl Ck ⊢
    have Hn := Lib.hid hn
    have H0 : Hid (Its 0 w (.slice A n c) l) := Lib.hid (by rw [← hn]; exact ⟨A, c, rfl, hA⟩)
    clear hA H' H hn
    go_enter Tryz.func21, Tryz.ntmps21
    go_wp2_with fail
    refine Ck.mono ?_
    rintro e w1 ⟨rfl, he1⟩
    go_wp2_with fail
    refine (l23Copies_c f t w1 (H0.out.ext he1) hf ht).mono ?_
    rw [Hc.out]
    rintro e w2 ⟨v2, rfl, ⟨u2, rfl, hI2⟩, he2⟩
    have HI2 : Hid (Its w1.heap.size w2 u2 cs) := Lib.hid hI2
    have he12 := he1.trans he2
    simp only [Option.isSome_some]
    clear hI2 he1 he2
    go_wp2
    go_loopw [10, 11] (fun v i wr => ∃ k : Nat, k ≤ n ∧ i = .int .i64 k ∧ Ext w2 wr ∧ OwnS w2.heap.size 32 3 (EIt 0) wr v (restOf (l.take k) f)) (fun _ i _ => n - (intOf i).toNat)
    case atStart => exact ⟨0, by omega, rfl, (Ext.refl w2).alloc _, OwnS.lit0 _ _ _ _ (Nat.le_refl _)⟩
    case round =>
      obtain ⟨k, hk, rfl, he, hO⟩ := hrel
      have HO := Lib.hid hO; clear hO
      by_cases hlt : k < n
      · obtain ⟨x, hx⟩ := get_of_lt (l := l) (k := k) (by rw [Hn.out]; exact hlt)
        obtain ⟨b, o, ux, rfl, -, -, hps, hu, hc0, hc1, hc2⟩ := Its.at_ HA.out hx
        obtain ⟨Ax, cx, rfl, hux⟩ := hu
        have ee := he12.trans he
        have a0 := fun W (e : Ext wr W) => hc0 W (ee.trans e); have a1 := fun W (e : Ext wr W) => hc1 W (ee.trans e); have a2 := fun W (e : Ext wr W) => hc2 W (ee.trans e)
        have HU : Hid (∀ W, Ext wr W → Ints 0 W (.slice Ax x.ids.length cx) x.ids) := Lib.hid fun W e => Ints.ext (show Ints 0 w _ _ from ⟨_, _, rfl, hux⟩) (ee.trans e)
        have Cw : ∀ W, Calls Tryz.prog 55 #[.string x.path, .string f] W (Ret (.bool (within x.path f)) W) := fun W => l1Within_c _ _ W hps hf
        have hrt := rest_take (f := f) hx
        have hrl := rest_len (l.take k) f
        have htl := List.length_take_le' k l
        have hHn := Hn.out
        have q0 := a0 wr (Ext.refl _)
        clear hc0 hc1 hc2 hux hx
        cases hw : within x.path f with
        | true =>
          rw [hw] at Cw
          rw [hw, if_pos rfl, List.append_nil] at hrt
          have Hrt := Lib.hid hrt
          clear hw hrt
          go_wp2_with (go_at_call 55; refine (Cw _).mono ?_; rintro e w3 ⟨rfl, he3⟩)
          go_roundw
          case rel => exact ⟨k + 1, by omega, by go_num, he.trans he3, by rw [Hrt.out]; exact HO.out.ext (EIt_ok _) he3⟩
          case measure => simp [intOf]; omega
        | false =>
          rw [hw] at Cw
          rw [hw, if_neg (by simp)] at hrt
          have Hrt := Lib.hid hrt
          clear hw hrt
          go_wp2_with (first | (go_at_call 55; refine (Cw _).mono ?_; rintro e w3 ⟨rfl, he3⟩; have q0 := a0 w3 he3; have q1 := a1 w3 he3; have q2 := a2 w3 he3; have he4 := he.trans he3; have HO3 := Lib.hid (HO.out.ext (EIt_ok _) he3); have HU3 := Lib.hid (HU.out w3 he3)) | (at_builtin; go_must (refine wp_ap1 (w0 := w2) (by rfl) _ _ (by rfl) el_It (EIt_ok _) he4 _ (restOf (l.take k) f) [x] (by rfl) HO3.out 1 1 rfl #[.string x.path, .bool x.dir, .slice Ax x.ids.length cx] _ (by rfl) (by first | rfl | simp) rfl (one3 rfl) (one_E (eit_of_v hps HU3.out)) ?_ ?_)))
          · simp; unfold lim; omega
          · intro v' w' hO' he' _
            have HO' := Lib.hid hO'; have HE' := Lib.hid he'
            clear hO' he' a0 a1 a2 he4 q0 q1 q2
            go_wp2
            go_roundw
            case rel => exact ⟨k + 1, by omega, by go_num, HE'.out, by rw [Hrt.out]; exact HO'.out⟩
            case measure => simp [intOf]; omega
      · have hks : k = n := by omega
        subst hks
        have e : l.take k = l := List.take_of_length_le (by rw [Hn.out]; exact Nat.le_refl _)
        have HO1 := HO.out
        rw [e] at HO1
        have hrl := rest_len l f
        rw [Hn.out] at hrl
        have HR : Hid (Its 0 wr _ (restOf l f)) := Lib.hid (HO1.sl (EIt_ok _) (Nat.zero_le _) (by unfold lim; omega))
        obtain ⟨A', c', rfl⟩ := HO1.form
        clear HO HO1 e
        go_wp2_with fail
        refine (l23Put_c (l := restOf l f) (cs := cs) wr HR.out (HI2.out.ext he) (by omega)).mono ?_
        rintro e w5 ⟨v5, rfl, hP, he5⟩
        have HP : Hid (OptIts w.heap.size (moveOf l f t) v5 w5) := Lib.hid ((hP.eq Hd.out.symm).low (he12.trans he).size)
        obtain ⟨u5, rfl, -⟩ := hP
        go_wp2
        go_ret2
        exact ⟨_, rfl, HP.out, (he12.trans he).trans he5⟩
set_option maxRecDepth 8000 in
set_option maxHeartbeats 2000000 in
theorem specTreeClone_c {B : Nat} {v : Value} {l : List It} (f t : ByteArray) (w : World) (h : Its B w v l) (hf : f.size < lim) (ht : t.size < lim) :
    Calls Tryz.prog 16 #[v, .string f, .string t] w (RetP (OptIts w.heap.size (cloneOf l f t)) w) := by
  have H := Lib.hid h
  have Ck := l23Ok_c f t w h hf ht
  clear h
  cases hok : mvOk l f t with
  | false =>
    rw [hok] at Ck
    have Hd := Lib.hid (cloneOf_not hok)
    clear hok
    go_enter Tryz.func16, Tryz.ntmps16
    go_wp2_with fail
    refine Ck.mono ?_
    rintro e w1 ⟨rfl, he1⟩
    go_wp2
    go_ret2
    exact ⟨_, rfl, OptIts.none_ Hd.out, he1.alloc _⟩
  | true =>
  rw [hok] at Ck
  have hl12 : l.length ≤ 12 := (tree_set.1 (mvOk_iff.1 hok).1).1
  have Hok := Lib.hid hok
  clear hok
  cases hc : copyAll f t l with
  | none =>
    have Hd := Lib.hid (cloneOf_none Hok.out hc)
    have Hc := Lib.hid hc
    clear hc
    go_enter Tryz.func16, Tryz.ntmps16
    go_wp2_with fail
    refine Ck.mono ?_
    rintro e w1 ⟨rfl, he1⟩
    go_wp2_with fail
    refine (l23Copies_c f t w1 (H.out.ext he1) hf ht).mono ?_
    rw [Hc.out]
    rintro e w2 ⟨v2, rfl, ⟨u2, rfl, -⟩, he2⟩
    go_wp2
    go_ret2
    exact ⟨_, rfl, OptIts.none_ Hd.out, (he1.trans he2).alloc _⟩
  | some cs =>
    have Hd := Lib.hid (cloneOf_put Hok.out hc)
    have Hc := Lib.hid hc
    have hcl := copy_len hc
    clear hc
    go_enter Tryz.func16, Tryz.ntmps16
    go_wp2_with fail
    refine Ck.mono ?_
    rintro e w1 ⟨rfl, he1⟩
    go_wp2_with fail
    refine (l23Copies_c f t w1 (H.out.ext he1) hf ht).mono ?_
    rw [Hc.out]
    rintro e w2 ⟨v2, rfl, ⟨u2, rfl, hI2⟩, he2⟩
    have HI2 : Hid (Its w1.heap.size w2 u2 cs) := Lib.hid hI2
    simp only [Option.isSome_some]
    clear hI2
    go_wp2_with fail
    refine (l23Put_c (l := l) (cs := cs) w2 (H.out.ext (he1.trans he2)) HI2.out (by omega)).mono ?_
    rintro e w5 ⟨v5, rfl, hP, he5⟩
    have HP : Hid (OptIts w.heap.size (cloneOf l f t) v5 w5) := Lib.hid ((hP.eq Hd.out.symm).low (he1.trans he2).size)
    obtain ⟨u5, rfl, -⟩ := hP
    go_wp2
    go_ret2
    exact ⟨_, rfl, HP.out, (he1.trans he2).trans he5⟩
end Go.Sf
