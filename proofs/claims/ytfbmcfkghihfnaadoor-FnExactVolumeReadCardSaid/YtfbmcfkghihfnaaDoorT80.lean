/- The reference's blocks and stores. -/
import Derived.Test.YtfbmcfkghihfnaaDoorGD
import Derived.Test.YtfbmcfkghihfnaaDoorP20
namespace Go.Sf
open Go Go.RowKit Go.Proofs
theorem all_take {α : Type} {p : α → Bool} {l : List α} {k : Nat} {x : α} (h : (l.take k).all p = true) (hx : l[k]? = some x) (hp : p x = true) : (l.take (k + 1)).all p = true := by
  rw [List.take_add_one, hx, Option.toList_some, List.all_append, h]; simp [hp]
theorem all_bad {α : Type} {p : α → Bool} {l : List α} {k : Nat} {x : α} (hx : l[k]? = some x) (hp : p x = false) : l.all p = false := by
  rw [List.all_eq_false]; exact ⟨x, List.mem_of_getElem? hx, by simp [hp]⟩
theorem all_end {α : Type} {p : α → Bool} {l : List α} {k : Nat} (h : (l.take k).all p = true) (hk : l.length = k) : l.all p = true := by
  rwa [List.take_of_length_le (by omega)] at h
set_option maxHeartbeats 1000000 in
theorem specBlockValid_c {B : Nat} {v : Value} {bs : List Int} (w : World) (h : Ints B w v bs) : Calls Tryd.prog 47 #[v] w (Ret (.bool (blockOk bs)) w) := by
  obtain ⟨A, c, rfl, hA⟩ := h
  have hl := hA.2.2.1
  unfold lim at hl
  generalize hn : bs.length = n at *
  have Hn := Lib.hid hn; clear hn
  have HA := Lib.hid hA; clear hA
  go_enter Tryd.func47, Tryd.ntmps47
  go_wp2
  go_loopw [3] (fun i wr => ∃ k : Nat, k ≤ n ∧ i = .int .i64 k ∧ Ext w wr ∧ Hid ((bs.take k).all byteOk = true)) (fun i _ => n - (intOf i).toNat)
  case atStart => exact ⟨0, by omega, rfl, Ext.refl _, Lib.hid rfl⟩
  case round =>
    obtain ⟨k, hk, rfl, he, hall⟩ := hrel
    by_cases hlt : k < n
    · obtain ⟨x, hx⟩ := get_of_lt (l := bs) (k := k) (by rw [Hn.out]; exact hlt)
      obtain ⟨b, o, rfl, -, -, -, hc⟩ := Ints.at_ HA.out hx
      have a0 := hc wr he
      have Hx := Lib.hid hx
      have Cl := l6In_c x 0 255 wr
      clear hc hx
      cases hb : inB x 0 255 with
      | false =>
        rw [hb] at Cl
        have Hr : Hid (blockOk bs = false) := Lib.hid (by unfold blockOk; rw [all_bad Hx.out hb]; rfl)
        clear hb hall
        go_wp2_with (go_at_call 46; refine Cl.mono ?_; rintro e w2 ⟨rfl, he2⟩)
        go_ret
        exact ⟨ret_b Hr.out.symm, he.trans he2⟩
      | true =>
        rw [hb] at Cl
        have Hr := Lib.hid (all_take hall.out Hx.out hb)
        clear hb hall
        go_wp2_with (go_at_call 46; refine Cl.mono ?_; rintro e w2 ⟨rfl, he2⟩)
        go_roundw
        case rel => exact ⟨k + 1, by omega, by go_num, he.trans he2, Hr⟩
        case measure => simp [intOf]; omega
    · have hks : k = n := by omega
      subst hks
      have Hr : Hid (inB k 1 8 = blockOk bs) := Lib.hid (by unfold blockOk; rw [all_end hall.out Hn.out, Hn.out]; rfl)
      clear hall
      go_wp2_with (go_at_call 46; refine (l6In_c _ _ _ _).mono ?_; rintro e w2 ⟨rfl, he2⟩)
      go_ret
      exact ⟨ret_b Hr.out, he.trans he2⟩
set_option maxHeartbeats 1000000 in
theorem l3At_c {B : Nat} {v : Value} {l : List Hd} (p : Int) (w : World) (h : Hds B w v l) : Calls Tryd.prog 59 #[v, .int .i64 p] w (Ret (.int .i64 (hAt l p)) w) := by
  obtain ⟨A, c, rfl, hA⟩ := h
  have hl := hA.2.2.1
  unfold lim at hl
  generalize hn : l.length = n at *
  have Hn := Lib.hid hn; clear hn
  have HA := Lib.hid hA; clear hA
  go_enter Tryd.func59, Tryd.ntmps59
  go_wp2
  go_loopw [5] (fun i wr => ∃ k : Nat, k ≤ n ∧ i = .int .i64 k ∧ Ext w wr ∧ Hid (hAt l p = atG (idIs p) (l.drop k) k)) (fun i _ => n - (intOf i).toNat)
  case atStart => exact ⟨0, by omega, rfl, Ext.refl _, Lib.hid (by simp [hAt])⟩
  case round =>
    obtain ⟨k, hk, rfl, he, hr⟩ := hrel
    by_cases hlt : k < n
    · obtain ⟨x, hx⟩ := get_of_lt (l := l) (k := k) (by rw [Hn.out]; exact hlt)
      obtain ⟨b, o, u, rfl, -, -, -, -, -, hc0, -, -⟩ := Hds.at_ HA.out hx
      have a0 := hc0 wr he
      have hd := drop_cons hx
      by_cases hxp : x.id = p
      · have Hr : Hid (hAt l p = (k : Int)) := Lib.hid (by rw [hr.out, hd, atG, if_pos (by rw [idIs, eqb_true.2 hxp])])
        have hb : (x.id == p) = true := by simpa using hxp
        clear hr hd hx hc0
        go_wp2
        go_ret
        exact ⟨ret_i Hr.out.symm, he⟩
      · have Hr : Hid (hAt l p = atG (idIs p) (l.drop (k + 1)) (k + 1)) := Lib.hid (by rw [hr.out, hd, atG, if_neg (by rw [idIs, eqb_false.2 hxp]; simp)])
        have hb : (x.id == p) = false := by simpa using hxp
        clear hr hd hx hc0
        go_wp2
        go_roundw
        case rel => exact ⟨k + 1, by omega, by go_num, he, Hr⟩
        case measure => simp [intOf]; omega
    · have hks : k = n := by omega
      subst hks
      have Hr : Hid (hAt l p = -1) := Lib.hid (by rw [hr.out, List.drop_eq_nil_of_le (by rw [Hn.out]; exact Nat.le_refl _)]; rfl)
      clear hr
      go_wp2
      go_ret
      exact ⟨ret_i Hr.out.symm, he⟩
end Go.Sf
