/- How many blocks of a disk are shared: the reference and the program. -/
import Derived.Test.YtneabdoianmfhaaGreatDoorT97
import Derived.Test.YtneabdoianmfhaaGreatDoorT110
import Derived.Test.YtneabdoianmfhaaGreatDoorT111
namespace Go.Sf
open Go Go.RowKit Go.Proofs Go.Maps
theorem filter_take {α : Type} {p : α → Bool} {l : List α} {k : Nat} {x : α} (h : l[k]? = some x) : ((l.take (k + 1)).filter p).length = ((l.take k).filter p).length + if p x = true then 1 else 0 := by
  rw [List.take_add_one, h, Option.toList_some, List.filter_append, List.length_append]
  by_cases e : p x = true
  · rw [if_pos e, List.filter_cons_of_pos e]; rfl
  · rw [if_neg e, List.filter_cons_of_neg e]; rfl
theorem filter_take_le {α : Type} (p : α → Bool) (l : List α) (k : Nat) : ((l.take k).filter p).length ≤ k := Nat.le_trans (List.length_filter_le _ _) (by rw [List.length_take]; omega)
def sharedP (h : Hd) : Bool := decide (1 < h.uses)
def sharedN (s : List Hd) : Nat := (s.filter sharedP).length
noncomputable def countSh (s : List Hd) (t : List It) (l : List Sn) : Int := if diskOk s t l = true then (sharedN s : Int) else -1
set_option maxRecDepth 8000 in
set_option maxHeartbeats 2000000 in
theorem specCountShared_c {B B' B2 : Nat} {vs vt vn : Value} {s : List Hd} {t : List It} {l : List Sn} (w : World) (hs : Hds B w vs s) (ht : Its B' w vt t) (hn : Sns B2 w vn l) :
    Calls Tryz.prog 47 #[.agg #[vs, vt, vn]] w (Ret (.int .i64 (countSh s t l)) w) := by
  have HS := Lib.hid hs; have HT := Lib.hid ht; have HN := Lib.hid hn
  obtain ⟨A, c, rfl, hA⟩ := hs
  obtain ⟨A2, c2, rfl, -⟩ := ht
  obtain ⟨A3, c3, rfl, -⟩ := hn
  have hl := hA.2.2.1
  unfold lim at hl
  have e0 : Ext w (w.alloc (.cells #[.slice A s.length c, .slice A2 t.length c2, .slice A3 l.length c3] 33)) := (Ext.refl w).alloc _
  have hbk := Blk.new w 33 #[.slice A s.length c, .slice A2 t.length c2, .slice A3 l.length c3]
  have d0 := fun W (e : Ext _ W) => hbk.at_ (i := 0) (u := .slice A s.length c) rfl W e
  have Cd := specDiskValid_c _ (HS.out.ext e0) (HT.out.ext e0) (HN.out.ext e0)
  have HA := Lib.hid hA
  clear hbk hA
  generalize hnn : s.length = n at *
  have Hn := Lib.hid hnn; clear hnn
  cases hd : diskOk s t l with
  | false =>
    rw [hd] at Cd
    have Hr : Hid (countSh s t l = -1) := Lib.hid (by unfold countSh; rw [hd]; rfl)
    clear hd
    go_enter Tryz.func47, Tryz.ntmps47
    go_wp2_with (go_at_call 53; refine Cd.mono ?_; rintro e w2 ⟨rfl, he2⟩)
    go_ret
    exact ⟨ret_i Hr.out.symm, e0.trans he2⟩
  | true =>
    rw [hd] at Cd
    have Hr : Hid (countSh s t l = (sharedN s : Int)) := Lib.hid (by unfold countSh; rw [hd]; rfl)
    clear hd
    go_enter Tryz.func47, Tryz.ntmps47
    go_wp2_with (go_at_call 53; refine Cd.mono ?_; rintro e w2 ⟨rfl, he2⟩)
    go_loopw [3, 4] (fun o i wr => ∃ k : Nat, k ≤ n ∧ i = .int .i64 k ∧ o = .int .i64 (((s.take k).filter sharedP).length : Nat) ∧ Ext (w.alloc (.cells #[.slice A n c, .slice A2 t.length c2, .slice A3 l.length c3] 33)) wr) (fun _ i _ => n - (RowKit.intOf i).toNat)
    case atStart => exact ⟨0, by omega, rfl, rfl, he2⟩
    case round =>
      obtain ⟨k, hk, rfl, rfl, he⟩ := hrel
      have q0 := d0 wr he
      by_cases hlt : k < n
      · obtain ⟨x, hx⟩ := get_of_lt (l := s) (k := k) (by rw [Hn.out]; exact hlt)
        obtain ⟨b, o, u, rfl, -, -, -, -, -, -, -, hc2⟩ := Hds.at_ HA.out hx
        have a2 := hc2 wr (e0.trans he)
        have hst := filter_take (p := sharedP) hx
        have hbd := filter_take_le sharedP s k
        generalize ((s.take k).filter sharedP).length = acc at *
        by_cases hgt : (1 : Int) < x.uses
        · rw [if_pos (show sharedP x = true from decide_eq_true hgt)] at hst
          have Hst := Lib.hid hst
          clear hst hx hc2 d0
          go_wp2
          go_roundw
          case rel => exact ⟨k + 1, by omega, by go_num, by rw [Hst.out]; go_num, he⟩
          case measure => simp [RowKit.intOf]; omega
        · rw [if_neg (by unfold sharedP; simpa using hgt)] at hst
          have Hst := Lib.hid hst
          clear hst hx hc2 d0
          go_wp2
          go_roundw
          case rel => exact ⟨k + 1, by omega, by go_num, by rw [Hst.out]; rfl, he⟩
          case measure => simp [RowKit.intOf]; omega
      · have hks : k = n := by omega
        subst hks
        have Hf : Hid ((((s.take k).filter sharedP).length : Int) = countSh s t l) := Lib.hid (by rw [Hr.out, List.take_of_length_le (by rw [Hn.out]; exact Nat.le_refl _)]; rfl)
        generalize ((s.take k).filter sharedP).length = acc at *
        go_wp2
        go_ret
        exact ⟨ret_i Hf.out, e0.trans he⟩
/-- what opening a disk for a count leaves -/
def CountDP (w0 : World) (s : List Hd) (t : List It) (l : List Sn) (e : Ending) (w' : World) : Prop :=
  Ext w0 w' ∧ ((diskOk s t l = false ∧ ∃ m, e = .returned (.tuple #[.pointer none, .iface 190 (.agg #[.string m])])) ∨ (diskOk s t l = true ∧ ∃ g, e = .returned (.tuple #[.pointer (some ⟨g, 0, none⟩), .nilIface]) ∧ DiskAt w0.heap.size w' g s t l))
set_option maxRecDepth 4000 in
set_option maxHeartbeats 1000000 in
theorem countDisk_c {B B' B2 : Nat} {vs vt vn : Value} {s : List Hd} {t : List It} {l : List Sn} (w : World) (hs : Hds B w vs s) (ht : Its B' w vt t) (hn : Sns B2 w vn l) (hm : ML w) : Calls Tryz.prog 58 #[.agg #[vs, vt, vn]] w (CountDP w s t l) := by
  have HS := Lib.hid hs; have HT := Lib.hid ht; have HN := Lib.hid hn; have HM := Lib.hid hm
  obtain ⟨A, c, rfl, -⟩ := hs
  obtain ⟨A2, c2, rfl, -⟩ := ht
  obtain ⟨A3, c3, rfl, -⟩ := hn
  have e0 : Ext w (w.alloc (.cells #[.slice A s.length c, .slice A2 t.length c2, .slice A3 l.length c3] 33)) := (Ext.refl w).alloc _
  have Cn := newDisk_c _ (HS.out.ext e0) (HT.out.ext e0) (HN.out.ext e0) (HM.out.ext e0)
  clear hm
  go_enter Tryz.func58, Tryz.ntmps58
  go_wp2_with fail
  refine Cn.mono ?_
  rintro e w1 ⟨he1, ⟨hv, rfl⟩ | ⟨hv, g, rfl, hD⟩⟩
  · have Hv := Lib.hid hv
    clear hv Cn
    go_wp2
    go_ret2
    exact ⟨e0.trans he1, .inl ⟨Hv.out, _, rfl⟩⟩
  · have Hv := Lib.hid hv; have HD := Lib.hid (hD.low e0.size)
    clear hv Cn hD
    go_wp2
    go_ret2
    exact ⟨e0.trans he1, .inr ⟨Hv.out, g, rfl, HD.out⟩⟩
set_option maxRecDepth 8000 in
set_option maxHeartbeats 2000000 in
theorem CountShared_c {B B' B2 : Nat} {vs vt vn : Value} {s : List Hd} {t : List It} {l : List Sn} (w : World) (hs : Hds B w vs s) (ht : Its B' w vt t) (hn : Sns B2 w vn l) (hm : ML w) (het : ET w) :
    Calls Tryz.prog 48 #[.agg #[vs, vt, vn]] w (Ret (.int .i64 (countSh s t l)) w) := by
  have HS := Lib.hid hs; have HT := Lib.hid ht; have HN := Lib.hid hn; have HM := Lib.hid hm; have HE := Lib.hid het
  obtain ⟨A, c, rfl, -⟩ := hs
  obtain ⟨A2, c2, rfl, -⟩ := ht
  obtain ⟨A3, c3, rfl, -⟩ := hn
  have e0 : Ext w (w.alloc (.cells #[.slice A s.length c, .slice A2 t.length c2, .slice A3 l.length c3] 33)) := (Ext.refl w).alloc _
  have Cn := countDisk_c _ (HS.out.ext e0) (HT.out.ext e0) (HN.out.ext e0) (HM.out.ext e0)
  clear hm het
  go_enter Tryz.func48, Tryz.ntmps48
  go_wp2_with fail
  refine Cn.mono ?_
  rintro e w1 ⟨he1, ⟨hv, m, rfl⟩ | ⟨hv, g, rfl, b, adr, kv, v, aq, -, hD, hSt, -, -, -⟩⟩
  · have Hr : Hid (countSh s t l = -1) := Lib.hid (by unfold countSh; rw [hv]; rfl)
    have Cu := uncounted_hit m w1 (HE.out.ext (e0.trans he1))
    clear hv Cn
    go_wp2_with (go_at_call 59; refine Cu.mono ?_; rintro e w2 ⟨rfl, he2⟩)
    go_ret
    exact ⟨ret_i Hr.out.symm, (e0.trans he1).trans he2⟩
  have Hr : Hid (countSh s t l = (sharedN s : Int)) := Lib.hid (by unfold countSh; rw [hv]; rfl)
  have HO := Lib.hid (disk_parts hv).1
  have h16 := HO.out.1
  have g2 := fun W (e : Ext w1 W) => hD.at_ (i := 2) (u := .map (some b)) rfl W e
  have Cu := uncounted_nil w1
  have HSt := Lib.hid hSt
  have E1 := Lib.hid (e0.trans he1)
  clear hv Cn hD hSt
  go_wp2_with (go_at_call 59; refine Cu.mono ?_; rintro e w2 ⟨rfl, he2⟩; have z2 := g2 w2 he2)
  refine (storeListP_c _ HO.out (HSt.out.ext he2)).mono ?_
  rintro e w3 ⟨v3, rfl, hH, he3⟩
  obtain ⟨A4, c4, rfl, hA⟩ := hH
  have HA := Lib.hid hA
  generalize hnn : s.length = n at *
  have Hn := Lib.hid hnn; have E3 := Lib.hid (E1.out.trans (he2.trans he3))
  clear hnn hA g2 z2 Cu he2 he3
  go_wp2
  go_loopw [5, 22] (fun o i wr => ∃ k : Nat, k ≤ n ∧ i = .int .i64 k ∧ o = .int .i64 (((s.take k).filter sharedP).length : Nat) ∧ Ext w3 wr) (fun _ i _ => n - (RowKit.intOf i).toNat)
  case atStart => exact ⟨0, by omega, rfl, rfl, Ext.refl _⟩
  case round =>
    obtain ⟨k, hk, rfl, rfl, he⟩ := hrel
    by_cases hlt : k < n
    · obtain ⟨x, hx⟩ := get_of_lt (l := s) (k := k) (by rw [Hn.out]; exact hlt)
      obtain ⟨b, o, u, rfl, -, -, -, hu, -, hc0, hc1, hc2⟩ := Hds.at_ HA.out hx
      obtain ⟨Au, cu, rfl, -⟩ := hu
      have a0 := hc0 wr he; have a1 := hc1 wr he; have a2 := hc2 wr he
      have hst := filter_take (p := sharedP) hx
      have hbd := filter_take_le sharedP s k
      generalize ((s.take k).filter sharedP).length = acc at *
      by_cases hgt : (1 : Int) < x.uses
      · rw [if_pos (show sharedP x = true from decide_eq_true hgt)] at hst
        have Hst := Lib.hid hst
        clear hst hx hc0 hc1 hc2
        go_wp2
        go_roundw
        case rel => exact ⟨k + 1, by omega, by go_num, by rw [Hst.out]; go_num, he.alloc _⟩
        case measure => simp [RowKit.intOf]; omega
      · rw [if_neg (by unfold sharedP; simpa using hgt)] at hst
        have Hst := Lib.hid hst
        clear hst hx hc0 hc1 hc2
        go_wp2
        go_roundw
        case rel => exact ⟨k + 1, by omega, by go_num, by rw [Hst.out]; rfl, he.alloc _⟩
        case measure => simp [RowKit.intOf]; omega
    · have hks : k = n := by omega
      subst hks
      have Hf : Hid ((((s.take k).filter sharedP).length : Int) = countSh s t l) := Lib.hid (by rw [Hr.out, List.take_of_length_le (by rw [Hn.out]; exact Nat.le_refl _)]; rfl)
      generalize ((s.take k).filter sharedP).length = acc at *
      go_wp2
      go_ret
      exact ⟨ret_i Hf.out, E3.out.trans he⟩
end Go.Sf
