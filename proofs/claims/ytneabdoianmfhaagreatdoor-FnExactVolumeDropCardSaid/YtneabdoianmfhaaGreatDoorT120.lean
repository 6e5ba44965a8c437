/- The reference's copy of a store, and what it drops. -/
import Derived.Test.YtneabdoianmfhaaGreatDoorGD
import Derived.Test.YtneabdoianmfhaaGreatDoorGO
import Derived.Test.YtneabdoianmfhaaGreatDoorT110
import Derived.StillTailTactics
namespace Go.Sf
open Go Go.RowKit Go.Proofs
theorem ehd_of {B : Nat} {w : World} {x : Hd} {u : Value} (h1 : inI x.id) (h2 : Ints B w u x.bytes) (h3 : inI x.uses) : EHd B w #[.int .i64 x.id, u, .int .i64 x.uses] 0 x := ⟨rfl, h1, ⟨u, rfl, h2⟩, rfl, h3⟩
set_option maxRecDepth 4000 in
set_option maxHeartbeats 2000000 in
theorem l3Copy_c {B : Nat} {v : Value} {l : List Hd} (w : World) (h : Hds B w v l) : Calls Tryz.prog 98 #[v] w (RetP (fun v' w' => OwnS w.heap.size 84 3 (EHd w.heap.size) w' v' l) w) := by
  obtain ⟨A, c, rfl, hA⟩ := h
  have hl := hA.2.2.1
  unfold lim at hl
  generalize hn : l.length = n at *
  have Hn := Lib.hid hn; clear hn
  have HA := Lib.hid hA; clear hA
  go_enter Tryz.func98, Tryz.ntmps98
  go_wp2
  go_loopw [3, 4] (fun v i wr => ∃ k : Nat, k ≤ n ∧ i = .int .i64 k ∧ Ext w wr ∧ OwnS w.heap.size 84 3 (EHd w.heap.size) wr v (l.take k)) (fun _ i _ => n - (RowKit.intOf i).toNat)
  case atStart => exact ⟨0, by omega, rfl, (Ext.refl w).alloc _, OwnS.lit0 _ _ _ _ (Nat.le_refl _)⟩
  case round =>
    obtain ⟨k, hk, rfl, he, hO⟩ := hrel
    by_cases hlt : k < n
    · obtain ⟨x, hx⟩ := get_of_lt (l := l) (k := k) (by rw [Hn.out]; exact hlt)
      obtain ⟨b, o, u, rfl, -, -, hxi, hu, hxu, hc0, hc1, hc2⟩ := Hds.at_ HA.out hx
      have hul := hu.len
      obtain ⟨Ax, cx, rfl, hux⟩ := hu
      have a0 := hc0 wr he; have a1 := hc1 wr he; have a2 := hc2 wr he
      have Hx := Lib.hid (take_succ_get hx)
      have HO := Lib.hid hO
      have HU : Hid (∀ W, Ext w W → Ints B W (.slice Ax x.bytes.length cx) x.bytes) := Lib.hid fun W e => Ints.ext (w := w) ⟨_, _, rfl, hux⟩ e
      have hkl : (l.take k).length = k := by rw [List.length_take, Hn.out]; omega
      clear hc0 hc1 hc2 hx hO hux
      obtain ⟨xk, xb, xu⟩ := x
      simp only at *
      have hbk := Blk.new wr 84 #[.int .i64 xk, .slice Ax xb.length cx, .int .i64 xu]
      have d1 := fun W (e : Ext _ W) => hbk.at_ (i := 1) (u := .slice Ax xb.length cx) rfl W e
      have Hbk := Lib.hid hbk
      clear hbk
      go_wp2_with (at_builtin; go_must (refine wp_apS (w0 := wr) (by rfl) _ _ (by rfl) el_int eint_ok ?_ _ _ [] xb (by rfl) (OwnS.lit _ _ _ _ ?_ (by simp)) (by rfl) (HU.out _ ?_) ?_ ?_))
      · (repeat' (first | exact Ext.refl _ | assumption | refine Ext.alloc ?_ _ | refine Ext.drew ?_ | refine Ext.drewN ?_ _))
      · simp
      · refine he.trans ?_; (repeat' (first | exact Ext.refl _ | assumption | refine Ext.alloc ?_ _ | refine Ext.drew ?_ | refine Ext.drewN ?_ _))
      · simpa using hul
      · intro v' w' hO' he' hk'
        have hb1 := hk' _ _ _ (by decide) (Hbk.out.alloc (.cells #[] 3))
        have c0 := hb1.cell 0; have c1 := hb1.cell 1; have c2 := hb1.cell 2
        have f1 := hb1.frozen 1
        simp at c0 c1 c2
        obtain ⟨A', c', rfl⟩ := hO'.form
        have HU' : Hid (Ints w.heap.size w' (.slice A' xb.length c') xb) := Lib.hid (Ints.keep (hO'.sl eint_ok (Nat.le_refl _) hul) he.size (fun _ _ _ => rfl))
        have he2 : Ext wr (w'.setCell ⟨wr.heap.size, 1, none⟩ (.slice A' xb.length c')) := he'.setCell (p := ⟨wr.heap.size, 1, none⟩) (Nat.le_refl _) _
        have he3 := he.trans he2
        have HO2 := Lib.hid (HO.out.ext (EHd_ok _) he2)
        have K2 : KeepsT 84 w' _ := KeepsT.set (i := 1) hb1 (.slice A' xb.length c') rfl
        have HU2 : Hid (Ints w.heap.size (w'.setCell ⟨wr.heap.size, 1, none⟩ (.slice A' xb.length c')) (.slice A' xb.length c') xb) := Lib.hid (HU'.out.keepT K2 (by decide))
        clear hO' he' hk' hb1 HU' K2 Hbk
        go_wp2_with (at_builtin; go_must (refine wp_ap1 (w0 := w) (by rfl) _ _ (by rfl) el_Hd (EHd_ok _) he3 _ (l.take k) [⟨xk, xb, xu⟩] (by rfl) HO2.out 1 1 rfl #[.int .i64 xk, .slice A' xb.length c', .int .i64 xu] _ (by rfl) (by first | rfl | simp) rfl (oneHd rfl) (one_E (ehd_of (x := ⟨xk, xb, xu⟩) hxi HU2.out hxu)) ?_ ?_))
        · rw [hkl]; simp; unfold lim; omega
        · intro v3 w3 hO3 he4 _
          have HO3 := Lib.hid hO3
          clear hO3 he2 he3
          go_wp2
          go_roundw
          case rel => exact ⟨k + 1, by omega, by go_num, he4, by rw [Hx.out]; exact HO3.out⟩
          case measure => simp [RowKit.intOf]; omega
    · have hks : k = n := by omega
      subst hks
      have HO := Lib.hid hO; clear hO
      go_wp2
      go_ret
      have := HO.out
      rw [List.take_of_length_le (by rw [Hn.out]; omega)] at this
      exact ⟨_, rfl, this, he⟩
end Go.Sf
