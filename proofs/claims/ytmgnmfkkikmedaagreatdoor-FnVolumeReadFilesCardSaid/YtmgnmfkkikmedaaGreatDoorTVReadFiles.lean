/- Laws of drawn volumes: every file of a volume can be read, and no directory. -/
import Derived.Test.YtmgnmfkkikmedaaGreatDoorHB
import Derived.Test.YtmgnmfkkikmedaaGreatDoorHC
import Derived.Test.YtmgnmfkkikmedaaGreatDoorGS
namespace Go.Sf
open Go Go.RowKit Go.Proofs
set_option maxHeartbeats 1000000 in
theorem FnVolumeReadFiles_big {A : Option Addr} {n c : Nat} (w : World) (hn : 1048576 < n) (hm : n ≤ maxLen) : Calls Tryz.prog 4 #[.slice A n c] w (Ret (.bool true) w) := by
  unfold maxLen at hm
  have h : (1048576 : Int) < (n : Int) := by omega
  go_enter Tryz.func4, Tryz.ntmps4
  go_wp2
  go_ret
  exact ⟨rfl, Ext.refl w⟩
set_option maxRecDepth 8000 in
set_option maxHeartbeats 4000000 in
theorem FnVolumeReadFiles_c {v : Value} {xs : List Int} (w : World) (h : Bys w v xs) (hm : ML w) (hl : xs.length ≤ 1048576) : Calls Tryz.prog 4 #[v] w (Ret (.bool true) w) := by
  have H := Lib.hid h
  obtain ⟨A0, c0, rfl, -⟩ := h
  have HM := Lib.hid hm; clear hm
  have hn : ¬ (1048576 : Int) < (xs.length : Int) := by omega
  go_enter Tryz.func4, Tryz.ntmps4
  go_wp2_with fail
  refine (DrawVolumeValid_c _ H.out).mono ?_
  rintro e w1 ⟨us, ut, s, t, rfl, hS, hT, hs16, ht12, he1⟩
  obtain ⟨A1, c1, rfl, -⟩ := id hS
  obtain ⟨A2, c2, rfl, hTs⟩ := id hT
  have HM1 := Lib.hid (HM.out.ext he1)
  have hex : ∃ n, t.length = n := ⟨_, rfl⟩
  obtain ⟨n, hn⟩ := hex
  have Hn := Lib.hid hn
  rw [hn] at ht12
  have hT2 : Its w.heap.size w1 (.slice A2 n c2) t := by rw [← hn]; exact hT
  have HS := Lib.hid hS; have HT := Lib.hid hT2; have HTs := Lib.hid hTs
  clear hS hT hT2 hTs
  rw [hn]
  clear hn
  go_wp2_with fail
  have hbx := Blk.new w1 44 #[.slice A1 s.length c1, .slice A2 n c2]
  have e1b : Ext w1 (w1.alloc (.cells #[.slice A1 s.length c1, .slice A2 n c2] 44)) := (Ext.refl _).alloc _
  obtain ⟨g1, hg1⟩ : ∃ g, w1.heap.size = g := ⟨_, rfl⟩
  rw [hg1] at hbx
  generalize hb1 : w1.alloc (.cells #[.slice A1 s.length c1, .slice A2 n c2] 44) = b1 at *
  have X1_0 := Lib.hid fun W (e : Ext b1 W) => hbx.at_ (i := 0) (u := .slice A1 s.length c1) rfl W e
  have X1_1 := Lib.hid fun W (e : Ext b1 W) => hbx.at_ (i := 1) (u := .slice A2 n c2) rfl W e
  clear hbx hb1
  have E1 := he1.trans e1b
  have CV : Hid (∀ W, Ext w1 W → Calls Tryz.prog 23 #[.agg #[.slice A1 s.length c1, .slice A2 n c2]] W (Ret (.bool (volOk s t)) W)) := Lib.hid fun W e => by
    have := VolumeValid_c W (HS.out.ext e) (HT.out.ext e) (HM1.out.ext e)
    exact this
  have CS : Hid (∀ W, Ext w1 W → Calls Tryz.prog 24 #[.agg #[.slice A1 s.length c1, .slice A2 n c2]] W (Ret (.bool (volOk s t)) W)) := Lib.hid fun W e => by
    have := specVolumeValid_c W (HS.out.ext e) (HT.out.ext e)
    exact this
  refine (CV.out b1 e1b).mono ?_
  rintro e w2 ⟨rfl, he2⟩
  have E2 := E1.trans he2
  have q0 := X1_0.out w2 he2; have q1 := X1_1.out w2 he2
  go_wp2_with fail
  refine (CS.out w2 (e1b.trans he2)).mono ?_
  rintro e w3 ⟨rfl, he3⟩
  have E3 := E2.trans he3
  have e13 := (e1b.trans he2).trans he3
  have X0 := Lib.hid fun W (e : Ext w3 W) => X1_0.out W ((he2.trans he3).trans e); have X1 := Lib.hid fun W (e : Ext w3 W) => X1_1.out W ((he2.trans he3).trans e)
  clear q0 q1 X1_0 X1_1 CV CS
  have hob : ∃ b, volOk s t = b := ⟨_, rfl⟩
  obtain ⟨b9, hb9⟩ := hob
  rw [hb9]
  have HB := Lib.hid hb9
  clear hb9
  cases b9 with
  | false =>
    go_wp2
    go_ret
    exact ⟨rfl, E3⟩
  | true =>
    go_wp2_with fail
    go_loopw [6, 7, 8] (fun i _ _ wr => ∃ k : Nat, k ≤ n ∧ i = .int .i64 k ∧ Ext w3 wr) (fun i _ _ _ => n - (RowKit.intOf i).toNat)
    case atStart => exact ⟨0, by omega, rfl, Ext.refl _⟩
    case round =>
      obtain ⟨k, hk, rfl, he⟩ := hrel
      have x1 := X1.out wr he
      by_cases hlt : k < n
      · obtain ⟨x, hx⟩ := get_of_lt (l := t) (k := k) (by rw [Hn.out]; exact hlt)
        obtain ⟨b, o, u, rfl, -, -, hps, -, q0, q1, -⟩ := Its.at_ HTs.out hx
        have Hri := Lib.hid (read_item HB.out (List.mem_of_getElem? hx))
        have y0 := fun W (e : Ext wr W) => X0.out W (he.trans e); have y1 := fun W (e : Ext wr W) => X1.out W (he.trans e)
        have p0 := fun W (e : Ext wr W) => q0 W (e13.trans (he.trans e)); have p1 := fun W (e : Ext wr W) => q1 W (e13.trans (he.trans e))
        clear q0 q1 hx
        go_wp2_with fail
        refine wp_region_hold (fun W => Ext wr W) 12 [(0, true), (1, true), (2, true), (3, true), (4, true), (5, true), (6, true), (7, false), (8, true), (9, true), (10, true), (11, true)] (by kernel_rfl) (by kernel_rfl) ?_ ?_
        · show Ext _ _; (repeat' (first | exact Ext.refl _ | assumption | refine Ext.alloc ?_ _ | refine Ext.drew ?_ | refine Ext.drewN ?_ _ | refine Ext.trans ?_ (by assumption)))
        (repeat (first | (apply hw_read (by rfl) (by rfl); (· (intro W hW; (try dsimp only at hW); go_simp; (first | done | rfl | (rw [if_pos] <;> first | omega | rfl)))); (try simp only [Act.put, List.setIfInBounds_toArray, List.set_cons_zero, List.set_cons_succ])) | (refine hw_skip (by rfl) (by rfl) ?_; (try simp only [Act.put, List.setIfInBounds_toArray, List.set_cons_zero, List.set_cons_succ]))))
        refine hw_step (by rfl) ?_
        go_wp2_with (go_at_call 25; refine (VolumeRead_c x.path _ (HS.out.ext (e13.trans he).drew) (HT.out.ext (e13.trans he).drew) hps (HM1.out.ext (e13.trans he).drew)).mono ?_; rintro e w5 ⟨u5, rfl, ⟨u6, rfl, hI5⟩, he5⟩)
        have e5 : Ext wr w5 := (Ext.refl wr).drew.trans he5
        refine ⟨e5, ?_⟩
        rw [Hri.out]
        clear hI5
        (try (repeat (first | (apply hw_read (by rfl) (by rfl); (· (intro W hW; (try dsimp only at hW); go_simp; (first | done | rfl | (rw [if_pos] <;> first | omega | rfl)))); (try simp only [Act.put, List.setIfInBounds_toArray, List.set_cons_zero, List.set_cons_succ])) | (refine hw_skip (by rfl) (by rfl) ?_; (try simp only [Act.put, List.setIfInBounds_toArray, List.set_cons_zero, List.set_cons_succ])))))
        (refine hw_nil ?_; (try simp only [List.drop_succ_cons, List.drop_zero]))
        have z1 := y1 w5 e5; have z2 := p1 w5 e5
        clear y0 y1 p0 p1
        go_wp2
        refine NoPanic.normal ?_
        (try dsimp only [Exit.then])
        cases hd : x.dir with
        | true =>
          rw [hd] at z2
          go_wp2
          exact ⟨⟨k + 1, by omega, rfl, he.trans e5⟩, by simp only [RowKit.intOf]; omega⟩
        | false =>
          rw [hd] at z2
          go_wp2
          exact ⟨⟨k + 1, by omega, rfl, he.trans e5⟩, by simp only [RowKit.intOf]; omega⟩
      · go_wp2
        go_ret
        exact ⟨rfl, E3.trans he⟩
end Go.Sf
