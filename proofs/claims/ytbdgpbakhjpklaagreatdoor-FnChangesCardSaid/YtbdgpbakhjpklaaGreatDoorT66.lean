/- The reference's ChangesRun. -/
import Derived.Test.YtbdgpbakhjpklaaGreatDoorT62
namespace Go.Sf
open Go Go.RowKit Go.Proofs
theorem runOf_no {l : List It} {cs : List Ch} (h : treeOk l = false) : runOf l cs = none := by unfold runOf; rw [if_neg (by simp [h])]
theorem runOf_none {l : List It} {cs : List Ch} (h : runAll l cs = none) : runOf l cs = none := by unfold runOf; rw [h]; split <;> rfl
theorem runOf_of {l S : List It} {cs : List Ch} (h : treeOk l = true) (hr : runAll l cs = some S) : runOf l cs = if treeOk S = true then some S else none := by unfold runOf; rw [if_pos h, hr]; rfl
set_option maxRecDepth 8000 in
set_option maxHeartbeats 2000000 in
theorem specChangesRun_c {B B' : Nat} {v vc : Value} {l : List It} {cs : List Ch} (w : World) (h : Its B w v l) (hc : Chs B' w vc cs) (hcl : cs.length ≤ 4000000) :
    Calls Tryz.prog 38 #[v, vc] w (RetP (OptIts w.heap.size (runOf l cs)) w) := by
  have H := Lib.hid h
  have Ct : ∀ W, Ext w W → Calls Tryz.prog 67 #[v] W (Ret (.bool (treeOk l)) W) := fun W e => specTreeValid_c W (H.out.ext e)
  obtain ⟨A, c, rfl, hA⟩ := hc
  cases ht : treeOk l with
  | false =>
    rw [ht] at Ct
    have Hd := Lib.hid (runOf_no (cs := cs) ht)
    clear ht h hA
    go_enter Tryz.func38, Tryz.ntmps38
    go_wp2_with fail
    refine (Ct _ (Ext.refl _)).mono ?_
    rintro e w1 ⟨rfl, he1⟩
    go_wp2
    go_ret2
    exact ⟨_, rfl, OptIts.none_ Hd.out, he1.alloc _⟩
  | true =>
  rw [ht] at Ct
  have hl12 := (tree_set.1 ht).1
  have Hsl := Lib.hid (tree_set.1 ht).2.1
  have Ht := Lib.hid ht
  have hex : ∃ n, cs.length = n := ⟨_, rfl⟩
  obtain ⟨n, hn⟩ := hex
  rw [hn] at hcl ⊢
  have Hn := Lib.hid hn
  have HA := Lib.hid hA
  clear hA hn h ht
  go_enter Tryz.func38, Tryz.ntmps38
  go_wp2_with fail
  refine (Ct _ (Ext.refl _)).mono ?_
  rintro e w1 ⟨rfl, he1⟩
  go_wp2_with fail
  refine (l5All_c w1 (H.out.ext he1)).mono ?_
  rintro e w2 ⟨v2, rfl, hO, he2⟩
  have e02 := he1.trans he2
  have HI2 : Hid (Its w.heap.size w2 v2 l) := Lib.hid ((hO.both (B' := w.heap.size) he1.size he1.size).sl (EIt_ok _) (Nat.le_refl _) (by unfold lim; omega))
  clear hO
  go_wp2
  go_loopw [6, 7] (fun v i wr => ∃ (k : Nat) (S : List It), k ≤ n ∧ i = .int .i64 k ∧ Ext w wr ∧ Its w.heap.size wr v S ∧ S.length ≤ 12 + k ∧ Hid (Srt S) ∧ Hid (runAll l cs = runAll S (cs.drop k))) (fun _ i _ => n - (intOf i).toNat)
  case atStart => exact ⟨0, l, by omega, rfl, e02, HI2.out, by omega, Hsl, Lib.hid (by simp)⟩
  case round =>
    obtain ⟨k, S, hk, rfl, he, hI, hSl, hS, hrest⟩ := hrel
    have HI := Lib.hid hI
    by_cases hlt : k < n
    · obtain ⟨x, hx⟩ := get_of_lt (l := cs) (k := k) (by rw [Hn.out]; exact hlt)
      obtain ⟨b, o, u, rfl, -, -, hki, hps, hu, hc0, hc1, hc2, hc3⟩ := Chs.at_ HA.out hx
      obtain ⟨Ax, cx, rfl, hux⟩ := hu
      have hd := drop_cons hx
      rw [hd] at hrest
      obtain ⟨kd, ⟨xp, xd, xi⟩⟩ := x
      simp only at hki hps hux hc0 hc1 hc2 hc3
      have a0 := fun W (e : Ext wr W) => hc0 W (he.trans e); have a1 := fun W (e : Ext wr W) => hc1 W (he.trans e); have a2 := fun W (e : Ext wr W) => hc2 W (he.trans e); have a3 := fun W (e : Ext wr W) => hc3 W (he.trans e)
      have q0 := a0 wr (Ext.refl _); have q1 := a1 wr (Ext.refl _); have q2 := a2 wr (Ext.refl _); have q3 := a3 wr (Ext.refl _)
      have HX : Hid (∀ W, Ext wr W → ItV B' W (.agg #[.string xp, .bool xd, .slice Ax xi.length cx]) ⟨xp, xd, xi⟩) := Lib.hid fun W e => ⟨_, rfl, hps, Ints.ext (show Ints B' w _ _ from ⟨_, _, rfl, hux⟩) (he.trans e)⟩
      have HC : Hid (∀ W, Ext wr W → ChV B' W (.agg #[.int .i64 kd, .string xp, .bool xd, .slice Ax xi.length cx]) ⟨kd, ⟨xp, xd, xi⟩⟩) := Lib.hid fun W e => ⟨_, rfl, hki, hps, Ints.ext (show Ints B' w _ _ from ⟨_, _, rfl, hux⟩) (he.trans e)⟩
      have Ci := fun W (e : Ext wr W) => l5Item_c W (HX.out W e)
      clear hc0 hc1 hc2 hc3 hux hx hd hI
      cases hio : itemOk ⟨xp, xd, xi⟩ with
      | false =>
        rw [hio] at Ci
        have Hr : Hid (runOf l cs = none) := Lib.hid (runOf_none (by rw [hrest.out, run_bad hio]))
        clear hio hrest
        go_wp2_with (go_at_call 78; refine (Ci _ (Ext.refl _)).mono ?_; rintro e w3 ⟨rfl, he3⟩)
        go_ret2
        exact ⟨_, rfl, OptIts.none_ Hr.out, (he.trans he3).alloc _⟩
      | true =>
      rw [hio] at Ci
      go_wp2_with (go_at_call 78; refine (Ci _ (Ext.refl _)).mono ?_; rintro e w3 ⟨rfl, he3⟩; have q0 := a0 w3 he3; have q1 := a1 w3 he3; have q2 := a2 w3 he3; have q3 := a3 w3 he3)
      refine (l13Step_c w3 (HI.out.ext he3) hS.out (HC.out _ he3) (by unfold lim; omega)).mono ?_
      rintro e w4 ⟨u4, rfl, hst, he4⟩
      have Hst := Lib.hid hst
      clear hst q0 q1 q2 q3 a0 a1 a2 a3
      cases hsp : stepOf S ⟨kd, ⟨xp, xd, xi⟩⟩ with
      | none =>
        have Hr : Hid (runOf l cs = none) := Lib.hid (runOf_none (by rw [hrest.out, run_none hsp]))
        clear hrest hsp
        simp only [Option.isSome_none]
        go_wp2
        go_ret2
        exact ⟨_, rfl, OptIts.none_ Hr.out, ((he.trans he3).trans he4).alloc _⟩
      | some S' =>
        have Hr : Hid (runAll l cs = runAll S' (cs.drop (k + 1))) := Lib.hid (by rw [hrest.out, run_step hio hsp])
        have hss := step_srt hS.out hsp
        have HI4 : Hid (Its w.heap.size w4 u4 S') := Lib.hid ((Hst.out S' hsp).keep (he.trans he3).size (fun _ _ _ => rfl))
        have HS' := Lib.hid hss.1
        have hsl := hss.2
        clear hrest hsp hss Hst
        simp only [Option.isSome_some]
        go_wp2
        go_roundw
        case rel => exact ⟨k + 1, S', by omega, by go_num, (he.trans he3).trans he4, HI4.out, by omega, HS', Hr⟩
        case measure => simp [intOf]; omega
    · have hks : k = n := by omega
      subst hks
      have Hr : Hid (runOf l cs = if treeOk S = true then some S else none) := Lib.hid (runOf_of Ht.out (by rw [hrest.out, List.drop_eq_nil_of_le (by rw [Hn.out]; exact Nat.le_refl _)]; rfl))
      have Cv := specTreeValid_c wr hI
      clear hrest hI
      cases hts : treeOk S with
      | false =>
        rw [hts] at Cv
        have Hr2 : Hid (runOf l cs = none) := Lib.hid (by rw [Hr.out, hts]; rfl)
        clear hts
        go_wp2_with (go_at_call 67; refine Cv.mono ?_; rintro e w3 ⟨rfl, he3⟩)
        go_ret2
        exact ⟨_, rfl, OptIts.none_ Hr2.out, (he.trans he3).alloc _⟩
      | true =>
        rw [hts] at Cv
        have Hr2 : Hid (runOf l cs = some S) := Lib.hid (by rw [Hr.out, hts]; rfl)
        clear hts
        go_wp2_with (go_at_call 67; refine Cv.mono ?_; rintro e w3 ⟨rfl, he3⟩)
        go_ret2
        exact ⟨_, rfl, OptIts.some_ Hr2.out (HI.out.ext he3), he.trans he3⟩
end Go.Sf
