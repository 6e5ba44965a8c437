/- The reference's sums of blocks, and what it asks of them. -/
import Derived.Test.YtphgnbjikgglmaaTA
import Derived.Test.YtphgnbjikgglmaaGT
set_option linter.all false
/-! The reference's sums of blocks, and what it asks of them. -/
namespace Go.Sf
open Go Go.RowKit Go.Proofs
set_option maxHeartbeats 1000000 in
theorem l2Sum_c {B : Nat} {v : Value} {bs : List Int} (w : World) (h : Ints B w v bs) (hb : blockOk bs = true) : Calls TryG.prog 61 #[v] w (Ret (.int .i64 (blkSum bs)) w) := by
  obtain ⟨A, c, rfl, hA⟩ := h
  have hok : blkOk bs = true := by rw [blkOk_eq]; exact hb
  have Hr : Hid (blkSum bs = bs.foldl sumStep 7) := Lib.hid (by unfold blkSum; rw [hok]; rfl)
  have h8 : bs.length ≤ 8 := by unfold blkOk at hok; simp at hok; omega
  have Hx8 : Hid (∀ (k : Nat) (x : Int), bs[k]? = some x → 0 ≤ x ∧ x ≤ 255) := Lib.hid fun k x hx => by
    unfold blkOk at hok
    simp at hok
    have := hok.2
    unfold bytesOk at this
    rw [List.all_eq_true] at this
    simpa using this x (List.mem_of_getElem? hx)
  clear hok hb
  generalize hn : bs.length = n at *
  have Hn := Lib.hid hn; clear hn
  have HA := Lib.hid hA; clear hA
  go_enter TryG.func61, TryG.ntmps61
  go_wp2
  go_loopw [3, 4] (fun q i wr => ∃ (k : Nat) (s : Int), k ≤ n ∧ i = .int .i64 k ∧ q = .int .i64 s ∧ Ext w wr ∧ 0 ≤ s ∧ s < 9973 ∧ Hid (s = (bs.take k).foldl sumStep 7)) (fun _ i _ => n - (RowKit.intOf i).toNat)
  case atStart => exact ⟨0, 7, by omega, rfl, rfl, Ext.refl _, by omega, by omega, Lib.hid rfl⟩
  case round =>
    obtain ⟨k, s, hk, rfl, rfl, he, hs0, hs1, hsum⟩ := hrel
    by_cases hlt : k < n
    · obtain ⟨x, hx⟩ := get_of_lt (l := bs) (k := k) (by rw [Hn.out]; exact hlt)
      obtain ⟨b, o, rfl, -, -, -, hc⟩ := Ints.at_ HA.out hx
      have a0 := hc wr he
      obtain ⟨y0, y1⟩ := Hx8.out k x hx
      have Hs : Hid (sumStep s x = (bs.take (k + 1)).foldl sumStep 7) := Lib.hid (by rw [List.take_add_one, hx, Option.toList_some, List.foldl_append, ← hsum.out]; rfl)
      have e1 : IntKind.i64.wrap (263 * s) = 263 * s := by rw [IntKind.wrap_i64]; omega
      have e2 : IntKind.i64.wrap (263 * s + x) = 263 * s + x := by rw [IntKind.wrap_i64]; omega
      have e3 : (263 * s + x).tmod 9973 = sumStep s x := by rw [Int.tmod_eq_emod_of_nonneg (by omega)]; rfl
      have hr : 0 ≤ sumStep s x ∧ sumStep s x < 9973 := by unfold sumStep; omega
      clear hc hx hsum
      go_wp2
      go_roundw
      case rel => exact ⟨k + 1, sumStep s x, by omega, by go_num, by simp only [e1, e2, e3], he, hr.1, hr.2, Hs⟩
      case measure => simp [RowKit.intOf]; omega
    · have hks : k = n := by omega
      subst hks
      have Hs : Hid (s = bs.foldl sumStep 7) := Lib.hid (by rw [hsum.out, List.take_of_length_le (by rw [Hn.out]; exact Nat.le_refl _)])
      clear hsum
      go_wp2
      go_ret
      exact ⟨by rw [Hr.out, ← Hs.out]; rfl, he⟩
set_option maxRecDepth 4000 in
set_option maxHeartbeats 4000000 in
theorem l16Checks_c {B : Nat} {v : Value} {l : List Ck} (w : World) (h : Cks B w v l) : Calls TryG.prog 36 #[v] w (Ret (.bool (cksOk l)) w) := by
  obtain ⟨A, c, rfl, hA⟩ := h
  have hl := hA.2.2.1
  unfold lim at hl
  generalize hn : l.length = n at *
  have Hn := Lib.hid hn; clear hn
  have HA := Lib.hid hA; clear hA
  go_enter TryG.func36, TryG.ntmps36
  go_wp2
  go_loopw [3] (fun i wr => ∃ k : Nat, k ≤ n ∧ i = .int .i64 k ∧ Ext w wr ∧ Hid (∀ j h, j < k → l[j]? = some h → CkAt l j h)) (fun i _ => n - (RowKit.intOf i).toNat)
  case atStart => exact ⟨0, by omega, rfl, Ext.refl _, Lib.hid fun j h hj => absurd hj (by omega)⟩
  case round =>
    obtain ⟨k, hk, rfl, he, hall⟩ := hrel
    by_cases hlt : k < n
    · obtain ⟨x, hx⟩ := get_of_lt (l := l) (k := k) (by rw [Hn.out]; exact hlt)
      obtain ⟨b, o, rfl, -, -, hki, hku, hc0, hc1⟩ := Cks.at_ HA.out hx
      have Hx := Lib.hid hx
      have a0 := fun W (e : Ext wr W) => hc0 W (he.trans e)
      have a1 := fun W (e : Ext wr W) => hc1 W (he.trans e)
      have Ci := fun W => l6In_c x.id 1 99 W
      have Cs := fun W => l6In_c x.sum 0 9972 W
      clear hc0 hc1 hx
      cases hi : inB x.id 1 99 with
      | false =>
        simp only [hi] at Ci
        have Hr : Hid (cksOk l = false) := Lib.hid (cks_bad Hx.out fun h => by rw [inB_iff.2 h.1] at hi; cases hi)
        clear hi hall
        go_wp2
        refine wp_region_ext (by kernel_rfl) (by kernel_rfl) ?_
        repeat (first | (apply q_plain rfl; (· intro W eW; go_simp; (first | done | rfl | (rw [if_pos] <;> first | omega | rfl))); (try simp only [Act.put, List.setIfInBounds_toArray, List.set_cons_zero, List.set_cons_succ])) | (refine qg_skip (by rfl) ?_; (try simp only [Act.put, List.setIfInBounds_toArray, List.set_cons_zero, List.set_cons_succ])) | (apply qg_plain (by rfl); (· intro W eW; go_simp; (first | done | rfl | (rw [if_pos] <;> first | omega | rfl))); (try simp only [Act.put, List.setIfInBounds_toArray, List.set_cons_zero, List.set_cons_succ])))
        ((first | apply q_call rfl | apply qg_call (by rfl)); (· intro W eW; go_simp; (first | done | (constructor <;> rfl))); (· intro W eW; exact Ci _); (try simp only [Act.put, List.setIfInBounds_toArray, List.set_cons_zero, List.set_cons_succ]))
        repeat (first | (apply q_plain rfl; (· intro W eW; go_simp; (first | done | rfl | (rw [if_pos] <;> first | omega | rfl))); (try simp only [Act.put, List.setIfInBounds_toArray, List.set_cons_zero, List.set_cons_succ])) | (refine qg_skip (by rfl) ?_; (try simp only [Act.put, List.setIfInBounds_toArray, List.set_cons_zero, List.set_cons_succ])) | (apply qg_plain (by rfl); (· intro W eW; go_simp; (first | done | rfl | (rw [if_pos] <;> first | omega | rfl))); (try simp only [Act.put, List.setIfInBounds_toArray, List.set_cons_zero, List.set_cons_succ])))
        refine q_nil ?_
        intro w2 e2
        clear a0 a1 Ci Cs
        go_wp2
        go_ret
        exact ⟨ret_b Hr.out.symm, he.trans e2⟩
      | true =>
      simp only [hi] at Ci
      have hi' := inB_iff.1 hi
      cases hs : inB x.sum 0 9972 with
      | false =>
        simp only [hs] at Cs
        have Hr : Hid (cksOk l = false) := Lib.hid (cks_bad Hx.out fun h => by rw [inB_iff.2 h.2.1] at hs; cases hs)
        clear hi hs hall
        go_wp2
        refine wp_region_ext (by kernel_rfl) (by kernel_rfl) ?_
        repeat (first | (apply q_plain rfl; (· intro W eW; go_simp; (first | done | rfl | (rw [if_pos] <;> first | omega | rfl))); (try simp only [Act.put, List.setIfInBounds_toArray, List.set_cons_zero, List.set_cons_succ])) | (refine qg_skip (by rfl) ?_; (try simp only [Act.put, List.setIfInBounds_toArray, List.set_cons_zero, List.set_cons_succ])) | (apply qg_plain (by rfl); (· intro W eW; go_simp; (first | done | rfl | (rw [if_pos] <;> first | omega | rfl))); (try simp only [Act.put, List.setIfInBounds_toArray, List.set_cons_zero, List.set_cons_succ])))
        ((first | apply q_call rfl | apply qg_call (by rfl)); (· intro W eW; go_simp; (first | done | (constructor <;> rfl))); (· intro W eW; exact Ci _); (try simp only [Act.put, List.setIfInBounds_toArray, List.set_cons_zero, List.set_cons_succ]))
        repeat (first | (apply q_plain rfl; (· intro W eW; go_simp; (first | done | rfl | (rw [if_pos] <;> first | omega | rfl))); (try simp only [Act.put, List.setIfInBounds_toArray, List.set_cons_zero, List.set_cons_succ])) | (refine qg_skip (by rfl) ?_; (try simp only [Act.put, List.setIfInBounds_toArray, List.set_cons_zero, List.set_cons_succ])) | (apply qg_plain (by rfl); (· intro W eW; go_simp; (first | done | rfl | (rw [if_pos] <;> first | omega | rfl))); (try simp only [Act.put, List.setIfInBounds_toArray, List.set_cons_zero, List.set_cons_succ])))
        ((first | apply q_call rfl | apply qg_call (by rfl)); (· intro W eW; go_simp; (first | done | (constructor <;> rfl))); (· intro W eW; exact Cs _); (try simp only [Act.put, List.setIfInBounds_toArray, List.set_cons_zero, List.set_cons_succ]))
        repeat (first | (apply q_plain rfl; (· intro W eW; go_simp; (first | done | rfl | (rw [if_pos] <;> first | omega | rfl))); (try simp only [Act.put, List.setIfInBounds_toArray, List.set_cons_zero, List.set_cons_succ])) | (refine qg_skip (by rfl) ?_; (try simp only [Act.put, List.setIfInBounds_toArray, List.set_cons_zero, List.set_cons_succ])) | (apply qg_plain (by rfl); (· intro W eW; go_simp; (first | done | rfl | (rw [if_pos] <;> first | omega | rfl))); (try simp only [Act.put, List.setIfInBounds_toArray, List.set_cons_zero, List.set_cons_succ])))
        refine q_nil ?_
        intro w2 e2
        clear a0 a1 Ci Cs
        go_wp2
        go_ret
        exact ⟨ret_b Hr.out.symm, he.trans e2⟩
      | true =>
      simp only [hs] at Cs
      have hs' := inB_iff.1 hs
      cases k with
      | zero =>
        have Hn' : Hid (∀ i h, i < 1 → l[i]? = some h → CkAt l i h) := Lib.hid fun i h hi2 hh => by
          obtain rfl : i = 0 := by omega
          rw [Hx.out] at hh
          cases hh
          exact ⟨hi', hs', fun j y hj => by omega⟩
        simp only [Nat.zero_mul, Nat.add_zero] at a0 a1
        clear hi hs hall hi' hs'
        go_wp2
        refine wp_region_ext (by kernel_rfl) (by kernel_rfl) ?_
        repeat (first | (apply q_plain rfl; (· intro W eW; go_simp; (first | done | rfl | (rw [if_pos] <;> first | omega | rfl))); (try simp only [Act.put, List.setIfInBounds_toArray, List.set_cons_zero, List.set_cons_succ])) | (refine qg_skip (by rfl) ?_; (try simp only [Act.put, List.setIfInBounds_toArray, List.set_cons_zero, List.set_cons_succ])) | (apply qg_plain (by rfl); (· intro W eW; go_simp; (first | done | rfl | (rw [if_pos] <;> first | omega | rfl))); (try simp only [Act.put, List.setIfInBounds_toArray, List.set_cons_zero, List.set_cons_succ])))
        ((first | apply q_call rfl | apply qg_call (by rfl)); (· intro W eW; go_simp; (first | done | (constructor <;> rfl))); (· intro W eW; exact Ci _); (try simp only [Act.put, List.setIfInBounds_toArray, List.set_cons_zero, List.set_cons_succ]))
        repeat (first | (apply q_plain rfl; (· intro W eW; go_simp; (first | done | rfl | (rw [if_pos] <;> first | omega | rfl))); (try simp only [Act.put, List.setIfInBounds_toArray, List.set_cons_zero, List.set_cons_succ])) | (refine qg_skip (by rfl) ?_; (try simp only [Act.put, List.setIfInBounds_toArray, List.set_cons_zero, List.set_cons_succ])) | (apply qg_plain (by rfl); (· intro W eW; go_simp; (first | done | rfl | (rw [if_pos] <;> first | omega | rfl))); (try simp only [Act.put, List.setIfInBounds_toArray, List.set_cons_zero, List.set_cons_succ])))
        ((first | apply q_call rfl | apply qg_call (by rfl)); (· intro W eW; go_simp; (first | done | (constructor <;> rfl))); (· intro W eW; exact Cs _); (try simp only [Act.put, List.setIfInBounds_toArray, List.set_cons_zero, List.set_cons_succ]))
        repeat (first | (apply q_plain rfl; (· intro W eW; go_simp; (first | done | rfl | (rw [if_pos] <;> first | omega | rfl))); (try simp only [Act.put, List.setIfInBounds_toArray, List.set_cons_zero, List.set_cons_succ])) | (refine qg_skip (by rfl) ?_; (try simp only [Act.put, List.setIfInBounds_toArray, List.set_cons_zero, List.set_cons_succ])) | (apply qg_plain (by rfl); (· intro W eW; go_simp; (first | done | rfl | (rw [if_pos] <;> first | omega | rfl))); (try simp only [Act.put, List.setIfInBounds_toArray, List.set_cons_zero, List.set_cons_succ])))
        refine q_nil ?_
        intro w2 e2
        clear a0 a1 Ci Cs
        go_wp2
        go_roundw
        case rel => exact ⟨1, by omega, by go_num, he.trans e2, Hn'⟩
        case measure => simp [RowKit.intOf]; omega
      | succ m =>
        obtain ⟨y, hy⟩ := get_of_lt (l := l) (k := m) (by rw [Hn.out]; omega)
        obtain ⟨b', o', hbo, -, -, -, -, hy0, -⟩ := Cks.at_ HA.out hy
        simp only [Option.some.injEq, Addr.mk.injEq, and_true] at hbo
        obtain ⟨rfl, rfl⟩ := hbo
        have b0 := fun W (e : Ext wr W) => hy0 W (he.trans e)
        have hw : IntKind.i64.wrap (m : Int) = m := by simp [IntKind.wrap, IntKind.signed, IntKind.bits]; omega
        have Hy := Lib.hid hy
        clear hy hy0
        by_cases hg : x.id ≤ y.id
        · have Hr : Hid (cksOk l = false) := Lib.hid (cks_bad Hx.out fun h => by have := h.2.2 m y rfl Hy.out; omega)
          clear hi hs hall
          go_wp2
          refine wp_region_ext (by kernel_rfl) (by kernel_rfl) ?_
          repeat (first | (apply q_plain rfl; (· intro W eW; go_simp; (first | done | rfl | (rw [if_pos] <;> first | omega | rfl))); (try simp only [Act.put, List.setIfInBounds_toArray, List.set_cons_zero, List.set_cons_succ])) | (refine qg_skip (by rfl) ?_; (try simp only [Act.put, List.setIfInBounds_toArray, List.set_cons_zero, List.set_cons_succ])) | (apply qg_plain (by rfl); (· intro W eW; go_simp; (first | done | rfl | (rw [if_pos] <;> first | omega | rfl))); (try simp only [Act.put, List.setIfInBounds_toArray, List.set_cons_zero, List.set_cons_succ])))
          ((first | apply q_call rfl | apply qg_call (by rfl)); (· intro W eW; go_simp; (first | done | (constructor <;> rfl))); (· intro W eW; exact Ci _); (try simp only [Act.put, List.setIfInBounds_toArray, List.set_cons_zero, List.set_cons_succ]))
          repeat (first | (apply q_plain rfl; (· intro W eW; go_simp; (first | done | rfl | (rw [if_pos] <;> first | omega | rfl))); (try simp only [Act.put, List.setIfInBounds_toArray, List.set_cons_zero, List.set_cons_succ])) | (refine qg_skip (by rfl) ?_; (try simp only [Act.put, List.setIfInBounds_toArray, List.set_cons_zero, List.set_cons_succ])) | (apply qg_plain (by rfl); (· intro W eW; go_simp; (first | done | rfl | (rw [if_pos] <;> first | omega | rfl))); (try simp only [Act.put, List.setIfInBounds_toArray, List.set_cons_zero, List.set_cons_succ])))
          ((first | apply q_call rfl | apply qg_call (by rfl)); (· intro W eW; go_simp; (first | done | (constructor <;> rfl))); (· intro W eW; exact Cs _); (try simp only [Act.put, List.setIfInBounds_toArray, List.set_cons_zero, List.set_cons_succ]))
          repeat (first | (apply q_plain rfl; (· intro W eW; go_simp; (first | done | rfl | (rw [if_pos] <;> first | omega | rfl))); (try simp only [Act.put, List.setIfInBounds_toArray, List.set_cons_zero, List.set_cons_succ])) | (refine qg_skip (by rfl) ?_; (try simp only [Act.put, List.setIfInBounds_toArray, List.set_cons_zero, List.set_cons_succ])) | (apply qg_plain (by rfl); (· intro W eW; go_simp; (first | done | rfl | (rw [if_pos] <;> first | omega | rfl))); (try simp only [Act.put, List.setIfInBounds_toArray, List.set_cons_zero, List.set_cons_succ])))
          refine q_nil ?_
          intro w2 e2
          clear a0 a1 b0 Ci Cs
          go_wp2
          go_ret
          exact ⟨ret_b Hr.out.symm, he.trans e2⟩
        · have Hn' : Hid (∀ i h, i < m + 1 + 1 → l[i]? = some h → CkAt l i h) := Lib.hid fun i h hi2 hh => by
            rcases Nat.lt_or_ge i (m + 1) with h' | h'
            · exact hall.out i h h' hh
            · obtain rfl : i = m + 1 := by omega
              rw [Hx.out] at hh
              cases hh
              refine ⟨hi', hs', fun j z hj hz => ?_⟩
              obtain rfl : j = m := by omega
              rw [Hy.out] at hz
              cases hz
              omega
          clear hi hs hall hi' hs'
          go_wp2
          refine wp_region_ext (by kernel_rfl) (by kernel_rfl) ?_
          repeat (first | (apply q_plain rfl; (· intro W eW; go_simp; (first | done | rfl | (rw [if_pos] <;> first | omega | rfl))); (try simp only [Act.put, List.setIfInBounds_toArray, List.set_cons_zero, List.set_cons_succ])) | (refine qg_skip (by rfl) ?_; (try simp only [Act.put, List.setIfInBounds_toArray, List.set_cons_zero, List.set_cons_succ])) | (apply qg_plain (by rfl); (· intro W eW; go_simp; (first | done | rfl | (rw [if_pos] <;> first | omega | rfl))); (try simp only [Act.put, List.setIfInBounds_toArray, List.set_cons_zero, List.set_cons_succ])))
          ((first | apply q_call rfl | apply qg_call (by rfl)); (· intro W eW; go_simp; (first | done | (constructor <;> rfl))); (· intro W eW; exact Ci _); (try simp only [Act.put, List.setIfInBounds_toArray, List.set_cons_zero, List.set_cons_succ]))
          repeat (first | (apply q_plain rfl; (· intro W eW; go_simp; (first | done | rfl | (rw [if_pos] <;> first | omega | rfl))); (try simp only [Act.put, List.setIfInBounds_toArray, List.set_cons_zero, List.set_cons_succ])) | (refine qg_skip (by rfl) ?_; (try simp only [Act.put, List.setIfInBounds_toArray, List.set_cons_zero, List.set_cons_succ])) | (apply qg_plain (by rfl); (· intro W eW; go_simp; (first | done | rfl | (rw [if_pos] <;> first | omega | rfl))); (try simp only [Act.put, List.setIfInBounds_toArray, List.set_cons_zero, List.set_cons_succ])))
          ((first | apply q_call rfl | apply qg_call (by rfl)); (· intro W eW; go_simp; (first | done | (constructor <;> rfl))); (· intro W eW; exact Cs _); (try simp only [Act.put, List.setIfInBounds_toArray, List.set_cons_zero, List.set_cons_succ]))
          repeat (first | (apply q_plain rfl; (· intro W eW; go_simp; (first | done | rfl | (rw [if_pos] <;> first | omega | rfl))); (try simp only [Act.put, List.setIfInBounds_toArray, List.set_cons_zero, List.set_cons_succ])) | (refine qg_skip (by rfl) ?_; (try simp only [Act.put, List.setIfInBounds_toArray, List.set_cons_zero, List.set_cons_succ])) | (apply qg_plain (by rfl); (· intro W eW; go_simp; (first | done | rfl | (rw [if_pos] <;> first | omega | rfl))); (try simp only [Act.put, List.setIfInBounds_toArray, List.set_cons_zero, List.set_cons_succ])))
          refine q_nil ?_
          intro w2 e2
          clear a0 a1 b0 Ci Cs
          go_wp2
          go_roundw
          case rel => exact ⟨m + 1 + 1, by omega, by go_num, he.trans e2, Hn'⟩
          case measure => simp [RowKit.intOf]; omega
    · have hks : k = n := by omega
      subst hks
      by_cases h16 : k ≤ 16
      · have h16' : (k : Int) ≤ 16 := by omega
        have Hr : Hid (cksOk l = true) := Lib.hid (cksOk_iff.2 ⟨by have := Hn.out; omega, fun j y hy => hall.out j y (by have := lt_of_get hy; have := Hn.out; omega) hy⟩)
        clear hall
        go_wp2
        go_ret
        exact ⟨ret_b Hr.out.symm, he⟩
      · have h16' : ¬ (k : Int) ≤ 16 := by omega
        have Hr : Hid (cksOk l = false) := Lib.hid (cksOk_false.2 fun h => by have := h.1; have := Hn.out; omega)
        clear hall
        go_wp2
        go_ret
        exact ⟨ret_b Hr.out.symm, he⟩
/-- a store whose blocks are well, whatever else -/
def BlksOk (l : List Hd) : Prop := l.length ≤ 16 ∧ ∀ (k : Nat) (x : Hd), l[k]? = some x → blockOk x.bytes = true
theorem StoreOk.blks {l : List Hd} (h : StoreOk l) : BlksOk l := ⟨h.1, fun k x hx => (hd_ok (h.2 k x hx).1).2.1⟩
theorem find_at {l : List Hd} {p : Int} : (findH l p = none ∧ hAt l p = -1) ∨ ∃ (i : Nat) (x : Hd), l[i]? = some x ∧ x.id = p ∧ findH l p = some x ∧ hAt l p = (i : Int) := by
  rcases atG_find (idIs p) l 0 with ⟨h1, h2⟩ | ⟨i, x, h1, h2, h3, h4, -⟩
  · exact .inl ⟨h1, h2⟩
  · exact .inr ⟨i, x, h1, eqb_true.1 h2, h3, by rw [← Nat.zero_add i]; exact h4⟩
set_option maxRecDepth 4000 in
set_option maxHeartbeats 4000000 in
theorem l16Good_c {B : Nat} {v : Value} {l : List Hd} (c : Ck) (w : World) (h : Hds B w v l) (hb : BlksOk l) : Calls TryG.prog 39 #[v, .agg #[.int .i64 c.id, .int .i64 c.sum]] w (Ret (.bool (goodC l c)) w) := by
  have H := Lib.hid h
  have hlen := hb.1
  have hbk := Blk.new w 64 #[.int .i64 c.id, .int .i64 c.sum]
  have ea : Ext w (w.alloc (.cells #[.int .i64 c.id, .int .i64 c.sum] 64)) := (Ext.refl w).alloc _
  have d0 := fun W (e : Ext _ W) => hbk.at_ (i := 0) (u := .int .i64 c.id) rfl W e
  have d1 := fun W (e : Ext _ W) => hbk.at_ (i := 1) (u := .int .i64 c.sum) rfl W e
  have D1 := Lib.hid d1
  clear hbk d1
  rcases find_at (l := l) (p := c.id) with ⟨hf, hat⟩ | ⟨i, x, hx, hxi, hf, hat⟩
  · have Hr : Hid (goodC l c = false) := Lib.hid (by unfold goodC; rw [hf])
    have Ca : ∀ W, Ext w W → Calls TryG.prog 38 #[v, .int .i64 c.id] W (Ret (.int .i64 (-1)) W) := fun W e => by rw [← hat]; exact l3At_c c.id W (H.out.ext e)
    clear hf hat h
    go_enter TryG.func39, TryG.ntmps39
    go_wp2_with (go_at_call 38; refine (Ca _ ea).mono ?_; rintro e w2 ⟨rfl, he2⟩)
    refine wp_region_ext (by kernel_rfl) (by kernel_rfl) ?_
    repeat (first | (apply q_plain rfl; (· intro W eW; go_simp; (first | done | rfl | (rw [if_pos] <;> first | omega | rfl))); (try simp only [Act.put, List.setIfInBounds_toArray, List.set_cons_zero, List.set_cons_succ])) | (refine qg_skip (by rfl) ?_; (try simp only [Act.put, List.setIfInBounds_toArray, List.set_cons_zero, List.set_cons_succ])) | (apply qg_plain (by rfl); (· intro W eW; go_simp; (first | done | rfl | (rw [if_pos] <;> first | omega | rfl))); (try simp only [Act.put, List.setIfInBounds_toArray, List.set_cons_zero, List.set_cons_succ])))
    refine q_nil ?_
    intro w3 e3
    go_wp2
    go_ret
    exact ⟨ret_b Hr.out.symm, ea.trans (he2.trans e3)⟩
  · have Hr : Hid (goodC l c = eqb (blkSum x.bytes) c.sum) := Lib.hid (by unfold goodC; rw [hf])
    have Ca : ∀ W, Ext w W → Calls TryG.prog 38 #[v, .int .i64 c.id] W (Ret (.int .i64 (i : Int)) W) := fun W e => by rw [← hat]; exact l3At_c c.id W (H.out.ext e)
    have hlt := lt_of_get hx
    have hbl := hb.2 i x hx
    obtain ⟨A, cp, rfl, hA⟩ := h
    obtain ⟨b, o, u, rfl, -, -, -, hu, -, -, hc1, -⟩ := Hds.at_ hA hx
    have Cl : ∀ W, Ext w W → Calls TryG.prog 61 #[u] W (Ret (.int .i64 (blkSum x.bytes)) W) := fun W e => l2Sum_c W (hu.ext e) hbl
    have C1 := Lib.hid hc1
    generalize hn : l.length = n at *
    obtain ⟨A2, c2, rfl, -⟩ := hu
    generalize x.bytes.length = n2 at *
    cases hq : eqb (blkSum x.bytes) c.sum with
    | false =>
      have hne : (blkSum x.bytes == c.sum) = false := beq_eq_false_iff_ne.2 (eqb_false.1 hq)
      rw [hq] at Hr
      generalize blkSum x.bytes = sm at *
      clear hf hat hx hxi hA hbl hc1 hb H hn hq
      go_enter TryG.func39, TryG.ntmps39
      go_wp2_with (go_at_call 38; refine (Ca _ ea).mono ?_; rintro e w2 ⟨rfl, he2⟩)
      have e1 := ea.trans he2
      have a1 := fun W (e : Ext w2 W) => C1.out W (e1.trans e)
      have dd := fun W (e : Ext w2 W) => D1.out W (he2.trans e)
      clear d0
      refine wp_region_ext (by kernel_rfl) (by kernel_rfl) ?_
      repeat (first | (apply q_plain rfl; (· intro W eW; go_simp; (first | done | rfl | (rw [if_pos] <;> first | omega | rfl))); (try simp only [Act.put, List.setIfInBounds_toArray, List.set_cons_zero, List.set_cons_succ])) | (refine qg_skip (by rfl) ?_; (try simp only [Act.put, List.setIfInBounds_toArray, List.set_cons_zero, List.set_cons_succ])) | (apply qg_plain (by rfl); (· intro W eW; go_simp; (first | done | rfl | (rw [if_pos] <;> first | omega | rfl))); (try simp only [Act.put, List.setIfInBounds_toArray, List.set_cons_zero, List.set_cons_succ])))
      ((first | apply q_call rfl | apply qg_call (by rfl)); (· intro W eW; go_simp; (first | done | (constructor <;> rfl))); (· intro W eW; exact Cl _ (e1.trans eW)); (try simp only [Act.put, List.setIfInBounds_toArray, List.set_cons_zero, List.set_cons_succ]))
      repeat (first | (apply q_plain rfl; (· intro W eW; go_simp; (first | done | rfl | (rw [if_pos] <;> first | omega | rfl))); (try simp only [Act.put, List.setIfInBounds_toArray, List.set_cons_zero, List.set_cons_succ])) | (refine qg_skip (by rfl) ?_; (try simp only [Act.put, List.setIfInBounds_toArray, List.set_cons_zero, List.set_cons_succ])) | (apply qg_plain (by rfl); (· intro W eW; go_simp; (first | done | rfl | (rw [if_pos] <;> first | omega | rfl))); (try simp only [Act.put, List.setIfInBounds_toArray, List.set_cons_zero, List.set_cons_succ])))
      refine q_nil ?_
      intro w3 e3
      clear a1 dd
      go_wp2
      go_ret
      exact ⟨ret_b Hr.out.symm, e1.trans e3⟩
    | true =>
      have hne : (blkSum x.bytes == c.sum) = true := beq_iff_eq.2 (eqb_true.1 hq)
      rw [hq] at Hr
      generalize blkSum x.bytes = sm at *
      clear hf hat hx hxi hA hbl hc1 hb H hn hq
      go_enter TryG.func39, TryG.ntmps39
      go_wp2_with (go_at_call 38; refine (Ca _ ea).mono ?_; rintro e w2 ⟨rfl, he2⟩)
      have e1 := ea.trans he2
      have a1 := fun W (e : Ext w2 W) => C1.out W (e1.trans e)
      have dd := fun W (e : Ext w2 W) => D1.out W (he2.trans e)
      clear d0
      refine wp_region_ext (by kernel_rfl) (by kernel_rfl) ?_
      repeat (first | (apply q_plain rfl; (· intro W eW; go_simp; (first | done | rfl | (rw [if_pos] <;> first | omega | rfl))); (try simp only [Act.put, List.setIfInBounds_toArray, List.set_cons_zero, List.set_cons_succ])) | (refine qg_skip (by rfl) ?_; (try simp only [Act.put, List.setIfInBounds_toArray, List.set_cons_zero, List.set_cons_succ])) | (apply qg_plain (by rfl); (· intro W eW; go_simp; (first | done | rfl | (rw [if_pos] <;> first | omega | rfl))); (try simp only [Act.put, List.setIfInBounds_toArray, List.set_cons_zero, List.set_cons_succ])))
      ((first | apply q_call rfl | apply qg_call (by rfl)); (· intro W eW; go_simp; (first | done | (constructor <;> rfl))); (· intro W eW; exact Cl _ (e1.trans eW)); (try simp only [Act.put, List.setIfInBounds_toArray, List.set_cons_zero, List.set_cons_succ]))
      repeat (first | (apply q_plain rfl; (· intro W eW; go_simp; (first | done | rfl | (rw [if_pos] <;> first | omega | rfl))); (try simp only [Act.put, List.setIfInBounds_toArray, List.set_cons_zero, List.set_cons_succ])) | (refine qg_skip (by rfl) ?_; (try simp only [Act.put, List.setIfInBounds_toArray, List.set_cons_zero, List.set_cons_succ])) | (apply qg_plain (by rfl); (· intro W eW; go_simp; (first | done | rfl | (rw [if_pos] <;> first | omega | rfl))); (try simp only [Act.put, List.setIfInBounds_toArray, List.set_cons_zero, List.set_cons_succ])))
      refine q_nil ?_
      intro w3 e3
      clear a1 dd
      go_wp2
      go_ret
      exact ⟨ret_b Hr.out.symm, e1.trans e3⟩
end Go.Sf

/-! A store is mended, by the reference. -/
namespace Go.Sf
open Go Go.RowKit Go.Proofs
/-- a block's bytes are written -/
theorem OwnS.setBytes {base B : Nat} {w : World} {v : Value} {l : List Hd} (h : OwnS base 35 3 (EHd B) w v l) {k : Nat} {x : Hd} (hx : l[k]? = some x) :
    ∃ g c u0, v = .slice (some ⟨g, 0, none⟩) l.length c ∧ l.length ≤ c ∧ base ≤ g ∧ w.cell? ⟨g, k * 3 + 1, none⟩ = some u0 ∧ w.frozen? ⟨g, k * 3 + 1, none⟩ = false ∧ Ints B w u0 x.bytes ∧
      ∀ W, w.heap[g]? = W.heap[g]? → KeepsT 35 w W → ∀ u bs, Ints B W u bs → OwnS base 35 3 (EHd B) (W.setCell ⟨g, k * 3 + 1, none⟩ u) v (l.set k { x with bytes := bs }) := by
  obtain ⟨xs, ⟨h1, h2⟩, h3⟩ := h
  have hk := lt_of_get hx
  rcases h2 with ⟨rfl, hn⟩ | ⟨g, cap, cur, rfl, hg, hh, hnc, hcm, hcs, htk⟩
  · rw [hn] at hk; omega
  · have hb : Blk w g 35 cur := hh
    have hc0 : cur[k * 3 + 1]? = xs[k * 3 + 1]? := by rw [← htk, List.getElem?_take_of_lt (by omega), Array.getElem?_toList]
    have he := h3 k x hx
    obtain ⟨q0, q1, ⟨u0, q2, q3⟩, q4, q5⟩ := he
    rw [List.getElem?_toArray] at q0 q2 q4
    refine ⟨g, cap, u0, rfl, hnc, hg, by rw [hb.cell, hc0]; exact q2, hb.frozen _, q3, fun W hW hKW u bs hu => ⟨xs.set (k * 3 + 1) u, ⟨by simpa using h1, .inr ⟨g, cap, cur.setIfInBounds (k * 3 + 1) u, ?_, hg, ?_, ?_, hcm, ?_, ?_⟩⟩, fun j z hz => ?_⟩⟩
    · rw [List.length_set]
    · have hbW : Blk W g 35 cur := hW.symm.trans hb
      exact hbW.set_ _ _
    · rw [List.length_set]; exact hnc
    · simpa using hcs
    · rw [List.length_set, Array.toList_setIfInBounds, List.take_set, htk]
    · have hbW : Blk W g 35 cur := hW.symm.trans hb
      have hK : KeepsT 35 W (W.setCell ⟨g, k * 3 + 1, none⟩ u) := KeepsT.set (i := k * 3 + 1) hbW u rfl
      have hK2 : KeepsT 35 w (W.setCell ⟨g, k * 3 + 1, none⟩ u) := hKW.trans hK
      rw [List.getElem?_set] at hz
      split at hz
      · next e =>
        subst e
        cases hz
        refine ⟨?_, q1, ⟨u, ?_, hu.keepT hK (by decide)⟩, ?_, q5⟩
        · rw [List.getElem?_toArray, List.getElem?_set_ne (by omega)]; exact q0
        · rw [List.getElem?_toArray, List.getElem?_set_self (by omega)]
        · rw [List.getElem?_toArray, List.getElem?_set_ne (by omega)]; exact q4
      · next e =>
        obtain ⟨p0, p1, ⟨u1, p2, p3⟩, p4, p5⟩ := h3 j z hz
        rw [List.getElem?_toArray] at p0 p2 p4
        refine ⟨?_, p1, ⟨u1, ?_, p3.keepT hK2 (by decide)⟩, ?_, p5⟩
        · rw [List.getElem?_toArray, List.getElem?_set_ne (by omega)]; exact p0
        · rw [List.getElem?_toArray, List.getElem?_set_ne (by omega)]; exact p2
        · rw [List.getElem?_toArray, List.getElem?_set_ne (by omega)]; exact p4
theorem mend_set {other l : List Hd} {cs : List Ck} (h : CksOk cs) (hs : StoreOk l) {k : Nat} {c : Ck} (hc : cs[k]? = some c) (hm : mendAt other l c = true) {i : Nat} {x : Hd} (hx : l[i]? = some x) (hxi : x.id = c.id) :
    (mendL other l (cs.take k)).set i { x with bytes := bytesH other c.id } = mendL other l (cs.take (k + 1)) := by
  have hf : findH l c.id = some x := hxi ▸ hs.find hx
  have hcond : (!eqb (blkSum x.bytes) c.sum && goodC other c) = true := by
    unfold mendAt at hm
    rw [Bool.and_eq_true, Bool.and_eq_true] at hm
    have h1 := hm.2.1
    unfold goodC at h1
    rw [hf] at h1
    rw [hm.2.2, Bool.and_true]
    exact h1
  unfold mendL
  refine List.ext_getElem? fun j => ?_
  rw [List.getElem?_set, List.getElem?_map, List.getElem?_map, List.length_map]
  by_cases e : i = j
  · subst e
    rw [if_pos rfl, if_pos (lt_of_get hx), hx, Option.map_some, mdH_take h hc, if_pos hxi, if_pos hcond]
  · rw [if_neg e]
    cases hj : l[j]? with
    | none => rfl
    | some y =>
      have : y.id ≠ c.id := fun e2 => e (hs.inj hx hj (hxi.trans e2.symm))
      rw [Option.map_some, Option.map_some, mdH_take h hc, if_neg this]
theorem bytesH_ok {o : List Hd} (ho : StoreOk o) {c : Ck} (hg : goodC o c = true) : blockOk (bytesH o c.id) = true := by
  unfold goodC at hg
  unfold bytesH
  cases hf : findH o c.id with
  | none => rw [hf] at hg; cases hg
  | some y =>
    obtain ⟨h1, -⟩ := findH_some hf
    obtain ⟨j, hj⟩ := List.mem_iff_getElem?.1 h1
    exact (hd_ok (ho.2 j y hj).1).2.1
theorem mdH_block {o : List Hd} (ho : StoreOk o) (cs : List Ck) {x : Hd} (hx : blockOk x.bytes = true) : blockOk (mdH o cs x).bytes = true := by
  unfold mdH
  split
  · split
    · next hcond =>
      rw [Bool.and_eq_true] at hcond
      exact bytesH_ok ho hcond.2
    · exact hx
  · exact hx
theorem mend_blks {other l : List Hd} (hs : StoreOk l) (ho : StoreOk other) (cs : List Ck) : BlksOk (mendL other l cs) := by
  refine ⟨by rw [mend_len]; exact hs.1, fun k x hx => ?_⟩
  unfold mendL at hx
  rw [List.getElem?_map, Option.map_eq_some_iff] at hx
  obtain ⟨y, hy, rfl⟩ := hx
  exact mdH_block ho cs (hs.blks.2 k y hy)
/-- what the reference hands back -/
def MendS (w0 : World) (o : Option (List Hd × Nat)) (r : Value) (w' : World) : Prop :=
  ∃ v, r = .tuple #[v, .int .i64 ((o.map (·.2)).getD 0 : Nat), .bool o.isSome] ∧ Hds w0.heap.size w' v ((o.map (·.1)).getD [])
theorem mendS_none {w w1 : World} (e : Ext w w1) : MendS w none (.tuple #[.slice (some ⟨w1.heap.size, 0, none⟩) 0 0, .int .i64 0, .bool false]) (w1.alloc (.cells #[] 35)) :=
  ⟨_, rfl, SlOf.empty _ _ _ _ _ _ _ (by unfold maxLen; omega) (fun h => by cases h)⟩
set_option maxRecDepth 8000 in
set_option maxHeartbeats 8000000 in
theorem specMendFrom_c {B B1 B2 : Nat} {v vc vo : Value} {l : List Hd} {cs : List Ck} {ol : List Hd} (w : World) (h : Hds B w v l) (hc : Cks B1 w vc cs) (ho : Hds B2 w vo ol) : Calls TryG.prog 10 #[v, vc, vo] w (RetP (MendS w (mendOf l cs ol)) w) := by
  have H := Lib.hid h; have HC := Lib.hid hc; have HO := Lib.hid ho
  have C1 : ∀ W, Ext w W → Calls TryG.prog 35 #[v] W (Ret (.bool (storeOk l)) W) := fun W e => specStoreValid_c W (H.out.ext e)
  have C2 : ∀ W, Ext w W → Calls TryG.prog 35 #[vo] W (Ret (.bool (storeOk ol)) W) := fun W e => specStoreValid_c W (HO.out.ext e)
  have C3 : ∀ W, Ext w W → Calls TryG.prog 36 #[vc] W (Ret (.bool (cksOk cs)) W) := fun W e => l16Checks_c W (HC.out.ext e)
  clear h hc ho
  cases h1 : storeOk l with
  | false =>
    have Hr := Lib.hid (mend_no (l := l) (cs := cs) (o := ol) (by rw [h1]; rfl))
    simp only [h1] at C1
    clear h1 C2 C3
    go_enter TryG.func10, TryG.ntmps10
    go_wp2_with (go_at_call 35; refine (C1 _ (Ext.refl _)).mono ?_; rintro e w1 ⟨rfl, he1⟩)
    go_ret3
    exact ⟨_, rfl, by rw [Hr.out]; exact mendS_none he1, he1.alloc _⟩
  | true =>
  simp only [h1] at C1
  cases h2 : storeOk ol with
  | false =>
    have Hr := Lib.hid (mend_no (l := l) (cs := cs) (o := ol) (by rw [h2, Bool.false_and, Bool.and_false]))
    simp only [h2] at C2
    clear h1 h2 C3
    go_enter TryG.func10, TryG.ntmps10
    go_wp2_with (go_at_call 35; first | ((with_reducible show Calls _ _ #[v] _ _); refine (C1 _ (Ext.refl _)).mono ?_; rintro e w1 ⟨rfl, he1⟩) | ((with_reducible show Calls _ _ #[vo] _ _); refine (C2 _ he1).mono ?_; rintro e w2 ⟨rfl, he2⟩))
    go_ret3
    exact ⟨_, rfl, by rw [Hr.out]; exact mendS_none (he1.trans he2), (he1.trans he2).alloc _⟩
  | true =>
  simp only [h2] at C2
  cases h3 : cksOk cs with
  | false =>
    have Hr := Lib.hid (mend_no (l := l) (cs := cs) (o := ol) (by rw [h3, Bool.and_false, Bool.and_false]))
    simp only [h3] at C3
    clear h1 h2 h3
    go_enter TryG.func10, TryG.ntmps10
    go_wp2_with (first | (go_at_call 35; first | ((with_reducible show Calls _ _ #[v] _ _); refine (C1 _ (Ext.refl _)).mono ?_; rintro e w1 ⟨rfl, he1⟩) | ((with_reducible show Calls _ _ #[vo] _ _); refine (C2 _ he1).mono ?_; rintro e w2 ⟨rfl, he2⟩)) | (go_at_call 36; refine (C3 _ (he1.trans he2)).mono ?_; rintro e w3 ⟨rfl, he3⟩))
    go_ret3
    exact ⟨_, rfl, by rw [Hr.out]; exact mendS_none ((he1.trans he2).trans he3), ((he1.trans he2).trans he3).alloc _⟩
  | true =>
  simp only [h3] at C3
  have Hs := Lib.hid (storeOk_iff.1 h1); have Ho := Lib.hid (storeOk_iff.1 h2); have Hok := Lib.hid (cksOk_iff.1 h3)
  have H123 := Lib.hid (And.intro h1 (And.intro h2 h3))
  have h16 := Hok.out.1
  have hl16 := Hs.out.1
  have ho16 := Ho.out.1
  have Cc := fun W (e : Ext w W) => l3Copy_c W (H.out.ext e)
  clear h1 h2 h3
  go_enter TryG.func10, TryG.ntmps10
  go_wp2_with (first | (go_at_call 35; first | ((with_reducible show Calls _ _ #[v] _ _); refine (C1 _ (Ext.refl _)).mono ?_; rintro e w1 ⟨rfl, he1⟩) | ((with_reducible show Calls _ _ #[vo] _ _); refine (C2 _ he1).mono ?_; rintro e w2 ⟨rfl, he2⟩)) | (go_at_call 36; refine (C3 _ (he1.trans he2)).mono ?_; rintro e w3 ⟨rfl, he3⟩) | fail)
  refine (Cc _ ((he1.trans he2).trans he3)).mono ?_
  rintro e w4 ⟨v4, rfl, hO4, he4⟩
  have E3 := (he1.trans he2).trans he3
  have E4 := E3.trans he4
  have HO4 : Hid (OwnS w.heap.size 35 3 (EHd w.heap.size) w4 v4 l) := Lib.hid (by
    exact (hO4.weak (E3.size) fun _ _ _ g => g.keep E3.size (fun _ _ _ => rfl)))
  obtain ⟨Ac, cc, rfl, hAc⟩ := HC.out
  have HCs : Hid (∀ W, Ext w W → Cks B1 W (.slice Ac cs.length cc) cs) := Lib.hid fun W e => HC.out.ext e
  generalize hn : cs.length = n at *
  have Hn := Lib.hid hn; clear hn
  have HA := Lib.hid hAc; clear hAc
  clear C1 C2 C3 Cc hO4
  go_wp2
  go_loopw [10, 11] (fun q i wr => ∃ k : Nat, k ≤ n ∧ i = .int .i64 k ∧ q = .int .i64 (mendN ol l (cs.take k) : Nat) ∧ Ext w wr ∧ OwnS w.heap.size 35 3 (EHd w.heap.size) wr v4 (mendL ol l (cs.take k))) (fun _ i _ => n - (RowKit.intOf i).toNat)
  case atStart => exact ⟨0, by omega, rfl, rfl, E4, by rw [List.take_zero, mendL_nil]; exact HO4.out⟩
  case round =>
    obtain ⟨k, hk, rfl, rfl, he, hO⟩ := hrel
    by_cases hlt : k < n
    · obtain ⟨c, hx⟩ := get_of_lt (l := cs) (k := k) (by rw [Hn.out]; exact hlt)
      obtain ⟨bb, o, rfl, -, -, hki, hku, hc0, hc1⟩ := Cks.at_ HA.out hx
      have q0 := fun W (e : Ext wr W) => hc0 W (he.trans e)
      have q1 := fun W (e : Ext wr W) => hc1 W (he.trans e)
      have p0 := q0 wr (Ext.refl _)
      have Hx := Lib.hid hx
      have HOw := Lib.hid hO
      have hml := mend_len ol l (cs.take k)
      have HD : Hid (∀ W, Ext wr W → Hds w.heap.size W v4 (mendL ol l (cs.take k))) := Lib.hid fun W e => (HOw.out.ext (EHd_ok _) e).isHds (by rw [hml]; unfold lim; omega)
      have hnm : mendN ol l (cs.take k) ≤ k := by
        unfold mendN
        have := List.length_filter_le (mendAt ol l) (cs.take k)
        rw [List.length_take] at this
        omega
      have ew : IntKind.i64.wrap (((mendN ol l (cs.take k) : Nat) : Int) + 1) = ((mendN ol l (cs.take k) + 1 : Nat) : Int) := by rw [IntKind.wrap_i64]; omega
      have hat1 : hAt (mendL ol l (cs.take k)) c.id = hAt l c.id := hAt_map _ _ (mdH_id ol _) _
      have hgk := mend_good (other := ol) (l := l) Hok.out hx
      have Ca : ∀ W, Ext wr W → Calls TryG.prog 38 #[v4, .int .i64 c.id] W (Ret (.int .i64 (hAt l c.id)) W) := fun W e => by rw [← hat1]; exact l3At_c c.id W (HD.out W e)
      have Cg1 : ∀ W, Ext wr W → Calls TryG.prog 39 #[v4, .agg #[.int .i64 c.id, .int .i64 c.sum]] W (Ret (.bool (goodC l c)) W) := fun W e => by rw [← hgk]; exact l16Good_c c W (HD.out W e) (mend_blks Hs.out Ho.out _)
      have Cg2 : ∀ W, Ext wr W → Calls TryG.prog 39 #[vo, .agg #[.int .i64 c.id, .int .i64 c.sum]] W (Ret (.bool (goodC ol c)) W) := fun W e => l16Good_c c W (HO.out.ext (he.trans e)) Ho.out.blks
      generalize hmn : mendN ol l (cs.take k) = mn at *
      have Hmn := Lib.hid hmn
      clear hc0 hc1 hx hmn hO hat1 hgk
      rcases find_at (l := l) (p := c.id) with ⟨hf, hat⟩ | ⟨i, x, hxl, hxi, hf, hat⟩
      · have Hm : Hid (mendAt ol l c = false) := Lib.hid (by unfold mendAt; rw [hf]; rfl)
        simp only [hat] at Ca
        clear hf hat Cg1 Cg2
        go_wp2_with (go_at_call 38; refine (Ca _ (Ext.refl _)).mono ?_; rintro e w5 ⟨rfl, he5⟩)
        go_roundw
        case rel => exact ⟨k + 1, by omega, by go_num, by rw [mendN_skip Hx.out Hm.out, Hmn.out], he.trans he5, by rw [mend_skip Hok.out Hx.out Hs.out Hm.out]; exact HOw.out.ext (EHd_ok _) he5⟩
        case measure => simp [RowKit.intOf]; omega
      · simp only [hat] at Ca
        have Hxl := Lib.hid hxl; have Hxi := Lib.hid hxi; have Hf := Lib.hid hf
        have hil : i < l.length := lt_of_get hxl
        cases hg : goodC l c with
        | true =>
          have Hm : Hid (mendAt ol l c = false) := Lib.hid (by unfold mendAt; rw [hg]; simp)
          simp only [hg] at Cg1
          clear hf hat hg hxl hxi Cg2
          go_wp2_with (first | (go_at_call 38; refine (Ca _ (Ext.refl _)).mono ?_; rintro e w5 ⟨rfl, he5⟩) | (go_at_call 39; refine (Cg1 _ he5).mono ?_; rintro e w6 ⟨rfl, he6⟩; have e56 := he5.trans he6))
          go_roundw
          case rel => exact ⟨k + 1, by omega, by go_num, by rw [mendN_skip Hx.out Hm.out, Hmn.out], he.trans (he5.trans he6), by rw [mend_skip Hok.out Hx.out Hs.out Hm.out]; exact HOw.out.ext (EHd_ok _) (he5.trans he6)⟩
          case measure => simp [RowKit.intOf]; omega
        | false =>
        simp only [hg] at Cg1
        cases hg2 : goodC ol c with
        | false =>
          have Hm : Hid (mendAt ol l c = false) := Lib.hid (by unfold mendAt; rw [hg2]; simp)
          simp only [hg2] at Cg2
          clear hf hat hg hg2 hxl hxi
          go_wp2_with (first | (go_at_call 38; refine (Ca _ (Ext.refl _)).mono ?_; rintro e w5 ⟨rfl, he5⟩) | (go_at_call 39; first | ((with_reducible show Calls _ _ #[v4, _] _ _); refine (Cg1 _ he5).mono ?_; rintro e w6 ⟨rfl, he6⟩; have e56 := he5.trans he6) | ((with_reducible show Calls _ _ #[vo, _] _ _); refine (Cg2 _ (he5.trans he6)).mono ?_; rintro e w7 ⟨rfl, he7⟩)))
          go_roundw
          case rel => exact ⟨k + 1, by omega, by go_num, by rw [mendN_skip Hx.out Hm.out, Hmn.out], he.trans ((he5.trans he6).trans he7), by rw [mend_skip Hok.out Hx.out Hs.out Hm.out]; exact HOw.out.ext (EHd_ok _) ((he5.trans he6).trans he7)⟩
          case measure => simp [RowKit.intOf]; omega
        | true =>
          have Hm : Hid (mendAt ol l c = true) := Lib.hid (by unfold mendAt; rw [hf, hg, hg2]; rfl)
          simp only [hg2] at Cg2
          have hx1 : (mendL ol l (cs.take k))[i]? = some x := by
            unfold mendL
            rw [List.getElem?_map, hxl, Option.map_some, mdH_last Hok.out Hx.out hxi]
          obtain ⟨g, cap, u0, hv4, hcap, hgb, -⟩ := HOw.out.setBytes hx1
          rw [hml] at hv4 hcap
          subst hv4
          rcases find_at (l := ol) (p := c.id) with ⟨hfo, -⟩ | ⟨j, y, hyl, hyi, hfo, hato⟩
          · exfalso
            unfold goodC at hg2
            rw [hfo] at hg2
            cases hg2
          have Co : ∀ W, Ext wr W → Calls TryG.prog 38 #[vo, .int .i64 c.id] W (Ret (.int .i64 (j : Int)) W) := fun W e => by rw [← hato]; exact l3At_c c.id W (HO.out.ext (he.trans e))
          have Hby : Hid (bytesH ol c.id = y.bytes) := Lib.hid (by unfold bytesH; rw [hfo])
          have hjl : j < ol.length := lt_of_get hyl
          have hy8 := (block_len (Ho.out.blks.2 j y hyl)).2
          obtain ⟨Ao, co, rfl, hAo⟩ := HO.out
          obtain ⟨b2, o2, u2, rfl, -, -, -, hu2, -, -, hd1, -⟩ := Hds.at_ hAo hyl
          have HU2 : Hid (∀ W, Ext wr W → Ints B2 W u2 y.bytes) := Lib.hid fun W e => hu2.ext (he.trans e)
          obtain ⟨A2, c2, rfl, -⟩ := hu2
          have s1 := fun W (e : Ext wr W) => hd1 W (he.trans e)
          have Hx1 := Lib.hid hx1; have Hml := Lib.hid hml
          have hil' : (i : Int) < (l.length : Int) := by omega
          have hjl' : (j : Int) < (ol.length : Int) := by omega
          generalize l.length = nl at *
          generalize ol.length = no at *
          generalize hyb : y.bytes.length = ny at *
          have Hyb := Lib.hid hyb
          clear hf hat hg hg2 hxl hxi hx1 hml hfo hato hyl hyi hAo hd1 hyb
          go_wp2_with (first | (go_at_call 38; first | ((with_reducible show Calls _ _ #[.slice (some ⟨g, 0, none⟩) _ cap, _] _ _); refine (Ca _ (Ext.refl _)).mono ?_; rintro e w5 ⟨rfl, he5⟩) | (refine (Co _ (E7.alloc _)).mono ?_; rintro e w9 ⟨rfl, he9⟩; have E9 := (E7.alloc _).trans he9; have HO9 := Lib.hid ((OwnS.lit0 3 1 EInt w7 E7.size).ext eint_ok he9))) | (go_at_call 39; first | ((with_reducible show Calls _ _ #[.slice (some ⟨g, 0, none⟩) _ cap, _] _ _); refine (Cg1 _ he5).mono ?_; rintro e w6 ⟨rfl, he6⟩; have e56 := he5.trans he6) | (refine (Cg2 _ e56).mono ?_; rintro e w7 ⟨rfl, he7⟩; have E7 := e56.trans he7)) | (at_builtin; go_must (refine wp_apS (w0 := wr) (by rfl) _ _ (by rfl) el_int eint_ok E9 _ _ [] y.bytes (by rfl) HO9.out (by rfl) (HU2.out _ E9) ?_ ?_)))
          · rw [Hyb.out]; simp; unfold lim; omega
          · intro v' w' hO' he' hk'
            obtain ⟨g', cap', u0', hv', -, hgb', hc, hfz, -, hset⟩ := (HOw.out.ext (EHd_ok _) he').setBytes Hx1.out
            rw [Hml.out] at hv'
            simp only [Value.slice.injEq, Option.some.injEq, Addr.mk.injEq, and_true, true_and] at hv'
            obtain ⟨rfl, rfl⟩ := hv'
            obtain ⟨A', c', rfl⟩ := hO'.form
            have HI' : Ints w.heap.size w' (.slice A' ([] ++ y.bytes).length c') ([] ++ y.bytes) := SlOf.mono (hO'.sl eint_ok (Nat.le_refl _) (by simp [Hyb.out]; unfold lim; omega)) he.size (fun _ _ _ => rfl) fun _ _ _ h => h
            have HF := Lib.hid (hset w' rfl (fun _ _ _ _ h => h) _ _ HI')
            have he8 : Ext w (w'.setCell ⟨g, i * 3 + 1, none⟩ (.slice A' ([] ++ y.bytes).length c')) := (he.trans he').setCell (p := ⟨g, i * 3 + 1, none⟩) hgb _
            clear hO' hk' HI' hset hgb'
            go_wp2
            go_roundw
            case rel => exact ⟨k + 1, by omega, by go_num, by rw [mendN_more Hx.out Hm.out, Hmn.out]; simp, he8, by
              have e := mend_set Hok.out Hs.out Hx.out Hm.out Hxl.out Hxi.out
              rw [Hby.out] at e
              have := HF.out
              rw [List.nil_append, e] at this
              exact this⟩
            case measure => simp [RowKit.intOf]; omega
    · have hks : k = n := by omega
      subst hks
      have htk : cs.take k = cs := List.take_of_length_le (by rw [Hn.out]; exact Nat.le_refl _)
      rw [htk] at hO ⊢
      have hml := mend_len ol l cs
      have HD : Hid (∀ W, Ext wr W → Hds w.heap.size W v4 (mendL ol l cs)) := Lib.hid fun W e => (hO.ext (EHd_ok _) e).isHds (by rw [hml]; unfold lim; omega)
      have Cv := fun W (e : Ext wr W) => specStoreValid_c W (HD.out W e)
      clear hO htk hml
      cases hs9 : storeOk (mendL ol l cs) with
      | false =>
        simp only [hs9] at Cv
        have Hr : Hid (mendOf l cs ol = none) := Lib.hid (by unfold mendOf; rw [hs9, if_neg (by simp)])
        clear hs9
        go_wp2_with (go_at_call 35; refine (Cv _ (Ext.refl _)).mono ?_; rintro e w10 ⟨rfl, he10⟩)
        go_ret3
        exact ⟨_, rfl, by rw [Hr.out]; exact mendS_none (he.trans he10), (he.trans he10).alloc _⟩
      | true =>
        simp only [hs9] at Cv
        have Hr : Hid (mendOf l cs ol = some (mendL ol l cs, mendN ol l cs)) := Lib.hid (by unfold mendOf; rw [hs9, if_pos ⟨by rw [H123.out.1, H123.out.2.1, H123.out.2.2]; rfl, rfl⟩])
        clear hs9
        go_wp2_with (go_at_call 35; refine (Cv _ (Ext.refl _)).mono ?_; rintro e w10 ⟨rfl, he10⟩)
        go_ret3
        exact ⟨_, rfl, by rw [Hr.out]; exact ⟨_, rfl, HD.out _ he10⟩, he.trans he10⟩
end Go.Sf
