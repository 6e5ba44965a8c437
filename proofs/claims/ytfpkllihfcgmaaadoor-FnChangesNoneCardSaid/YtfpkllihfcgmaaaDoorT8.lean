/- The program's functions on paths. -/
import Derived.Test.YtfpkllihfcgmaaaDoorT3
namespace Go.Sf
open Go Go.RowKit Go.Proofs
set_option maxHeartbeats 1000000 in
theorem partValid_c (s : ByteArray) (w : World) (hs : s.size < lim) : Calls Tryd.prog 81 #[.string s] w (Ret (.bool (wordOk (bl s))) w) := by
  unfold lim at hs
  by_cases hlen : 1 ≤ s.size ∧ s.size ≤ 5
  · obtain ⟨h1, h5⟩ := hlen
    go_enter Tryd.func81, Tryd.ntmps81
    go_wp2
    go_loopw [3] (fun i wr => ∃ k : Nat, k ≤ s.size ∧ i = .int .i64 k ∧ Ext w wr ∧ Hid (((bl s).take k).all low = true)) (fun i _ => s.size - (intOf i).toNat)
    case atStart => exact ⟨0, by omega, rfl, Ext.refl w, by simp [Hid]⟩
    case round =>
      obtain ⟨k, hk, rfl, he, hall⟩ := hrel
      by_cases hlt : k < s.size
      · have hget := Lib.hid (bl_get s hlt)
        generalize hc : s[k] = c at *
        have Hc := Lib.hid hc
        by_cases g1 : (97 : Int) ≤ (c.toNat : Int)
        · by_cases g2 : (c.toNat : Int) ≤ 122
          · go_wp2_with fail
            go_roundw
            case rel =>
              refine ⟨k + 1, by omega, by go_num, he, ?_⟩
              show _ = true
              rw [List.take_add_one, hget.out]
              have := hall.out
              simp [this, low]; omega
            case measure => simp [intOf]; omega
          · go_wp2_with fail
            go_ret
            refine ⟨ret_b ?_, he⟩
            have : (bl s).all low = false := by
              rw [List.all_eq_false]
              exact ⟨c, List.mem_of_getElem? hget.out, by simp [low]; omega⟩
            simp [wordOk, this]
        · go_wp2_with fail
          go_ret
          refine ⟨ret_b ?_, he⟩
          have : (bl s).all low = false := by
            rw [List.all_eq_false]
            exact ⟨c, List.mem_of_getElem? hget.out, by simp [low]; omega⟩
          simp [wordOk, this]
      · have hks : k = s.size := by omega
        subst hks
        go_wp2
        go_ret
        refine ⟨ret_b ?_, he⟩
        have := hall.out
        rw [List.take_of_length_le (by rw [bl_length]; omega)] at this
        simp [wordOk, this, bl_length, h1, h5]
  · have hf : wordOk (bl s) = false := by
      simp only [wordOk, bl_length]
      by_cases h1 : 1 ≤ s.size
      · have : ¬ s.size ≤ 5 := fun h => hlen ⟨h1, h⟩
        simp [this]
      · simp [h1]
    have Hf := Lib.hid hf; clear hf
    by_cases h1 : 1 ≤ s.size
    · have h5 : 5 < s.size := by omega
      clear hlen
      go_enter Tryd.func81, Tryd.ntmps81
      go_wp2
      go_ret
      exact ⟨ret_b Hf.out.symm, Ext.refl w⟩
    · have h0 : s.size < 1 := by omega
      clear hlen h1
      go_enter Tryd.func81, Tryd.ntmps81
      go_wp2
      go_ret
      exact ⟨ret_b Hf.out.symm, Ext.refl w⟩
end Go.Sf
