/- The reader is opened. -/
import Derived.Test.YtfpkllihfcgmaaaDoorT22
import Derived.Test.YtfpkllihfcgmaaaDoorW10
namespace Go.Sf
open Go Go.RowKit Go.Proofs
def OpenR (w : World) (e : Ending) (w' : World) : Prop := ∃ rb, e = .returned (.pointer (some ⟨rb, 0, none⟩)) ∧ w.heap.size ≤ rb ∧ rb < w'.heap.size ∧ Rd rb w' 0 ∧ Ext w w'
set_option maxHeartbeats 1000000 in
theorem l6Open_c {v : Value} {xs : List Int} (w : World) (h : Bys w v xs) : Calls Tryd.prog 24 #[v] w (OpenR w) := by
  obtain ⟨A, c, rfl, hA⟩ := h
  have hl := hA.2.2.1
  have hc := hA.1
  have hcm := hA.2.1.1
  unfold lim at hl
  unfold maxLen at hcm
  have HA := Lib.hid hA; clear hA
  have fin : Hid (∀ (n : Nat) (ys : List Int), ys.length = n → n ≤ 2000 → UIn w.heap.size w A c ys → Rd w.heap.size (w.alloc (.cells #[.slice A n c, .int .i64 0] 79)) 0) := Lib.hid fun n ys hn h2 hs =>
    ⟨A, n, c, ys, Blk.new _ _ _, hs.low (fun b hb => ((Ext.refl w).alloc _).block hb), hn, h2, Int.le_refl _⟩
  by_cases h2 : xs.length ≤ 2000
  · have h2i : ¬ (2000 : Int) < (xs.length : Int) := by omega
    have hf := fin.out _ xs rfl h2 HA.out
    have Hf := Lib.hid hf; clear hf fin
    go_enter Tryd.func24, Tryd.ntmps24
    go_wp2
    go_ret
    exact ⟨_, rfl, Nat.le_refl _, by simp, Hf.out, (Ext.refl w).alloc _⟩
  · have h2i : (2000 : Int) < (xs.length : Int) := by omega
    have h2000 : 2000 ≤ c := by omega
    have hf := fin.out 2000 (xs.take 2000) (by simp; omega) (by omega) (by
      refine ⟨by simp; omega, HA.out.2.1, by simp; unfold lim; omega, fun k x hx => HA.out.2.2.2 k x ?_⟩
      rw [List.getElem?_take] at hx; split at hx
      · exact hx
      · cases hx)
    have Hf := Lib.hid hf; clear hf fin
    go_enter Tryd.func24, Tryd.ntmps24
    go_wp2
    go_ret
    exact ⟨_, rfl, Nat.le_refl _, by simp, Hf.out, (Ext.refl w).alloc _⟩
end Go.Sf
