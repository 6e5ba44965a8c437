/- The marks that the exact laws write: their texts. -/
import Derived.Test.YtbdgpbakhjpklaaGreatDoorX1
import Derived.Lib.SlBytesRow

namespace Go.Sf
open Go Go.RowKit Go.Proofs
def decs : Nat → Nat → ByteArray → ByteArray
  | 0, _, s => s
  | f + 1, n, s => if n = 0 then s else decs f (n / 10) ((⟨#[UInt8.ofNat (48 + n % 10)]⟩ : ByteArray) ++ s)
/-- the text of a mark -/
def mt (k : Int) : ByteArray := if k ≤ 0 then ⟨#[109, 48]⟩ else (⟨#[109]⟩ : ByteArray) ++ decs 20 k.toNat ⟨#[]⟩
theorem decs_size : ∀ (f n : Nat) (s : ByteArray), (decs f n s).size ≤ s.size + f := by
  intro f
  induction f with
  | zero => intro n s; exact Nat.le_refl _
  | succ f ih =>
    intro n s
    rw [decs]
    split
    · omega
    · refine Nat.le_trans (ih _ _) ?_
      simp only [ByteArray.size_append]
      show 1 + s.size + f ≤ _
      omega
theorem mt_size (k : Int) : (mt k).size < lim := by
  unfold mt lim
  split
  · show 2 < _; omega
  · have := decs_size 20 k.toNat ⟨#[]⟩
    simp only [ByteArray.size_append]
    show 1 + _ < _
    have h0 : (⟨#[]⟩ : ByteArray).size = 0 := rfl
    omega
theorem decs_zero (f : Nat) (t : ByteArray) : decs f 0 t = t := by cases f <;> rfl
theorem byte_text (d : Nat) (hd : d < 10) (W : World) : (convert 22 9 (.slice (some ⟨W.heap.size, 0, none⟩) 1 1)).run Tryz.prog (W.alloc (.cells #[.int .u8 (48 + (d : Int))] 5)) = .ok (.string ⟨#[UInt8.ofNat (48 + d)]⟩) (W.alloc (.cells #[.int .u8 (48 + (d : Int))] 5)) := by
  refine Lib.run_convert_whole (P := Tryz.prog) _ 22 5 9 Tryz.underlying22 Tryz.underlying5 Tryz.underlying9 W.heap.size 0 ⟨#[UInt8.ofNat (48 + d)]⟩ ?_ 1
  intro i hi
  have h0 : i = 0 := by
    have : (⟨#[UInt8.ofNat (48 + d)]⟩ : ByteArray).size = 1 := rfl
    omega
  subst h0
  rw [Nat.zero_add, (Blk.new W _ _).cell]
  show some (Value.int .u8 (48 + (d : Int))) = some (.int .u8 ((UInt8.ofNat (48 + d)).toNat : Int))
  rw [UInt8.toNat_ofNat']
  congr 2
  omega
set_option maxRecDepth 4000 in
set_option maxHeartbeats 1000000 in
theorem markText_c (k : Int) (w : World) (h1 : 1 ≤ k) (h2 : k ≤ 4611686018427387904) : Calls Tryz.prog 61 #[.int .i64 k] w (Ret (.string (mt k)) w) := by
  have h0 : ¬ k ≤ 0 := by omega
  have Hm : Hid (mt k = (⟨#[109]⟩ : ByteArray) ++ decs 20 k.toNat ⟨#[]⟩) := Lib.hid (if_neg h0)
  go_enter Tryz.func61, Tryz.ntmps61
  go_wp2
  go_loopw [0, 3] (fun a s wr => ∃ (m f : Nat) (t : ByteArray), a = .int .i64 m ∧ s = .string t ∧ m ≤ 4611686018427387904 ∧ t.size + f ≤ 20 ∧ Ext w wr ∧ Hid (m < 10 ^ f ∧ decs f m t = decs 20 k.toNat ⟨#[]⟩)) (fun a _ _ => (intOf a).toNat)
  case atStart => exact ⟨k.toNat, 20, ⟨#[]⟩, by congr 1; omega, rfl, by omega, by decide, Ext.refl w, Lib.hid ⟨by rw [show (10:Nat) ^ 20 = 100000000000000000000 by decide]; omega, rfl⟩⟩
  case round =>
    obtain ⟨m, f, t, rfl, rfl, hm, hsz, he, hD⟩ := hrel
    by_cases hp : m = 0
    · subst hp
      go_wp2
      go_ret
      have hv : Value.string ((⟨#[109]⟩ : ByteArray) ++ t) = .string (mt k) := by rw [Hm.out, ← hD.out.2, decs_zero]
      exact ⟨ret_v hv, he⟩
    · have hcv := byte_text (m % 10) (by omega)
      have em : ((m % 10 : Nat) : Int) = (m : Int) % 10 := by omega
      simp only [em] at hcv
      have hf : ∃ f', f = f' + 1 := by
        cases f with
        | zero => have := hD.out.1; simp at this; omega
        | succ f' => exact ⟨f', rfl⟩
      obtain ⟨f', rfl⟩ := hf
      have hst : Hid (m / 10 < 10 ^ f' ∧ decs f' (m / 10) ((⟨#[UInt8.ofNat (48 + m % 10)]⟩ : ByteArray) ++ t) = decs 20 k.toNat ⟨#[]⟩) := Lib.hid ⟨by
        have := hD.out.1
        rw [Nat.pow_succ] at this
        omega, by rw [← hD.out.2, decs, if_neg hp]⟩
      clear hD em
      have hbb : ∃ bb, UInt8.ofNat (48 + m % 10) = bb := ⟨_, rfl⟩
      obtain ⟨bb, hbb⟩ := hbb
      simp only [hbb] at hcv hst
      clear hbb
      have hz1 : (⟨#[bb]⟩ : ByteArray).size = 1 := rfl
      go_wp2
      go_roundw
      case rel => exact ⟨m / 10, f', _, by go_num, rfl, by omega, by rw [ByteArray.size_append, hz1]; omega, he.alloc _, hst⟩
      case measure => simp [intOf]; omega
end Go.Sf
