/- Paths are drawn; a tree and two paths are drawn. -/
import Derived.Test.YtpldhlpegpgmcaaDoorGG
namespace Go.Sf
open Go Go.RowKit Go.Proofs
/-- a drawn path: short, the reader one step or two further -/
def DrewS (rb : Nat) (w : World) (q : Int) (k : Int) (e : Ending) (w' : World) : Prop := ∃ s q', e = .returned (.string s) ∧ s.size < lim ∧ Rd rb w' q' ∧ q ≤ q' ∧ q' ≤ q + k ∧ ExtR rb w w'
set_option maxHeartbeats 1000000 in
theorem of_c {rb B : Nat} {w : World} {q : Int} {v : Value} {ps : List ByteArray} (h : Rd rb w q) (hq : q ≤ 100000000000) (hv : Strs B w v ps) (hne : 1 ≤ ps.length) (hl : ps.length ≤ 1000) :
    Calls Tryd.prog 30 #[.pointer (some ⟨rb, 0, none⟩), v] w (DrewS rb w q 1) := by
  have HR := Lib.hid h
  obtain ⟨A, c, rfl, hA⟩ := hv
  have HA : Hid (Strs B w (.slice A ps.length c) ps) := Lib.hid ⟨_, _, rfl, hA⟩
  have hex : ∃ n, ps.length = n := ⟨_, rfl⟩
  obtain ⟨n, hn⟩ := hex
  rw [hn] at hne hl ⊢
  have Hn := Lib.hid hn
  clear h hA hn
  go_enter Tryd.func30, Tryd.ntmps30
  go_wp2_with fail
  refine (pick_c (n : Int) HR.out (by omega) (by omega)).mono ?_
  rintro e w1 ⟨x, rfl, hx0, hxn, -, hR1, he1⟩
  have hxn := hxn (by omega)
  obtain ⟨k, rfl⟩ : ∃ k : Nat, x = (k : Int) := ⟨x.toNat, by omega⟩
  have hk : k < n := by omega
  obtain ⟨A1, c1, hv1, hA1⟩ := HA.out.keepT (HR.out.keepsT he1) (by decide)
  rw [Hn.out] at hv1
  injection hv1 with e1 _ e2
  subst e1; subst e2
  obtain ⟨s, hs⟩ := get_of_lt (l := ps) (k := k) (by rw [Hn.out]; exact hk)
  obtain ⟨b, o, rfl, -, -, hps, hc0⟩ := Strs.at_ hA1 hs
  have a0 := hc0 w1 (Ext.refl _)
  have HR1 := Lib.hid hR1
  clear hA1 hc0 hs hR1
  go_wp2
  go_ret
  exact ⟨s, q + 1, rfl, hps, HR1.out, by omega, by omega, he1⟩
theorem strs_lit {w : World} {ss : List ByteArray} (hs : ∀ s, s ∈ ss → s.size < lim) (hl : ss.length ≤ lim) : Strs w.heap.size (w.alloc (.cells (ss.map Value.string).toArray 9)) (.slice (some ⟨w.heap.size, 0, none⟩) ss.length ss.length) ss :=
  ⟨some ⟨w.heap.size, 0, none⟩, ss.length, rfl, Nat.le_refl _, ⟨by unfold lim at hl; unfold maxLen; omega, fun h => by cases h⟩, hl, fun k x hx => ⟨w.heap.size, 0, _, rfl, Nat.le_refl _, Blk.new w 9 _, by
    rw [Nat.zero_add, Nat.mul_one, List.getElem?_toArray, List.getElem?_map, hx]; rfl, hs x (List.mem_of_getElem? hx)⟩⟩
set_option maxHeartbeats 1000000 in
theorem l91Path_c {rb : Nat} {w : World} {q : Int} (h : Rd rb w q) (hq : q ≤ 10000000000) (_hrb : rb < w.heap.size) : Calls Tryd.prog 32 #[.pointer (some ⟨rb, 0, none⟩)] w (DrewS rb w q 2) := by
  have HR := Lib.hid h
  clear h
  go_enter Tryd.func32, Tryd.ntmps32
  go_wp2_with fail
  refine (pick_c 30 HR.out (by omega) (by omega)).mono ?_
  rintro e w1 ⟨x, rfl, hx0, hxn, -, hR1, he1⟩
  have HR1 := Lib.hid hR1
  have hr1 : rb < w1.heap.size := hR1.lt
  clear hR1 hxn
  by_cases hx : x = 0
  · subst hx
    go_wp2_with fail
    refine (of_c (HR1.out.ext ((Ext.refl _).alloc _)) (by omega) (strs_lit (w := w1) (ss := [⟨#[]⟩, ⟨#[97, 47, 47, 98]⟩, ⟨#[47, 97]⟩, ⟨#[97, 47]⟩, ⟨#[65]⟩, ⟨#[97, 98, 99, 100, 101, 102]⟩, ⟨#[97, 47, 98, 47, 99, 47, 100, 47, 101]⟩, ⟨#[97, 47, 98, 47, 99, 47, 100]⟩]) (by decide) (by decide)) (by decide) (by decide)).mono ?_
    rintro e w2 ⟨s, q', rfl, hs, hR2, hq1, hq2, he2⟩
    have HR2 := Lib.hid hR2
    clear hR2
    go_wp2
    go_ret
    exact ⟨s, q', rfl, hs, HR2.out, by omega, by omega, (he1.extend ((Ext.refl _).alloc _)).trans he2⟩
  · go_wp2_with fail
    refine (of_c (HR1.out.ext ((Ext.refl _).alloc _)) (by omega) (strs_lit (w := w1) (ss := [⟨#[97]⟩, ⟨#[98]⟩, ⟨#[97, 47, 120]⟩, ⟨#[97, 47, 121]⟩, ⟨#[98, 47, 120]⟩, ⟨#[97, 47, 120, 47, 112]⟩, ⟨#[99]⟩, ⟨#[97, 47, 120, 47, 113]⟩]) (by decide) (by decide)) (by decide) (by decide)).mono ?_
    rintro e w2 ⟨s, q', rfl, hs, hR2, hq1, hq2, he2⟩
    have HR2 := Lib.hid hR2
    clear hR2
    go_wp2
    go_ret
    exact ⟨s, q', rfl, hs, HR2.out, by omega, by omega, (he1.extend ((Ext.refl _).alloc _)).trans he2⟩
end Go.Sf
