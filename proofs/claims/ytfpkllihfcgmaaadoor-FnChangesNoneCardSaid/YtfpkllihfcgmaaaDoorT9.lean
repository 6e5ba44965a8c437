/- The program's functions on paths that cut them. -/
import Derived.Test.YtfpkllihfcgmaaaDoorT8
import Derived.Test.YtfpkllihfcgmaaaDoorT4
import Derived.Test.YtfpkllihfcgmaaaDoorP6
import Derived.Test.YtfpkllihfcgmaaaDoorShelf
namespace Go.Sf
open Go Go.RowKit Go.Proofs
/-- the library's own variable holds some int -/
def ML (w : World) : Prop := ∃ m : Int, w.cell? ⟨0, 0, none⟩ = some (.int .i64 m)
theorem ML.ext {w w' : World} (h : ML w) (e : Ext w w') : ML w' := let ⟨m, hm⟩ := h; ⟨m, e.cell hm⟩
def partsL (s : ByteArray) : List (List UInt8) := if pathOk s = true then cut (bl s) else []
/-- the parts as a slice of strings -/
def PartsV (B : Nat) (s : ByteArray) (v : Value) (w : World) : Prop := ∃ ps : List ByteArray, ps.map bl = partsL s ∧ Strs B w v ps
theorem partsL_bad {s : ByteArray} (h : pathOk s = false) : partsL s = [] := by simp [partsL, h]
theorem PartsV.none_ {B : Nat} {s : ByteArray} {w : World} (h : pathOk s = false) : PartsV B s (.slice none 0 0) w := ⟨[], (partsL_bad h).symm, SlOf.nil _ _ _ _ _⟩
theorem cut_total : ∀ (l cur : List UInt8) (n : Nat), (∀ p, p ∈ cutG cur l → p.length ≤ n) → cur.length + l.length + 1 ≤ (cutG cur l).length * (n + 1) := by
  intro l
  induction l with
  | nil => intro cur n h; have := h cur (by simp [cutG]); simp [cutG]; omega
  | cons c cs ih =>
    intro cur n h
    unfold cutG at h ⊢
    split
    · next hc =>
      rw [if_pos hc] at h
      have h1 := h cur (by simp)
      have := ih [] n (fun p hp => h p (by simp [hp]))
      simp only [List.length_cons, List.length_nil] at this ⊢
      rw [Nat.add_mul]; omega
    · next hc =>
      rw [if_neg hc] at h
      have := ih (cur ++ [c]) n h
      simp only [List.length_append, List.length_cons, List.length_nil] at this ⊢
      omega
theorem pathOk_len {s : ByteArray} (h : pathOk s = true) : s.size ≤ 23 := by
  simp only [pathOk, pathOkL, Bool.and_eq_true, decide_eq_true_eq, List.all_eq_true] at h
  have := cut_total (bl s) [] 5 (fun p hp => by have := h.1 p hp; simp [wordOk] at this; omega)
  change _ ≤ (cut (bl s)).length * 6 at this
  rw [bl_length] at this
  simp at this; omega
theorem slashB_eq : slashB = ⟨#[47]⟩ := rfl
set_option maxHeartbeats 1000000 in
theorem parts_c (s : ByteArray) (w : World) (hs : s.size < lim) (hm : ML w) : Calls Tryd.prog 77 #[.string s] w (RetP (PartsV w.heap.size s) w) := by
  unfold lim at hs
  by_cases h23 : s.size ≤ 23
  · obtain ⟨m, hm⟩ := hm
    have HM := Lib.hid hm; clear hm
    have hsp := splitB_cut s
    have hlen := congrArg List.length hsp
    rw [List.length_map, Lib.splitB_all slashB (by decide) 0 _ s rfl] at hlen
    have hcl := cutG_length (bl s) []
    rw [bl_length] at hcl
    change (cut (bl s)).length ≤ _ at hcl
    have Hsp := Lib.hid hsp; clear hsp
    generalize hn : Lib.countB s slashB + 1 = n at *
    generalize hps : Lib.splitB slashB 0 (Lib.countB s slashB) s = ps at *
    have hc : ∀ W, Ext w W → Calls Tryd.prog 80 #[.string s, .string ⟨#[47]⟩] W fun e w' => e = .returned (.slice (some ⟨W.heap.size, 0, none⟩) n n) ∧ w' = W.alloc (.cells (ps.map Value.string).toArray 9) := fun W e => by
      have := Tryd.strings_Split s slashB _ W (by omega) (e.cell HM.out) (by decide)
      rw [hn, hps] at this; exact this
    have Hps := Lib.hid hps; clear hps
    have Hn := Lib.hid hn; clear hn
    have Hlen := Lib.hid hlen
    have hn24 : n ≤ 24 := by omega
    clear hlen hcl
    go_enter Tryd.func77, Tryd.ntmps77
    go_wp2_with (go_at_call 80; refine (hc _ (Ext.refl _)).mono ?_; rintro e w1 ⟨rfl, rfl⟩)
    · have h4 : (4 : Int) < (n : Int) := by assumption
      go_ret
      refine ⟨_, rfl, PartsV.none_ ?_, (Ext.refl w).alloc _⟩
      have := Hlen.out
      have h5 : ¬ (cut (bl s)).length ≤ 4 := by omega
      simp [pathOk, pathOkL, h5]
    · have h4' : (n : Int) ≤ 4 := by assumption
      have h4 : n ≤ 4 := by omega
      have he1 : Ext w (w.alloc (.cells (ps.map Value.string).toArray 9)) := (Ext.refl w).alloc _
      have hlp : ps.length = n := by have := congrArg List.length Hsp.out; rw [List.length_map] at this; rw [this, ← Hlen.out]
      have hA : SlIn w.heap.size 9 1 EStr (w.alloc (.cells (ps.map Value.string).toArray 9)) (some ⟨w.heap.size, 0, none⟩) n ps := by
        refine ⟨by omega, ⟨by unfold maxLen; omega, fun h => by cases h⟩, by unfold lim; omega, fun k x hk => ⟨w.heap.size, 0, _, rfl, Nat.le_refl _, Blk.new _ _ _, ?_, ?_⟩⟩
        · simp [hk]
        · have hx : bl x ∈ cut (bl s) := by rw [← Hsp.out]; exact List.mem_map.2 ⟨x, List.mem_of_getElem? hk, rfl⟩
          have := cutG_len (bl s) [] _ hx
          rw [bl_length, bl_length] at this
          simp at this; unfold lim; omega
      generalize w.alloc (.cells (ps.map Value.string).toArray 9) = w1 at *
      have HA := Lib.hid hA
      have Hst : Hid (Strs w.heap.size w1 (.slice (some ⟨w.heap.size, 0, none⟩) n n) ps) := Lib.hid ⟨_, n, by rw [hlp], hA⟩
      have Hlp := Lib.hid hlp
      clear hA hlp
      go_loopw [16] (fun i wr => ∃ k : Nat, k ≤ n ∧ i = .int .i64 k ∧ Ext w1 wr ∧ Hid (∀ j p, j < k → ps[j]? = some p → wordOk (bl p) = true)) (fun i _ => n - (intOf i).toNat)
      case atStart => exact ⟨0, by omega, rfl, Ext.refl _, Lib.hid (fun j p h => absurd h (by omega))⟩
      case round =>
        obtain ⟨k, hk, rfl, he, hall⟩ := hrel
        by_cases hlt : k < n
        · obtain ⟨x, hx⟩ := get_of_lt (l := ps) (k := k) (by rw [Hlp.out]; exact hlt)
          obtain ⟨b, o, hbo, -, -, hxs, hcc⟩ := Strs.at_ HA.out hx
          simp only [Option.some.injEq, Addr.mk.injEq, and_true] at hbo
          obtain ⟨rfl, rfl⟩ := hbo
          have ha : ∀ W, Ext wr W → W.cell? ⟨w.heap.size, k, none⟩ = some (.string x) := fun W h => by have := hcc W (he.trans h); rwa [Nat.zero_add] at this
          have Hx := Lib.hid hx
          clear hcc hx
          go_wp2_with (go_at_call 81; refine (partValid_c _ _ hxs).mono ?_; rintro e w2 ⟨rfl, he2⟩)
          · have hw : wordOk (bl x) = false := not_true_of (by assumption)
            go_ret
            refine ⟨_, rfl, PartsV.none_ ?_, he1.trans (he.trans he2)⟩
            have : (cut (bl s)).all wordOk = false := by
              rw [← Hsp.out, List.all_eq_false]
              exact ⟨bl x, List.mem_map.2 ⟨x, List.mem_of_getElem? Hx.out, rfl⟩, by simp [hw]⟩
            simp [pathOk, pathOkL, this]
          · have hw : wordOk (bl x) = true := not_false_of (by assumption)
            have Hw := Lib.hid hw
            go_roundw
            case rel =>
              refine ⟨k + 1, by omega, by go_num, he.trans he2, Lib.hid fun j p hj hp => ?_⟩
              rcases Nat.lt_or_ge j k with h | h
              · exact hall.out j p h hp
              · have : j = k := by omega
                subst this
                rw [Hx.out] at hp
                rw [← Option.some.inj hp]; exact Hw.out
            case measure => simp [intOf]; omega
        · have hks : k = n := by omega
          subst hks
          go_wp2
          go_ret
          refine ⟨_, rfl, ⟨ps, ?_, Hst.out.ext he⟩, he1.trans he⟩
          have h1 : (cut (bl s)).all wordOk = true := by
            rw [← Hsp.out, List.all_eq_true]
            intro q hq
            obtain ⟨p, hp, rfl⟩ := List.mem_map.1 hq
            obtain ⟨j, hj⟩ := List.mem_iff_getElem?.1 hp
            exact hall.out j p (by rw [← Hlp.out]; exact lt_of_get hj) hj
          have h2 : (cut (bl s)).length ≤ 4 := by rw [← Hlen.out]; exact h4
          rw [Hsp.out]
          simp [partsL, pathOk, pathOkL, h1, h2]
  · have hf : pathOk s = false := by
      cases hp : pathOk s with
      | false => rfl
      | true => exact absurd (pathOk_len hp) h23
    have Hf := Lib.hid hf
    have h23' : 23 < s.size := by omega
    clear hf h23
    go_enter Tryd.func77, Tryd.ntmps77
    go_wp2
    go_ret
    exact ⟨_, rfl, PartsV.none_ Hf.out, Ext.refl w⟩
theorem partsL_len {s : ByteArray} {n : Nat} (h : (partsL s).length = n) : decide (0 < n) = pathOk s := by
  subst h
  cases hp : pathOk s with
  | false => rw [partsL_bad hp]; rfl
  | true =>
    have : (partsL s).length ≠ 0 := by
      rw [partsL, if_pos hp]; intro e; exact cutG_ne _ _ (List.length_eq_zero_iff.1 e)
    rw [decide_eq_true_iff]; omega
set_option maxHeartbeats 1000000 in
theorem valid_c (s : ByteArray) (w : World) (hs : s.size < lim) (hm : ML w) : Calls Tryd.prog 68 #[.string s] w (Ret (.bool (pathOk s)) w) := by
  go_enter Tryd.func68, Tryd.ntmps68
  go_wp2_with (go_at_call 77; refine (parts_c s _ hs hm).mono ?_; rintro e w1 ⟨v, rfl, ⟨ps, hps, A, c, rfl, hA⟩, he1⟩; have Hps := Lib.hid hps; clear hps)
  go_ret
  refine ⟨ret_b (partsL_len ?_), he1⟩
  rw [← Hps.out, List.length_map]
set_option maxHeartbeats 1000000 in
theorem PathValid_c (s : ByteArray) (w : World) (hs : s.size < lim) (hm : ML w) : Calls Tryd.prog 59 #[.string s] w (Ret (.bool (pathOk s)) w) := by
  go_enter Tryd.func59, Tryd.ntmps59
  go_wp2_with (go_at_call 68; refine (valid_c s _ hs hm).mono ?_; rintro e w1 ⟨rfl, he1⟩)
  go_ret
  exact ⟨rfl, he1⟩
set_option maxHeartbeats 1000000 in
theorem PathParts_c (s : ByteArray) (w : World) (hs : s.size < lim) (hm : ML w) : Calls Tryd.prog 67 #[.string s] w (RetP (PartsV w.heap.size s) w) := by
  go_enter Tryd.func67, Tryd.ntmps67
  go_wp2_with (go_at_call 77; refine (parts_c s _ hs hm).mono ?_; rintro e w1 ⟨v, rfl, hp, he1⟩)
  go_ret
  exact ⟨_, rfl, hp, he1⟩
end Go.Sf
