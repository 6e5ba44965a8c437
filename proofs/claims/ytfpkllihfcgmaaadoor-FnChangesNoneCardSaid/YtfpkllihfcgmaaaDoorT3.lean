/- The reference's functions on paths compute the plain ones. -/
import Derived.Test.YtfpkllihfcgmaaaDoorI0
import Derived.Test.YtfpkllihfcgmaaaDoorP0
namespace Go.Sf
open Go Go.RowKit Go.Proofs
theorem ret_b {a b : Bool} (h : a = b) : Ending.returned (.bool a) = .returned (.bool b) := by rw [h]
theorem ret_i {k : IntKind} {a b : Int} (h : a = b) : Ending.returned (.int k a) = .returned (.int k b) := by rw [h]
theorem ret_s {a b : ByteArray} (h : a = b) : Ending.returned (.string a) = .returned (.string b) := by rw [h]
set_option maxHeartbeats 400000 in
theorem l6In_c (n lo hi : Int) (w : World) : Calls Tryd.prog 64 #[.int .i64 n, .int .i64 lo, .int .i64 hi] w (Ret (.bool (inB n lo hi)) w) := by
  go_enter Tryd.func64, Tryd.ntmps64
  go_wp2
  · have h : lo ≤ n := by assumption
    go_ret
    exact ⟨ret_b (by simp [inB, h]), Ext.refl w⟩
  · have h : n < lo := by assumption
    go_ret
    exact ⟨ret_b (by simp [inB]; omega), Ext.refl w⟩
set_option maxHeartbeats 400000 in
theorem l1Word_c (s : ByteArray) (w : World) (hs : s.size < lim) : Calls Tryd.prog 75 #[.string s] w (Ret (.bool (wordOk (bl s))) w) := by
  unfold lim at hs
  go_enter Tryd.func75, Tryd.ntmps75
  go_wp2
  go_loopw [3] (fun i wr => ∃ k : Nat, k ≤ s.size ∧ i = .int .i64 k ∧ Ext w wr ∧ Hid (((bl s).take k).all low = true)) (fun i _ => s.size - (intOf i).toNat)
  case atStart => exact ⟨0, by omega, rfl, Ext.refl w, by simp [Hid]⟩
  case round =>
    obtain ⟨k, hk, rfl, he, hall⟩ := hrel
    by_cases hlt : k < s.size
    · have hget := Lib.hid (bl_get s hlt)
      generalize hc : s[k] = c at *
      have Hc := Lib.hid hc
      by_cases h1 : (97 : Int) ≤ (c.toNat : Int)
      · by_cases h2 : (c.toNat : Int) ≤ 122
        · go_wp2_with fail
          go_roundw
          case rel =>
            refine ⟨k + 1, by omega, by go_num, he, ?_⟩
            show _ = true
            rw [List.take_add_one, hget.out]
            have := hall.out
            simp [this, low]; omega
          case measure => simp [intOf]; omega
        · go_wp2_with fail
          go_ret
          refine ⟨ret_b ?_, he⟩
          have : (bl s).all low = false := by
            rw [List.all_eq_false]
            exact ⟨c, List.mem_of_getElem? hget.out, by simp [low]; omega⟩
          simp [wordOk, this]
      · go_wp2_with fail
        go_ret
        refine ⟨ret_b ?_, he⟩
        have : (bl s).all low = false := by
          rw [List.all_eq_false]
          exact ⟨c, List.mem_of_getElem? hget.out, by simp [low]; omega⟩
        simp [wordOk, this]
    · have hks : k = s.size := by omega
      subst hks
      go_wp2_with (go_at_call 64; refine (l6In_c _ _ _ _).mono ?_; rintro e w' ⟨rfl, he'⟩)
      go_ret
      refine ⟨ret_b ?_, he.trans he'⟩
      have := hall.out
      rw [List.take_of_length_le (by rw [bl_length]; omega)] at this
      have e : inB (s.size : Int) 1 5 = (decide (1 ≤ s.size) && decide (s.size ≤ 5)) := by
        rw [Bool.eq_iff_iff]; simp [inB]; omega
      rw [Bool.eq_iff_iff]
      simp [wordOk, this, e, bl_length]
      exact ⟨fun h => ⟨decide_eq_true h.1, decide_eq_true h.2⟩, fun h => ⟨of_decide_eq_true h.1, of_decide_eq_true h.2⟩⟩

set_option maxHeartbeats 400000 in
theorem l1Last_c (s : ByteArray) (w : World) (hs : s.size < lim) : Calls Tryd.prog 76 #[.string s] w (Ret (.int .i64 (lastSlash (bl s))) w) := by
  unfold lim at hs
  go_enter Tryd.func76, Tryd.ntmps76
  go_wp2
  go_loopw [3, 4] (fun r i wr => ∃ (k : Nat) (q : Int), k ≤ s.size ∧ i = .int .i64 k ∧ r = .int .i64 q ∧ Ext w wr ∧ Hid (lastG ((bl s).drop k) k q = lastSlash (bl s))) (fun _ i _ => s.size - (intOf i).toNat)
  case atStart => exact ⟨0, -1, by omega, rfl, rfl, Ext.refl w, rfl⟩
  case round =>
    obtain ⟨k, q, hk, rfl, rfl, he, hrest⟩ := hrel
    by_cases hlt : k < s.size
    · have hget := Lib.hid (bl_get s hlt)
      generalize hc : s[k] = c at *
      have Hc := Lib.hid hc
      have hd : Hid ((bl s).drop k = c :: (bl s).drop (k + 1)) := by
        show _ = _
        have hl : k < (bl s).length := by rw [bl_length]; exact hlt
        rw [List.drop_eq_getElem_cons hl]
        have := hget.out
        rw [List.getElem?_eq_getElem hl] at this
        rw [Option.some.inj this]
      by_cases h1 : c = 47
      · subst h1
        go_wp2
        go_roundw
        case rel => exact ⟨k + 1, k, by omega, by go_num, rfl, he, Lib.hid (by have := hrest.out; rw [hd.out] at this; simpa [lastG] using this)⟩
        case measure => simp [intOf]; omega
      · have h2 : ((c.toNat : Int) == 47) = false := by
          rw [beq_eq_false_iff_ne]; intro e; exact h1 (UInt8.toNat_inj.1 (by simpa using (by omega : c.toNat = 47)))
        have H1 := Lib.hid h1; clear h1
        go_wp2
        go_roundw
        case rel => exact ⟨k + 1, q, by omega, by go_num, rfl, he, Lib.hid (by have := hrest.out; rw [hd.out] at this; simpa [lastG, H1.out] using this)⟩
        case measure => simp [intOf]; omega
    · have hks : k = s.size := by omega
      subst hks
      go_wp2
      go_ret
      refine ⟨ret_i ?_, he⟩
      have := hrest.out
      rw [List.drop_of_length_le (by rw [bl_length]; omega)] at this
      exact this
set_option maxHeartbeats 400000 in
theorem l5Parent_c (s : ByteArray) (w : World) (hs : s.size < lim) : Calls Tryd.prog 66 #[.string s] w (Ret (.string (parentB s)) w) := by
  have hs' := hs
  unfold lim at hs'
  have hb := lastSlash_bd (bl s)
  rw [bl_length] at hb
  go_enter Tryd.func66, Tryd.ntmps66
  go_wp2_with (go_at_call 76; refine (l1Last_c _ _ hs).mono ?_; rintro e w' ⟨rfl, he'⟩)
  all_goals (go_ret; refine ⟨ret_s ?_, he'⟩; unfold parentB)
  · have h : lastSlash (bl s) < 0 := by assumption
    have : (lastSlash (bl s)).toNat = 0 := by omega
    rw [this]; try simp
  · rfl

/-- the pieces of a text between its slashes -/
def CutAt (s : ByteArray) (ps : List ByteArray) (f k : Nat) : Prop := ps.map bl ++ cutG (((bl s).take k).drop f) ((bl s).drop k) = cut (bl s)
theorem drop_get {s : ByteArray} {k : Nat} {c : UInt8} (hlt : k < s.size) (hget : (bl s)[k]? = some c) : (bl s).drop k = c :: (bl s).drop (k + 1) := by
  have hl : k < (bl s).length := by rw [bl_length]; exact hlt
  rw [List.drop_eq_getElem_cons hl]
  rw [List.getElem?_eq_getElem hl] at hget
  rw [Option.some.inj hget]
theorem CutAt.slash {s : ByteArray} {ps : List ByteArray} {f k : Nat} (h : CutAt s ps f k) (hlt : k < s.size) (hget : (bl s)[k]? = some 47) : CutAt s (ps ++ [s.extract f k]) (k + 1) (k + 1) := by
  unfold CutAt at *
  rw [drop_get hlt hget] at h
  rw [← h]
  have e : ((bl s).take (k + 1)).drop (k + 1) = [] := by simp
  simp [cutG, bl_extract, e]
theorem CutAt.on {s : ByteArray} {ps : List ByteArray} {f k : Nat} {c : UInt8} (h : CutAt s ps f k) (hf : f ≤ k) (hlt : k < s.size) (hget : (bl s)[k]? = some c) (hc : c ≠ 47) : CutAt s ps f (k + 1) := by
  unfold CutAt at *
  rw [drop_get hlt hget] at h
  have hl : k < (bl s).length := by rw [bl_length]; exact hlt
  have e : ((bl s).take (k + 1)).drop f = ((bl s).take k).drop f ++ [c] := by
    rw [List.take_add_one, hget, List.drop_append_of_le_length (by simp; omega)]; rfl
  rw [e]
  simpa [cutG, hc] using h
theorem CutAt.done {s : ByteArray} {ps : List ByteArray} {f : Nat} (h : CutAt s ps f s.size) : (ps ++ [s.extract f s.size]).map bl = cut (bl s) := by
  unfold CutAt at h
  have e : (bl s).drop s.size = [] := List.drop_of_length_le (by rw [bl_length]; omega)
  rw [e] at h
  rw [← h]
  simp [cutG, bl_extract]
set_option maxHeartbeats 1000000 in
theorem l1Cut_c (s : ByteArray) (w : World) (hs4 : s.size < lim) :
    Calls Tryd.prog 74 #[.string s] w (RetP (fun v w' => ∃ ps : List ByteArray, ps.map bl = cut (bl s) ∧ Strs w.heap.size w' v ps) w) := by
  have hlim := hs4
  unfold lim at hlim
  go_enter Tryd.func74, Tryd.ntmps74
  go_wp2
  go_loopw [3, 4, 5] (fun v f i wr => ∃ (k q : Nat) (ps : List ByteArray), k ≤ s.size ∧ q ≤ k ∧ ps.length ≤ k ∧ i = .int .i64 k ∧ f = .int .i64 q ∧ Ext w wr ∧ OwnS w.heap.size 9 1 EStr wr v ps ∧ CutAt s ps q k) (fun _ _ i _ => s.size - (intOf i).toNat)
  case atStart => exact ⟨0, 0, [], by omega, by omega, by simp, rfl, rfl, (Ext.refl w).alloc _, OwnS.lit0 _ _ _ _ (Nat.le_refl _), by simp [CutAt, cut]⟩
  case round =>
    obtain ⟨k, q, ps, hk, hq, hp, rfl, rfl, he, hO, hcut⟩ := hrel
    by_cases hlt : k < s.size
    · have hget := Lib.hid (bl_get s hlt)
      generalize hc : s[k] = c at *
      have Hc := Lib.hid hc
      by_cases h1 : c = 47
      · subst h1
        have Hcut := Lib.hid (hcut.slash hlt hget.out); clear hcut
        go_wp2_with (at_builtin; go_must (refine wp_ap1 (w0 := w) (by rfl) _ _ (by rfl) el_string estr_ok he _ ps [s.extract q k] (by rfl) hO 1 1 rfl #[.string (s.extract q k)] _ (by rfl) (by first | rfl | simp) rfl (one_cells rfl) (one_E ⟨rfl, ?_⟩) ?_ ?_))
        · have := bl_extract s q k
          rw [← bl_length, this]; simp [bl_length]; unfold lim; omega
        · simp; unfold lim; omega
        · intro v' w' hO' he' _
          clear hO he
          go_wp2
          go_roundw
          case rel => exact ⟨k + 1, k + 1, _, by omega, by omega, by simp; omega, by go_num, by go_num, he', hO', Hcut.out⟩
          case measure => simp [intOf]; omega
      · have h2 : ((c.toNat : Int) == 47) = false := by
          rw [beq_eq_false_iff_ne]; intro e; exact h1 (UInt8.toNat_inj.1 (by simpa using (by omega : c.toNat = 47)))
        have Hcut := Lib.hid (hcut.on hq hlt hget.out h1); clear hcut
        have H1 := Lib.hid h1; clear h1
        go_wp2
        go_roundw
        case rel => exact ⟨k + 1, q, ps, by omega, by omega, by omega, by go_num, rfl, he, hO, Hcut.out⟩
        case measure => simp [intOf]; omega
    · have hks : k = s.size := by omega
      subst hks
      have Hcut := Lib.hid hcut.done; clear hcut
      go_wp2_with (at_builtin; go_must (refine wp_ap1 (w0 := w) (by rfl) _ _ (by rfl) el_string estr_ok he _ ps [s.extract q s.size] (by rfl) hO 1 1 rfl #[.string (s.extract q s.size)] _ (by rfl) (by first | rfl | simp) rfl (one_cells rfl) (one_E ⟨rfl, ?_⟩) ?_ ?_))
      · have := bl_extract s q s.size
        rw [← bl_length, this]; simp [bl_length]; unfold lim; omega
      · simp; unfold lim; omega
      · intro v' w' hO' he' _
        clear hO he
        go_wp2
        go_ret
        exact ⟨_, rfl, ⟨_, Hcut.out, hO'.sl estr_ok (Nat.le_refl _) (by simp; unfold lim; omega)⟩, he'⟩
end Go.Sf
