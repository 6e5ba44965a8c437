/- The reference frees a file. -/
import Derived.Test.YtneabdoianmfhaaGreatDoorT123
namespace Go.Sf
open Go Go.RowKit Go.Proofs
noncomputable def dropAll : List Hd → List Int → Option (List Hd)
  | l, [] => some l
  | l, i :: r => (dropId l i).bind fun l' => dropAll l' r
noncomputable def freeAll (l : List Hd) (ids : List Int) : Option (List Hd) := if storeOk l = true ∧ idsFit l ids = true then dropAll l ids else none
theorem dropId_len {l l' : List Hd} {i : Int} (h : dropId l i = some l') : l'.length ≤ l.length := by
  unfold dropId at h
  split at h
  · injection h with h
    subst h
    unfold dropAt
    split
    · split
      · rw [List.length_eraseIdx]; split <;> omega
      · simp
    · exact Nat.le_refl _
  · cases h
set_option maxRecDepth 4000 in
set_option maxHeartbeats 2000000 in
theorem FileFree_c {B B' : Nat} {v vi : Value} {l : List Hd} {ids : List Int} (w : World) (h : Hds B w v l) (hi : Ints B' w vi ids) :
    Calls Tryz.prog 105 #[v, vi] w (RetP (OptHds w.heap.size (freeAll l ids)) w) := by
  have H := Lib.hid h
  have HI := Lib.hid hi
  have hl := h.len
  have hil := hi.len
  unfold lim at hl hil
  obtain ⟨Ai, ci, rfl, hAi⟩ := hi
  have HAi := Lib.hid hAi
  have C1 := fun W (e : Ext w W) => specStoreValid_c W (H.out.ext e)
  have C2 := fun W (e : Ext w W) => l4Ids_c W (H.out.ext e) (HI.out.ext e)
  clear h hAi
  cases h1 : storeOk l with
  | false =>
    rw [h1] at C1
    have Hr : Hid (freeAll l ids = none) := Lib.hid (by simp [freeAll, h1])
    clear h1
    go_enter Tryz.func105, Tryz.ntmps105
    go_wp2_with (go_at_call 111; refine (C1 _ (Ext.refl _)).mono ?_; rintro e w1 ⟨rfl, he1⟩)
    go_ret2
    exact ⟨_, rfl, OptHds.none_ he1.size Hr.out, he1.alloc _⟩
  | true =>
  rw [h1] at C1
  cases h2 : idsFit l ids with
  | false =>
    rw [h2] at C2
    have Hr : Hid (freeAll l ids = none) := Lib.hid (by simp [freeAll, h2])
    clear h1 h2
    go_enter Tryz.func105, Tryz.ntmps105
    go_wp2_with (first | (go_at_call 111; refine (C1 _ (Ext.refl _)).mono ?_; rintro e w1 ⟨rfl, he1⟩) | (go_at_call 159; refine (C2 _ he1).mono ?_; rintro e w2 ⟨rfl, he2⟩))
    go_ret2
    exact ⟨_, rfl, OptHds.none_ (he1.trans he2).size Hr.out, (he1.trans he2).alloc _⟩
  | true =>
  rw [h2] at C2
  have Hf : Hid (freeAll l ids = dropAll l ids) := Lib.hid (by simp [freeAll, h1, h2])
  clear h1 h2
  generalize hn : ids.length = n at *
  have Hn := Lib.hid hn
  clear hn
  go_enter Tryz.func105, Tryz.ntmps105
  go_wp2_with (first | (go_at_call 111; refine (C1 _ (Ext.refl _)).mono ?_; rintro e w1 ⟨rfl, he1⟩) | (go_at_call 159; refine (C2 _ he1).mono ?_; rintro e w2 ⟨rfl, he2⟩; have he3 := he1.trans he2) | (go_at_call 98; refine (l3Copy_c _ (H.out.ext he3)).mono ?_; rintro e w3 ⟨v2, rfl, hO, he4⟩; have HO := Lib.hid (hO.weak he3.size fun _ _ _ gg => gg.keep he3.size (fun _ _ _ => rfl)); have he5 := he3.trans he4; clear hO he4 he3 he2 he1))
  clear C1 C2
  go_loopw [6, 7] (fun v i wr => ∃ (k : Nat) (st : List Hd), k ≤ n ∧ i = .int .i64 k ∧ Ext w wr ∧ OwnS w.heap.size 84 3 (EHd w.heap.size) wr v st ∧ Hid (dropAll l ids = dropAll st (ids.drop k) ∧ st.length ≤ l.length)) (fun _ i _ => n - (RowKit.intOf i).toNat)
  case atStart => exact ⟨0, l, by omega, rfl, he5, HO.out, Lib.hid ⟨rfl, Nat.le_refl _⟩⟩
  case round =>
    obtain ⟨k, st, hk, rfl, he, hO, hst⟩ := hrel
    have hsl : st.length ≤ lim := by have := hst.out.2; unfold lim; omega
    have HSt := Lib.hid (hO.isHds hsl)
    have HO2 := Lib.hid hO
    clear hO
    by_cases hlt : k < n
    · obtain ⟨x, hx⟩ := get_of_lt (l := ids) (k := k) (by rw [Hn.out]; exact hlt)
      obtain ⟨b, o, rfl, -, -, hxi, hc0⟩ := Ints.at_ HAi.out hx
      have a0 := hc0 wr he
      have C3 := StoreDrop_c x wr HSt.out
      have hdc := drop_cons hx
      cases hd : dropId st x with
      | none =>
        rw [hd] at C3
        have Hr : Hid (freeAll l ids = none) := Lib.hid (by rw [Hf.out, hst.out.1, hdc]; show (dropId st x).bind _ = none; rw [hd]; rfl)
        clear hd hdc hx hc0
        go_wp2_with (go_at_call 160; refine C3.mono ?_; rintro e w5 ⟨v5, rfl, ⟨v6, rfl, -⟩, he6⟩; simp only [Option.isSome_none])
        go_ret2
        exact ⟨_, rfl, OptHds.none_ (he.trans he6).size Hr.out, (he.trans he6).alloc _⟩
      | some st' =>
        rw [hd] at C3
        have Hr : Hid (dropAll l ids = dropAll st' (ids.drop (k + 1)) ∧ st'.length ≤ l.length) := Lib.hid ⟨by rw [hst.out.1, hdc]; show (dropId st x).bind _ = _; rw [hd]; rfl, Nat.le_trans (dropId_len hd) hst.out.2⟩
        clear hd hdc hx hc0
        go_wp2_with (go_at_call 160; refine C3.mono ?_; rintro e w5 ⟨v5, rfl, ⟨v6, rfl, hO6⟩, he6⟩; simp only [Option.isSome_some]; have HO6 := Lib.hid (hO6.weak he.size fun _ _ _ gg => gg.keep he.size (fun _ _ _ => rfl)); clear hO6)
        go_roundw
        case rel => exact ⟨k + 1, st', by omega, by go_num, he.trans he6, HO6.out, Hr⟩
        case measure => simp [RowKit.intOf]; omega
    · have hks : k = n := by omega
      subst hks
      have Hr : Hid (freeAll l ids = some st) := Lib.hid (by rw [Hf.out, hst.out.1, List.drop_eq_nil_of_le (by rw [Hn.out]; exact Nat.le_refl _)]; rfl)
      go_wp2
      go_ret2
      refine ⟨_, rfl, ?_, he⟩
      rw [Hr.out]
      exact ⟨_, rfl, HO2.out⟩
end Go.Sf
