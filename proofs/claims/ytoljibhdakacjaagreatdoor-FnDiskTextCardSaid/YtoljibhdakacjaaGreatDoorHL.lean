/- What holds of the bytes of directories, of quotas, of histories: plain. -/
import Derived.Test.YtoljibhdakacjaaGreatDoorHK
import Derived.Test.YtoljibhdakacjaaGreatDoorHJ
import Derived.Test.YtoljibhdakacjaaGreatDoorHI
import Derived.Test.YtoljibhdakacjaaGreatDoorHD
/-! What holds of the bytes of directories, of quotas, of histories: plain. -/
namespace Go.Sf
open Go Go.RowKit
/-! ### bytes of directories -/
theorem quota_of {s : List Hd} {t : List It} {l : List Sn} {d : ByteArray} (h1 : diskOk s t l = true) (h2 : dirOk d = true) : quotaU s t l d = (usedT s t d : Nat) := by
  unfold quotaU; rw [if_pos ⟨h1, h2⟩]
/-! ### quotas -/
theorem qtGo_ok : ∀ (l : List Qt) (p : Option ByteArray), qtGo p l = true → ∀ x, x ∈ l → qtOk x = true := by
  intro l
  induction l with
  | nil => intro p _ x hx; cases hx
  | cons y r ih =>
    intro p h x hx
    unfold qtGo at h
    simp only [Bool.and_eq_true] at h
    rcases List.mem_cons.1 hx with rfl | hx
    · exact h.1
    · exact ih _ h.2.2 x hx
theorem quotas_dir {l : List Qt} (h : quotasOk l = true) {x : Qt} (hx : x ∈ l) : dirOk x.dir = true := by
  unfold quotasOk at h
  rw [Bool.and_eq_true] at h
  have := qtGo_ok l none h.2 x hx
  unfold qtOk at this
  rw [Bool.and_eq_true] at this
  exact this.1
theorem allow_less {s : List Hd} {t : List It} {l : List Sn} {q : List Qt} {p : ByteArray} {n m : Int} (h : allowOk s t l q p n = true) (h0 : 0 ≤ m) (hm : m ≤ n) : allowOk s t l q p m = true := by
  unfold allowOk allowIn at *
  simp only [Bool.and_eq_true, List.all_eq_true, inB_iff] at *
  obtain ⟨⟨h1, h2, h3, h4⟩, h5⟩ := h
  refine ⟨⟨h1, h2, h3, h0, by omega⟩, fun x hx => ?_⟩
  have := h5 x hx
  unfold qtNo at *
  cases hw : within p x.dir with
  | false => rfl
  | true =>
    rw [hw] at this
    simp only [Bool.true_and, Bool.not_eq_true', decide_eq_false_iff_not] at this ⊢
    omega
theorem allow_size {s : List Hd} {t : List It} {l : List Sn} {q : List Qt} {p : ByteArray} {n : Int} (h : allowOk s t l q p n = true) : 0 ≤ n ∧ n ≤ 32 := by
  unfold allowOk allowIn at h
  simp only [Bool.and_eq_true, inB_iff] at h
  exact h.1.2.2.2
theorem allow_none {s : List Hd} {t : List It} {l : List Sn} {q : List Qt} {p : ByteArray} {n : Int} (h : allowOk s t l q p n = true) : allowOk s t l [] p n = true := by
  unfold allowOk allowIn at *
  simp only [Bool.and_eq_true] at *
  obtain ⟨⟨h1, h2, h3, h4⟩, -⟩ := h
  exact ⟨⟨h1, rfl, h3, h4⟩, rfl⟩
/-! ### histories -/
/-! ### the last snapshot with a file -/
theorem last_some (p : ByteArray) : ∀ (l : List Sn) (a : ByteArray), (∃ (i : Nat) (y : Sn), l[i]? = some y ∧ l.foldl (lastStep p) a = y.name ∧ (fileOf y.tree p).isSome = true ∧ ∀ (j : Nat) (z : Sn), i < j → l[j]? = some z → (fileOf z.tree p).isSome = false) ∨
    ((∀ z, z ∈ l → (fileOf z.tree p).isSome = false) ∧ l.foldl (lastStep p) a = a) := by
  intro l
  induction l with
  | nil => intro a; exact .inr ⟨fun z hz => (by cases hz), rfl⟩
  | cons x l ih =>
    intro a
    rw [List.foldl_cons]
    rcases ih (lastStep p a x) with ⟨i, y, h1, h2, h3, h4⟩ | ⟨hn, he⟩
    · exact .inl ⟨i + 1, y, by simpa using h1, h2, h3, fun j z hj hz => by
        cases j with
        | zero => omega
        | succ j => exact h4 j z (by omega) (by simpa using hz)⟩
    · cases hx : (fileOf x.tree p).isSome with
      | true =>
        refine .inl ⟨0, x, rfl, ?_, hx, fun j z hj hz => ?_⟩
        · rw [he]; unfold lastStep; rw [if_pos hx]
        · cases j with
          | zero => omega
          | succ j => exact hn z (List.mem_of_getElem? (i := j) (by simpa using hz))
      | false =>
        refine .inr ⟨fun z hz => ?_, ?_⟩
        · rcases List.mem_cons.1 hz with rfl | hz
          · exact hx
          · exact hn z hz
        · rw [he]; unfold lastStep; rw [if_neg (by rw [hx]; simp)]
end Go.Sf

/-! Turns are compared; a disk and a path are drawn for the last of a history. -/
namespace Go.Sf
open Go Go.RowKit Go.Proofs
set_option maxHeartbeats 1000000 in
theorem DrawHistoryLast_c {v : Value} {xs : List Int} (w : World) (h : Bys w v xs) : Calls Tryz.prog 11 #[v] w (DrewDP w) := by
  have hbr := Lib.hid (Blk.new w 27 #[.slice none 0 0, .slice none 0 0, .slice none 0 0])
  have e0 : Ext w (w.alloc (.cells #[.slice none 0 0, .slice none 0 0, .slice none 0 0] 27)) := (Ext.refl w).alloc _
  go_enter Tryz.func11, Tryz.ntmps11
  go_wp2_with fail
  generalize w.alloc (.cells #[.slice none 0 0, .slice none 0 0, .slice none 0 0] 27) = w1 at *
  refine (DrawHistoryOf_c w1 (h.ext e0)).mono ?_
  rintro e w2 ⟨us, ut, un, p, rfl, hW, hp, he2⟩
  obtain ⟨A1, n1, c1, A2, n2, c2, A3, n3, c3, rfl, rfl, rfl⟩ := hW.form
  have HW := Lib.hid (hW.keep e0.size); have HP := Lib.hid hp
  have HZ := Lib.hid (hbr.out.ext he2)
  clear hW hp h hbr
  have hz9 := HZ.out
  have c90 := hz9.cell 0; have c91 := hz9.cell 1; have c92 := hz9.cell 2; have f90 := hz9.frozen 0; have f91 := hz9.frozen 1; have f92 := hz9.frozen 2
  simp at c90 c91 c92
  go_wp2
  obtain ⟨p1, p2, p3, -⟩ := put_three (a := .slice A1 n1 c1) (b := .slice A2 n2 c2) (c := .slice A3 n3 c3) hz9
  have z0 := p1.cell 0; have z1 := p1.cell 1; have z2 := p1.cell 2
  simp at z0 z1 z2
  exact bodyPost_ret (v := .tuple #[.agg #[.slice A1 n1 c1, .slice A2 n2 c2, .slice A3 n3 c3], .string p]) (by simp [results, Tryz.results11, go_sem, z0, z1, z2]) rfl ⟨_, _, _, _, rfl, HW.out.keepT p2 (by decide) (by decide) (by decide) (by decide), HP.out, p3 w (e0.trans he2) (Nat.le_refl _)⟩
/-! ### plain -/
theorem snaps_apart {s : List Hd} {t : List It} {l : List Sn} (h : diskOk s t l = true) (i : Nat) (y : Sn) (j : Nat) (z : Sn) (hy : l[i]? = some y) (hz : l[j]? = some z) (hn : y.name = z.name) : i = j := by
  unfold diskOk at h
  simp only [Bool.and_eq_true, snapsOk_iff] at h
  obtain ⟨-, -, -, ⟨-, h5⟩, -⟩ := h
  rcases Nat.lt_trichotomy i j with hij | hij | hij
  · exact absurd hn ((h5 j z hz).2.1 i y hij hy)
  · exact hij
  · exact absurd hn.symm ((h5 i y hy).2.1 j z hij hz)
/-- what the last snapshot with a file is -/
theorem last_told {s : List Hd} {t : List It} {l : List Sn} {p : ByteArray} (h : histL s t l p ≠ ⟨#[]⟩) : diskOk s t l = true ∧ ∃ (i : Nat) (y : Sn), l[i]? = some y ∧ y.name = histL s t l p ∧ (readSn s t l y.name p).isSome = true ∧
    ∀ (j : Nat) (z : Sn), l[j]? = some z → (z.name = histL s t l p ↔ j = i) ∧ (i < j → (readSn s t l z.name p).isSome = false) := by
  unfold histL at h ⊢
  split at h
  · next hd =>
    rw [if_pos hd]
    refine ⟨hd, ?_⟩
    have hu : ∀ (i : Nat) (y : Sn) (j : Nat) (z : Sn), l[i]? = some y → l[j]? = some z → y.name = z.name → i = j := fun i y j z => snaps_apart hd i y j z
    have hr : ∀ (j : Nat) (z : Sn), l[j]? = some z → (readSn s t l z.name p).isSome = (fileOf z.tree p).isSome := fun j z hz => by
      rcases snAt_find l z.name with ⟨h1, -⟩ | ⟨k, y, h1, -, h2⟩
      · have := List.find?_eq_none.1 h1 z (List.mem_of_getElem? hz)
        simp [snIs, eqb_true] at this
      · have hn : y.name = z.name := by have := List.find?_some h2; simpa [snIs, eqb_iff] using this
        have := hu k y j z h1 hz hn
        subst this
        rw [h1] at hz
        cases hz
        rw [readSn_at hd h2, Option.isSome_map]
    rcases last_some p l ⟨#[]⟩ with ⟨i, y, h1, h2, h3, h4⟩ | ⟨-, h2⟩
    · refine ⟨i, y, h1, h2.symm, by rw [hr i y h1]; exact h3, fun j z hz => ⟨?_, fun hj => by rw [hr j z hz]; exact h4 j z hj hz⟩⟩
      constructor
      · intro hn
        exact hu j z i y hz h1 (hn.trans h2)
      · rintro rfl
        rw [h1] at hz
        cases hz
        exact h2.symm
    · exact absurd h2 h
  · exact absurd rfl h
end Go.Sf
