/- The binary search for a name among the nodes of a directory. -/
import Derived.Test.YtfpkllihfcgmaaaDoorT10
import Derived.IntWalk
namespace Go.Sf
open Go Go.RowKit Go.Proofs
/-- how many names come ahead of t -/
def lbB (nms : List ByteArray) (t : ByteArray) : Nat := (nms.takeWhile fun x => blt x t).length
def hasB (nms : List ByteArray) (t : ByteArray) : Bool := nms.any fun x => eqb x t
theorem lbB_le (nms : List ByteArray) (t : ByteArray) : lbB nms t ≤ nms.length := (List.takeWhile_sublist _).length_le
theorem lbB_of {nms : List ByteArray} {t : ByteArray} {i : Nat} (hi : i ≤ nms.length) (h1 : ∀ k x, k < i → nms[k]? = some x → blt x t = true) (h2 : ∀ x, nms[i]? = some x → blt x t = false) : lbB nms t = i := by
  induction nms generalizing i with
  | nil => simp at hi; subst hi; rfl
  | cons y ys ih =>
    cases i with
    | zero =>
      have := h2 y rfl
      simp [lbB, this]
    | succ i =>
      have h := h1 0 y (by omega) rfl
      have := ih (i := i) (by simp at hi; omega) (fun k x hk hx => h1 (k + 1) x (by omega) (by simpa using hx)) (fun x hx => h2 x (by simpa using hx))
      unfold lbB at this ⊢
      rw [List.takeWhile_cons, if_pos h, List.length_cons, this]
theorem hasB_none {nms : List ByteArray} {t : ByteArray} (h1 : ∀ (k : Nat) (x : ByteArray), nms[k]? = some x → x ≠ t) : hasB nms t = false := by
  unfold hasB
  rw [List.any_eq_false]
  intro x hx
  obtain ⟨k, hk⟩ := List.mem_iff_getElem?.1 hx
  rw [eqb_iff]; exact h1 k x hk
theorem hasB_some {nms : List ByteArray} {t : ByteArray} {k : Nat} (h : nms[k]? = some t) : hasB nms t = true := by
  unfold hasB
  rw [List.any_eq_true]
  exact ⟨t, List.mem_of_getElem? h, eqb_iff.2 rfl⟩
theorem blt_ne {a b : ByteArray} (h : blt a b = true) : a ≠ b := by rintro rfl; rw [blt_irrefl] at h; cases h
theorem blt_trans {a b c : ByteArray} (h : blt a b = true) (k : blt b c = true) : blt a c = true := by rw [blt_eq] at *; exact lt8_trans _ _ _ h k
/-- names ascend -/
def Asc (nms : List ByteArray) : Prop := ∀ (i j : Nat) (x y : ByteArray), nms[i]? = some x → nms[j]? = some y → i < j → blt x y = true
/-- the cells of a slice of nodes, and the nodes' names -/
def PtrNames (w : World) (A : Option Addr) (bs : List Nat) (nms : List ByteArray) : Prop :=
  ∀ k nm, nms[k]? = some nm → ∃ ab ao b, bs[k]? = some b ∧ A = some ⟨ab, ao, none⟩ ∧ (∀ W, Ext w W → W.cell? ⟨ab, ao + k, none⟩ = some (.pointer (some ⟨b, 0, none⟩))) ∧ (∀ W, Ext w W → W.cell? ⟨b, 0, none⟩ = some (.string nm))
theorem ret_ib {a b : Int} {c d : Bool} (h : a = b) (h2 : c = d) : Ending.returned (.tuple #[.int .i64 a, .bool c]) = .returned (.tuple #[.int .i64 b, .bool d]) := by rw [h, h2]
set_option maxHeartbeats 1000000 in
theorem placeF_c (b : Nat) (s t : ByteArray) (w : World) (hc : w.cell? ⟨b, 0, none⟩ = some (.string s)) : Calls Tryd.prog 70 #[.pointer (some ⟨b, 0, none⟩), .string t] w (Ret (.int .i64 (cmpB s t)) w) := by
  go_enter Tryd.func70, Tryd.ntmps70
  go_wp2_with (go_at_call 71; refine (Compare_string_c _ _ _).mono ?_; rintro e w1 ⟨rfl, he1⟩)
  go_ret
  exact ⟨rfl, he1⟩
set_option maxHeartbeats 1000000 in
theorem bsearch_c {A : Option Addr} {c : Nat} {bs : List Nat} {nms : List ByteArray} (t : ByteArray) (w : World) (hA : PtrNames w A bs nms) (hl : nms.length ≤ lim) (hs : Asc nms) :
    Calls Tryd.prog 69 #[.slice A nms.length c, .string t, .func (.func 70) #[] #[]] w (Ret (.tuple #[.int .i64 (lbB nms t), .bool (hasB nms t)]) w) := by
  have HA := Lib.hid hA
  have HS := Lib.hid hs
  unfold lim at hl
  clear hA hs
  generalize hn : nms.length = n at *
  have Hn := Lib.hid hn; clear hn
  go_enter Tryd.func69, Tryd.ntmps69
  go_wp2
  go_loopw [9, 10] (fun i j wr => ∃ a b : Nat, a ≤ b ∧ b ≤ n ∧ i = .int .i64 a ∧ j = .int .i64 b ∧ Ext w wr ∧ Hid (∀ k x, k < a → nms[k]? = some x → blt x t = true) ∧ Hid (∀ k x, b ≤ k → nms[k]? = some x → blt x t = false)) (fun i j _ => (intOf j).toNat - (intOf i).toNat)
  case atStart =>
    refine ⟨0, n, by omega, by omega, rfl, rfl, Ext.refl w, Lib.hid fun k x h => absurd h (by omega), Lib.hid fun k x h hx => ?_⟩
    rw [List.getElem?_eq_none (by rw [Hn.out]; exact h)] at hx; cases hx
  case round =>
    obtain ⟨a, b, hab, hb, rfl, rfl, he, hlo, hhi⟩ := hrel
    by_cases hlt : a < b
    · have hmid : (a + b) / 2 < n := by omega
      obtain ⟨x, hx⟩ := get_of_lt (l := nms) (k := (a + b) / 2) (by rw [Hn.out]; exact hmid)
      obtain ⟨ab, ao, pb, hpb, hAe, h1, h2⟩ := HA.out _ _ hx
      subst hAe
      have c1 := fun W (h : Ext wr W) => h1 W (he.trans h)
      have c2 := fun W (h : Ext wr W) => h2 W (he.trans h)
      have Hx := Lib.hid hx
      clear h1 h2 hx hpb
      go_wp2_with (go_at_call 70; refine (placeF_c pb x t _ (c2 _ (by first | assumption | exact Ext.refl _))).mono ?_; rintro e w2 ⟨rfl, he2⟩)
      · have hc : cmpB x t < 0 := by assumption
        have hx : Hid (blt x t = true) := Lib.hid (by
          cases h : blt x t with
          | true => rfl
          | false => simp only [cmpB, h] at hc; split at hc <;> omega)
        go_roundw
        case rel =>
          refine ⟨(a + b) / 2 + 1, b, by omega, by omega, by go_num, rfl, he.trans he2, Lib.hid fun k y hk hy => ?_, hhi⟩
          rcases Nat.lt_or_ge k ((a + b) / 2) with h | h
          · exact blt_trans (HS.out _ _ _ _ hy Hx.out h) hx.out
          · have : k = (a + b) / 2 := by omega
            subst this
            rw [Hx.out] at hy
            rw [← Option.some.inj hy]; exact hx.out
        case measure => simp [intOf]; omega
      · have hc : 0 ≤ cmpB x t := by assumption
        have hx : Hid (blt x t = false) := Lib.hid (by
          cases h : blt x t with
          | false => rfl
          | true => rw [cmpB_lt h] at hc; omega)
        go_roundw
        case rel =>
          refine ⟨a, (a + b) / 2, by omega, by omega, rfl, by go_num, he.trans he2, hlo, Lib.hid fun k y hk hy => ?_⟩
          cases h1 : blt y t with
          | false => rfl
          | true =>
            rcases Nat.lt_or_ge ((a + b) / 2) k with h | h
            · rw [← hx.out]; exact (blt_trans (HS.out _ _ _ _ Hx.out hy h) h1).symm
            · have : k = (a + b) / 2 := by omega
              subst this
              rw [Hx.out] at hy
              rw [← h1, ← Option.some.inj hy]; exact hx.out
        case measure => simp [intOf]; omega
    · have e : a = b := by omega
      subst e
      have hlb : Hid (lbB nms t = a) := Lib.hid (lbB_of (by rw [Hn.out]; omega) hlo.out fun x hx => hhi.out _ x (Nat.le_refl _) hx)
      rcases Nat.lt_or_ge a n with hlt2 | hge
      · obtain ⟨x, hx⟩ := get_of_lt (l := nms) (k := a) (by rw [Hn.out]; exact hlt2)
        obtain ⟨ab, ao, pb, hpb, hAe, h1, h2⟩ := HA.out _ _ hx
        subst hAe
        have c1 := fun W (h : Ext wr W) => h1 W (he.trans h)
        have c2 := fun W (h : Ext wr W) => h2 W (he.trans h)
        have Hx := Lib.hid hx
        clear h1 h2 hx hpb
        go_wp2_with (go_at_call 70; refine (placeF_c pb x t _ (c2 _ (by first | assumption | exact Ext.refl _))).mono ?_; rintro e w2 ⟨rfl, he2⟩)
        go_ret2
        refine ⟨ret_ib ?_ ?_, he.trans he2⟩
        · rw [hlb.out]
        · have hx1 := hhi.out a x (Nat.le_refl _) Hx.out
          cases h2 : blt t x with
          | false =>
            have := blt_total hx1 h2
            subst this
            rw [hasB_some Hx.out, cmpB_eq hx1 h2]; rfl
          | true =>
            rw [cmpB_gt hx1 h2, hasB_none]
            · rfl
            · intro k y hy e
              subst e
              rcases Nat.lt_trichotomy k a with h | rfl | h
              · exact blt_ne (hlo.out k y h hy) rfl
              · rw [Hx.out] at hy; exact blt_ne h2 (Option.some.inj hy).symm
              · exact blt_ne (blt_trans h2 (HS.out _ _ _ _ Hx.out hy h)) rfl
      · have e : a = n := by omega
        subst e
        go_wp2
        go_ret2
        refine ⟨ret_ib ?_ ?_, he⟩
        · rw [hlb.out]
        · rw [hasB_none]
          intro k y hy e
          subst e
          exact blt_ne (hlo.out k y (by rw [← Hn.out]; exact lt_of_get hy) hy) rfl
end Go.Sf
