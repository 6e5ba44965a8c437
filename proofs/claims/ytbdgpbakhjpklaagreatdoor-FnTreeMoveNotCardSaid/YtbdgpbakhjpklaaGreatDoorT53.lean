/- The law that a move is not done twice. -/
import Derived.Test.YtbdgpbakhjpklaaGreatDoorT52
namespace Go.Sf
open Go Go.RowKit Go.Proofs
theorem cutG_sum (l : List UInt8) : ∀ cur, ((cutG cur l).map List.length).sum + (cutG cur l).length = cur.length + l.length + 1 := by
  induction l with
  | nil => intro cur; simp [cutG]
  | cons c cs ih =>
    intro cur
    unfold cutG
    split
    · have := ih []
      simp only [List.map_cons, List.sum_cons, List.length_cons, List.length_nil] at this ⊢
      omega
    · have := ih (cur ++ [c])
      simp only [List.length_append, List.length_cons, List.length_nil] at this ⊢
      omega
theorem sum_le5 (l : List (List UInt8)) (h : ∀ x, x ∈ l → x.length ≤ 5) : (l.map List.length).sum ≤ l.length * 5 := by
  induction l with
  | nil => simp
  | cons a r ih =>
    have h1 := h a (by simp)
    have h2 := ih fun x hx => h x (by simp [hx])
    rw [List.map_cons, List.sum_cons, List.length_cons]
    omega
theorem pathOk_size {p : ByteArray} (h : pathOk p = true) : p.size ≤ 23 := by
  obtain ⟨h1, h2⟩ := pathOk_words h
  have h3 := cutG_sum (bl p) []
  have h4 := sum_le5 (cut (bl p)) fun x hx => by
    have := List.all_eq_true.1 h1 x hx
    unfold wordOk at this
    simp only [Bool.and_eq_true, decide_eq_true_eq] at this
    exact this.2.2
  rw [bl_length] at h3
  simp only [List.length_nil] at h3
  change ((cut (bl p)).map List.length).sum + (cut (bl p)).length = _ at h3
  omega
theorem move_not_slash {o : List It} {t : ByteArray} : moveOf o t (t ++ (⟨#[47, 122]⟩ : ByteArray)) = none := move_not_inside fun _ => by
  unfold within
  rw [decide_eq_true_eq]
  exact .inr (.inr ⟨[122], by rw [bl_app]; show _ = bl t ++ [47, 122]; simp⟩)
theorem slash_lim {t : ByteArray} (h : pathOk t = true) : (t ++ (⟨#[47, 122]⟩ : ByteArray)).size < lim := by
  have := pathOk_size h
  rw [ByteArray.size_append]
  show t.size + 2 < lim
  unfold lim; omega
set_option maxHeartbeats 1000000 in
theorem FnTreeMoveNot_big {A : Option Addr} {n c : Nat} (w : World) (hn : 1048576 < n) (hm : n ≤ maxLen) : Calls Tryz.prog 5 #[.slice A n c] w (Ret (.bool true) w) := by
  unfold maxLen at hm
  have h : (1048576 : Int) < (n : Int) := by omega
  go_enter Tryz.func5, Tryz.ntmps5
  go_wp2
  go_ret
  exact ⟨rfl, Ext.refl w⟩
set_option maxRecDepth 4000 in
set_option maxHeartbeats 2000000 in
theorem FnTreeMoveNot_c {v : Value} {xs : List Int} (w : World) (h : Bys w v xs) (hm : ML w) (hl : xs.length ≤ 1048576) : Calls Tryz.prog 5 #[v] w (Ret (.bool true) w) := by
  have H := Lib.hid h
  obtain ⟨A, c, rfl, -⟩ := h
  have HM := Lib.hid hm; clear hm
  have hn : ¬ (1048576 : Int) < (xs.length : Int) := by omega
  go_enter Tryz.func5, Tryz.ntmps5
  go_wp2_with fail
  refine (DrawTreeMove_c _ H.out).mono ?_
  rintro e w1 ⟨va, la, f, t, rfl, hIa, hla, hf, ht, he1⟩
  have HIa := Lib.hid hIa
  have HM1 := Lib.hid (HM.out.ext he1)
  have HF := Lib.hid hf; have HT := Lib.hid ht
  clear hIa hf ht
  go_wp2_with fail
  refine (TreeMove_c sort_c f t _ HIa.out HF.out HT.out HM1.out).mono ?_
  rintro e w2 ⟨v2, rfl, hU1, he2⟩
  obtain ⟨u2, rfl, hC1⟩ := hU1.plain
  have HE2 := Lib.hid (he1.trans he2)
  have HC1 := Lib.hid hC1
  have HIa2 := Lib.hid (HIa.out.ext he2)
  have HM2 := Lib.hid (HM1.out.ext he2)
  clear he1 he2 hC1 hU1
  go_wp2_with fail
  refine (specTreeMove_c f t _ HIa2.out HF.out HT.out).mono ?_
  rintro e w3 ⟨v3, rfl, ⟨u3, rfl, hC2⟩, he3⟩
  have Cs := same_tree (HC1.out.ext he3) hC2
  have HE3 := Lib.hid (HE2.out.trans he3)
  have HC3 := Lib.hid (HC1.out.ext he3)
  have HIa3 := Lib.hid (HIa2.out.ext he3)
  have HM3 := Lib.hid (HM2.out.ext he3)
  clear he3 hC2 HC1 HIa2 HM2 HE2
  cases hch : moveOf la f t with
  | none =>
    have e1 : (none : Option (List It)).isSome = false := rfl
    simp only [hch, e1] at *
    clear hch
    go_wp2_with (go_at_call 17; refine (Cs _ (by first | exact Ext.refl _ | assumption)).mono ?_; rintro e w4 ⟨rfl, he4⟩)
    go_ret
    exact ⟨rfl, HE3.out.trans (by (repeat' (first | exact Ext.refl _ | assumption | refine Ext.alloc ?_ _ | refine Ext.drew ?_ | refine Ext.drewN ?_ _ | refine Ext.trans ?_ (by assumption))))⟩
  | some o =>
    have e1 : (some o : Option (List It)).isSome = true := rfl
    have M := Lib.hid (moveOf_some hch)
    simp only [hch, e1, Option.getD_some] at *
    clear hch
    go_wp2_with (go_at_call 17; refine (Cs _ (by first | exact Ext.refl _ | assumption)).mono ?_; rintro e w4 ⟨rfl, he4⟩)
    have HM4 := Lib.hid (HM3.out.ext he4)
    have HIa4 := Lib.hid (HIa3.out.ext he4)
    have HE4 := Lib.hid (HE3.out.trans he4)
    have HC4 := Lib.hid (HC3.out.ext he4)
    clear he4 Cs HM3 HIa3 HE3 HC3
    have hno := Lib.hid (move_not_again M.out)
    have hni := Lib.hid (move_not_slash (o := o) (t := t))
    have hz : Hid ((t ++ (⟨#[47, 122]⟩ : ByteArray)).size < lim) := Lib.hid (slash_lim M.out.tok)
    have Cz : ∀ (B : Nat) (v : Value) (W : World), Its B W v o → ML W → Calls Tryz.prog 20 #[v, .string t, .string (t ++ (⟨#[47, 122]⟩ : ByteArray))] W (RetP (OptItsU W.heap.size (moveOf o t (t ++ (⟨#[47, 122]⟩ : ByteArray)))) W) := fun B v W h1 h2 => TreeMove_c sort_c t _ W h1 HT.out hz.out h2
    simp only [hni.out] at Cz
    have htl := HT.out
    unfold lim at htl
    go_wp2_with fail
    refine (TreeMove_c sort_c f t _ HC4.out HF.out HT.out HM4.out).mono ?_
    rintro e w5 ⟨v5, rfl, hU5, he5⟩
    obtain ⟨u5, rfl, -⟩ := hU5.plain
    clear hU5
    simp only [hno.out, Option.isSome_none] at ⊢
    have HE5 := Lib.hid (HE4.out.trans he5)
    have HC5 := Lib.hid (HC4.out.ext he5)
    have HM5 := Lib.hid (HM4.out.ext he5)
    clear he5 hno
    go_wp2_with fail
    refine (Cz _ _ _ HC5.out HM5.out).mono ?_
    rintro e w6 ⟨v6, rfl, hU6, he6⟩
    obtain ⟨u6, rfl, -⟩ := hU6.plain
    clear hU6
    simp only [Option.isSome_none] at ⊢
    have HE6 := Lib.hid (HE5.out.trans he6)
    clear he6 hni
    go_wp2
    go_ret
    exact ⟨rfl, HE6.out⟩
end Go.Sf
