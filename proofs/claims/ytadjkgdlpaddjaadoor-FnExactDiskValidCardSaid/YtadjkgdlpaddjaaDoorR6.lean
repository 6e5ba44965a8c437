/- What the program's make says: it is cut, it may be entered. -/
import Derived.Test.YtadjkgdlpaddjaaDoorR0
import Derived.JoinedOf
import Derived.KernelRfl
namespace Go.Proofs.YtadjkgdlpaddjaaDoor
open Go
set_option maxRecDepth 100000
theorem toList_of {s : String} {cs : List Char} (h : s = String.ofList cs) : s.toList = cs := by rw [h, String.toList_ofList]
def cutAt (P : Program) : Prop := (behindMainWord (wordsSigns P.initOrder.toList)).head? = some [(Char.ofNat 99), (Char.ofNat 117), (Char.ofNat 116)]
theorem cutAt.is {P : Program} (h : cutAt P) : ∃ r, behindMainWord (wordsSigns P.initOrder.toList) = [(Char.ofNat 99), (Char.ofNat 117), (Char.ofNat 116)] :: r := by
  unfold cutAt at h
  cases hl : behindMainWord (wordsSigns P.initOrder.toList) with
  | nil => rw [hl] at h; cases h
  | cons a r => rw [hl] at h; cases h; exact ⟨r, rfl⟩
theorem make_cut {P : Program} (h : cutAt P) : P.make = some .cut := by
  obtain ⟨r, h⟩ := h.is
  unfold Program.make; rw [h]; kernel_rfl
theorem headLifts_cut {P : Program} (h : cutAt P) : P.headLifts = [] := by
  obtain ⟨r, h⟩ := h.is
  unfold Program.headLifts; rw [h]; kernel_rfl
theorem lifts_cut {P : Program} (h : cutAt P) : P.liftsFinal = false := by
  have h1 := headLifts_cut h
  obtain ⟨r, h⟩ := h.is
  unfold Program.liftsFinal; rw [h, h1]; rfl
theorem mayEnter_cut {P : Program} (h : cutAt P) (h1 : P.laysLater = false) (h2 : P.bearsReflect = false) (h3 : P.doorFits [] = true) : P.mayEnter = true := by
  obtain ⟨r, h⟩ := h.is
  unfold Program.mayEnter; rw [h, h1, h2]
  have e : stripLifts liftWords ([(Char.ofNat 99), (Char.ofNat 117), (Char.ofNat 116)] :: r) = ([], [(Char.ofNat 99), (Char.ofNat 117), (Char.ofNat 116)] :: r) := by kernel_rfl
  simp [e, h3]
theorem cut : cutAt Tryd.prog := by
  unfold cutAt
  rw [show Tryd.prog.initOrder.toList = _ from toList_of (s := Tryd.prog.initOrder) rfl]
  kernel_rfl
theorem mayEnter_is : Tryd.prog.mayEnter = true := mayEnter_cut cut (by kernel_rfl) (by kernel_rfl) (by kernel_rfl)
theorem words_cons (w r : List Char) (h : ∀ c, c ∈ w → c ≠ (Char.ofNat 32)) : wordsSigns (w ++ (Char.ofNat 32) :: r) = w :: wordsSigns r := by
  induction w with
  | nil => simp [wordsSigns]
  | cons c w ih =>
    have h1 := ih fun c hc => h c (by simp [hc])
    have h2 := h c (by simp)
    rw [List.cons_append]
    conv => lhs; unfold wordsSigns
    split
    · rename_i e; cases e
    · rename_i e; cases e; exact absurd rfl h2
    · rename_i e; cases e; rw [h1]
def mainCheck (L s : List Char) : Bool := L.take 8 == [(Char.ofNat 104), (Char.ofNat 97), (Char.ofNat 114), (Char.ofNat 110), (Char.ofNat 101), (Char.ofNat 115), (Char.ofNat 115), (Char.ofNat 32)] && (L.drop 8).take 64 == s && (L.drop 72).take 1 == [(Char.ofNat 32)] && isSumSigns s && s.all (· != (Char.ofNat 32))
theorem mainIs_of {P : Program} {L s : List Char} {h : String} (hL : P.initOrder = String.ofList L) (hs : h = String.ofList s) (hc : mainCheck L s = true) : P.mainIs = some (true, h.toList) := by
  simp only [mainCheck, Bool.and_eq_true, beq_iff_eq, List.all_eq_true, bne_iff_ne] at hc
  obtain ⟨⟨⟨⟨h1, h2⟩, h3⟩, h4⟩, h5⟩ := hc
  have e : L = [(Char.ofNat 104), (Char.ofNat 97), (Char.ofNat 114), (Char.ofNat 110), (Char.ofNat 101), (Char.ofNat 115), (Char.ofNat 115)] ++ (Char.ofNat 32) :: (s ++ (Char.ofNat 32) :: L.drop 73) := by
    conv => lhs; rw [← List.take_append_drop 8 L, h1]
    have e2 : L.drop 8 = s ++ L.drop 72 := by
      conv => lhs; rw [← List.take_append_drop 64 (L.drop 8), h2, List.drop_drop]
    have e3 : L.drop 72 = (Char.ofNat 32) :: L.drop 73 := by
      conv => lhs; rw [← List.take_append_drop 1 (L.drop 72), h3, List.drop_drop]
      rfl
    rw [e2, e3]; rfl
  unfold Program.mainIs
  rw [toList_of hL, toList_of hs, e, words_cons _ _ (by decide), words_cons _ _ h5]
  show (if (!isSumSigns s) = true then none else _) = _
  rw [h4]
  rw [if_neg (by decide), toList_of (s := "harness") (cs := [(Char.ofNat 104), (Char.ofNat 97), (Char.ofNat 114), (Char.ofNat 110), (Char.ofNat 101), (Char.ofNat 115), (Char.ofNat 115)]) rfl]
  exact if_pos rfl
end Go.Proofs.YtadjkgdlpaddjaaDoor
