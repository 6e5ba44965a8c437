/- Files of volumes are read: the reference's way. -/
import Derived.Test.YtpldhlpegpgmcaaDoorGQ
import Derived.Test.YtpldhlpegpgmcaaDoorGC
import Derived.Test.YtpldhlpegpgmcaaDoorHE
/-! Files of volumes are read: the reference's way. -/
namespace Go.Sf
open Go Go.RowKit Go.Proofs
def fileOf (t : List It) (p : ByteArray) : Option It := (findIt t p).bind fun x => if x.dir = true then none else some x
theorem its_sub {B b o c i : Nat} {w : World} {t : List It} {x : It} (h : SlIn B 34 3 (EIt B) w (some ⟨b, o, none⟩) c t) (hx : t[i]? = some x) : Its B w (.slice (some ⟨b, o + i * 3, none⟩) 1 (c - i)) [x] := by
  obtain ⟨h1, h2, h3, h4⟩ := h
  have hi := lt_of_get hx
  obtain ⟨b', o', cs, e, hB, hb, he⟩ := h4 i x hx
  cases e
  refine ⟨_, c - i, rfl, by simp; omega, ⟨by omega, fun e => by cases e⟩, by unfold lim; simp, fun k y hy => ?_⟩
  cases k with
  | succ k => simp at hy
  | zero =>
    simp only [List.getElem?_cons_zero, Option.some.injEq] at hy
    subst hy
    exact ⟨b, o + i * 3, cs, rfl, hB, hb, by simpa using he⟩
set_option maxRecDepth 4000 in
set_option maxHeartbeats 2000000 in
theorem l11Ids_c {B : Nat} {v : Value} {t : List It} (p : ByteArray) (w : World) (h : Its B w v t) : Calls Tryd.prog 60 #[v, .string p] w (RetP (fun r w' => Its 0 w' r (fileOf t p).toList) w) := by
  have H := Lib.hid h
  have Ca := l5At_c p w h
  obtain ⟨A, c, rfl, hA⟩ := h
  have hl := hA.2.2.1
  have hlc := hA.1
  unfold lim at hl
  rcases atG_find (pathIs p) t 0 with ⟨f1, f2⟩ | ⟨i, y, f1, f2, f3, f4, -⟩
  · rw [atPath, f2] at Ca
    have Hr : Hid (fileOf t p = none) := Lib.hid (by unfold fileOf; rw [show findIt t p = none from f1]; rfl)
    clear f1 f2 hA
    go_enter Tryd.func60, Tryd.ntmps60
    go_wp2_with (go_at_call 41; refine Ca.mono ?_; rintro e w2 ⟨rfl, he2⟩)
    go_ret
    exact ⟨_, rfl, by rw [Hr.out]; exact SlOf.empty _ _ _ _ _ _ _ (Nat.zero_le _) (fun _ => rfl), he2.alloc _⟩
  · rw [atPath, f4] at Ca
    simp only [Nat.zero_add] at Ca
    have hi0 : ¬ ((i : Int) < 0) := by omega
    have hil := lt_of_get f1
    obtain ⟨b, o, u, rfl, -, -, -, -, -, hc1, -⟩ := Its.at_ hA f1
    have HA := Lib.hid hA; have F1 := Lib.hid f1
    have hf : fileOf t p = if y.dir = true then none else some y := by unfold fileOf; rw [show findIt t p = some y from f3]; rfl
    have Hf := Lib.hid hf
    obtain ⟨yp, yd, yi⟩ := y
    simp only at hc1
    generalize hn : t.length = n at *
    clear f1 f2 f3 f4 hA hf
    cases yd with
    | true =>
      have Hr : Hid (fileOf t p = none) := Lib.hid (by rw [Hf.out]; rfl)
      go_enter Tryd.func60, Tryd.ntmps60
      go_wp2_with (go_at_call 41; refine Ca.mono ?_; rintro e w2 ⟨rfl, he2⟩; have q1 := hc1 w2 he2)
      go_ret
      exact ⟨_, rfl, by rw [Hr.out]; exact SlOf.empty _ _ _ _ _ _ _ (Nat.zero_le _) (fun _ => rfl), he2.alloc _⟩
    | false =>
      have Hr : Hid (fileOf t p = some ⟨yp, false, yi⟩) := Lib.hid (by rw [Hf.out]; rfl)
      have hw1 : IntKind.i64.wrap ((i : Int) + 1) = (i : Int) + 1 := IntWalk.i64_in _ (by omega)
      have hic : i + 1 ≤ c := by omega
      have hic' : (i : Int) + 1 ≤ (c : Int) := by omega
      have hp1 : (0 : Int) ≤ (i : Int) + 1 := by omega
      have hn1 : ((i : Int) + 1).toNat = i + 1 := by omega
      have hii : (i : Int) ≤ (i : Int) + 1 := by omega
      have hcne : c - i ≠ 0 := by omega
      have hcni : ¬ c = i := by omega
      have hd1 : i + 1 - i = 1 := by omega
      go_enter Tryd.func60, Tryd.ntmps60
      go_wp2_with (go_at_call 41; refine Ca.mono ?_; rintro e w2 ⟨rfl, he2⟩; have q1 := hc1 w2 he2)
      go_ret
      refine ⟨_, rfl, ?_, he2⟩
      rw [Hr.out]
      exact ((its_sub HA.out F1.out).ext he2).keep (Nat.zero_le _) (fun _ _ _ => rfl)
end Go.Sf

/-! Snapshots are compared. -/
namespace Go.Sf
open Go Go.RowKit Go.Proofs


end Go.Sf

/-! Disks: what is asked of them; the reference's way. -/
namespace Go.Sf
open Go Go.RowKit Go.Proofs
end Go.Sf

/-! What stays where only rows of one element type are written; disks that are worked on, in memory. -/
namespace Go.Sf
open Go Go.RowKit Go.Proofs Go.Maps
/-- all objects but cells of type t are as they were -/
def Keep1 (t : TypeId) (w w' : World) : Prop := ∀ (b : Nat) (o : Obj), w.heap[b]? = some o → (∀ cs, o ≠ Obj.cells cs t (0, 0)) → w'.heap[b]? = some o
theorem Keep1.trans {t : TypeId} {a b c : World} (h : Keep1 t a b) (k : Keep1 t b c) : Keep1 t a c := fun i o hi ho => k i o (h i o hi ho) ho
theorem Keep1.keepsT {t : TypeId} {w w' : World} (h : Keep1 t w w') : KeepsT t w w' := fun b t' cs hne hb => h b _ hb (by intro cs' e; cases e; exact hne rfl)
theorem Keep1.set {t : TypeId} {w : World} {b i : Nat} {cs : Array Value} (hb : Blk w b t cs) (u : Value) : Keep1 t w (w.setCell ⟨b, i, none⟩ u) := fun j o hj ho => by
  refine (Below.heap_setCell w ⟨b, i, none⟩ u j ?_).trans hj
  rintro rfl
  unfold Blk at hb
  rw [hb] at hj
  exact ho cs (Option.some.inj hj).symm
end Go.Sf

/-! Disks, plain: what is asked of them in the program's order; what is read of them. -/
namespace Go.Sf
open Go Go.RowKit Go.Proofs
end Go.Sf
