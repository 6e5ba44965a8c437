/- The node with a path; TreeFind. -/
import Derived.Test.YtneabdoianmfhaaGreatDoorGF
import Derived.Test.YtneabdoianmfhaaGreatDoorGF
namespace Go.Sf
open Go Go.RowKit Go.Proofs
section
variable {B : Nat} {w : World} {l : List It} {adr : Key → Nat} {kv : Key → Value}
/-- what find hands back -/
noncomputable def findV (l : List It) (adr : Key → Nat) (p : ByteArray) : Value := match findIt l p with | some x => .pointer (some ⟨adr (key x), 0, none⟩) | none => .pointer none
theorem find_no (hg : Grow l) {p : ByteArray} (h : ¬ inDir l p) : findIt l p = none := by
  cases hf : findIt l p with
  | none => rfl
  | some x =>
    obtain ⟨h1, h2⟩ := findIt_some hf
    subst h2
    have hfit := hg.fits h1
    have hok := hfit.1
    simp only [itemOk, Bool.and_eq_true] at hok
    exact absurd ⟨hok.2.1, hfit.2⟩ h
theorem cut_back (p : ByteArray) : (cut (bl p)).dropLast ++ [lastB p].map bl = cut (bl p) := by
  have hne : cut (bl p) ≠ [] := cutG_ne _ _
  conv => rhs; rw [← List.dropLast_concat_getLast hne]
  rw [List.map_cons, List.map_nil, lastB, bl_mkB, List.getLastD_eq_getLast?, List.getLast?_eq_some_getLast hne]
  rfl
theorem lastB_le (p : ByteArray) : (lastB p).size ≤ p.size := by
  have hne : cut (bl p) ≠ [] := cutG_ne _ _
  have hm : bl (lastB p) ∈ cut (bl p) := by
    rw [lastB, bl_mkB, List.getLastD_eq_getLast?, List.getLast?_eq_some_getLast hne]
    exact List.getLast_mem hne
  have := cutG_len (bl p) [] _ hm
  simpa [bl_length] using this
theorem at_find (p : ByteArray) : atV l adr ((cut (bl p)).dropLast ++ [lastB p].map bl) = findV l adr p := by
  rw [cut_back]
  unfold findV
  cases hf : findIt l p with
  | none =>
    refine atV_no ?_
    rintro (h | ⟨z, hz, hk⟩)
    · exact cutG_ne _ _ h
    · exact findIt_none hf z hz (bl_inj (cut_inj hk))
  | some x =>
    obtain ⟨h1, h2⟩ := findIt_some hf
    subst h2
    exact atV_yes (.inr ⟨x, h1, rfl⟩)
set_option maxHeartbeats 1000000 in
theorem nodeFind_c (h : TreeAt B w l adr kv) (hg : Grow l) (hl : l.length ≤ lim) (p : ByteArray) (hp : p.size < lim) (hm : ML w) :
    Calls Tryz.prog 139 #[.pointer (some ⟨adr [], 0, none⟩), .string p] w (Ret (findV l adr p) w) := by
  have H := Lib.hid h; have HG := Lib.hid hg; have HM := Lib.hid hm; have Hl := Lib.hid hl
  clear h hg hm hl
  by_cases hd : inDir l p
  · have Hd := Lib.hid (dirOfV_yes (adr := adr) hd)
    have Hk := Lib.hid hd.2.key
    clear hd
    go_enter Tryz.func139, Tryz.ntmps139
    go_wp2_with fail
    refine (dirOf_c H.out HG.out Hl.out p hp HM.out).mono ?_
    rintro e w1 ⟨rfl, he1⟩
    rw [Hd.out]
    go_wp2_with fail
    refine (at_c (H.out.ext (he1.trans ((Ext.refl _).alloc _))) HG.out Hl.out Hk.out (ps := [lastB p]) (B' := 0) ?_).mono ?_
    · exact ⟨_, 1, rfl, Nat.le_refl _, ⟨by unfold maxLen; omega, fun h => by cases h⟩, by unfold lim; simp, fun k x hk => by
        cases k with
        | zero => simp at hk; subst hk; exact ⟨w1.heap.size, 0, _, rfl, Nat.zero_le _, Blk.new _ _ _, rfl, by exact Nat.lt_of_le_of_lt (lastB_le p) hp⟩
        | succ k => simp at hk⟩
    rintro e w2 ⟨rfl, he2⟩
    rw [at_find]
    go_wp2
    go_ret
    exact ⟨rfl, he1.trans (((Ext.refl _).alloc _).trans he2)⟩
  · have Hd := Lib.hid (dirOfV_no (adr := adr) hd)
    have Hf : Hid (findV l adr p = .pointer none) := Lib.hid (by unfold findV; rw [find_no HG.out hd])
    clear hd
    go_enter Tryz.func139, Tryz.ntmps139
    go_wp2_with fail
    refine (dirOf_c H.out HG.out Hl.out p hp HM.out).mono ?_
    rintro e w1 ⟨rfl, he1⟩
    rw [Hd.out]
    go_wp2
    go_ret
    exact ⟨ret_v Hf.out.symm, he1⟩
end
/-- what TreeFind hands back -/
def FindP (w : World) (o : Option It) (e : Ending) (w' : World) : Prop := ∃ u, e = .returned (.tuple #[u, .bool o.isSome]) ∧ Ext w w' ∧ ItV w.heap.size w' u (o.getD ⟨⟨#[]⟩, false, []⟩)
end Go.Sf
