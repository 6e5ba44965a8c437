/- The node with a path; TreeFind. -/
import Derived.Test.YtdnnojghjnjnfaaGreatDoorGF
import Derived.Test.YtdnnojghjnjnfaaGreatDoorGF
namespace Go.Sf
open Go Go.RowKit Go.Proofs
section
variable {B : Nat} {w : World} {l : List It} {adr : Key → Nat} {kv : Key → Value}
/-- what find hands back -/
noncomputable def findV (l : List It) (adr : Key → Nat) (p : ByteArray) : Value := match findIt l p with | some x => .pointer (some ⟨adr (key x), 0, none⟩) | none => .pointer none
theorem find_no (hg : Grow l) {p : ByteArray} (h : ¬ inDir l p) : findIt l p = none := by
  cases hf : findIt l p with
  | none => rfl
  | some x =>
    obtain ⟨h1, h2⟩ := findIt_some hf
    subst h2
    have hfit := hg.fits h1
    have hok := hfit.1
    simp only [itemOk, Bool.and_eq_true] at hok
    exact absurd ⟨hok.2.1, hfit.2⟩ h
theorem cut_back (p : ByteArray) : (cut (bl p)).dropLast ++ [lastB p].map bl = cut (bl p) := by
  have hne : cut (bl p) ≠ [] := cutG_ne _ _
  conv => rhs; rw [← List.dropLast_concat_getLast hne]
  rw [List.map_cons, List.map_nil, lastB, bl_mkB, List.getLastD_eq_getLast?, List.getLast?_eq_some_getLast hne]
  rfl
theorem lastB_le (p : ByteArray) : (lastB p).size ≤ p.size := by
  have hne : cut (bl p) ≠ [] := cutG_ne _ _
  have hm : bl (lastB p) ∈ cut (bl p) := by
    rw [lastB, bl_mkB, List.getLastD_eq_getLast?, List.getLast?_eq_some_getLast hne]
    exact List.getLast_mem hne
  have := cutG_len (bl p) [] _ hm
  simpa [bl_length] using this
theorem at_find (p : ByteArray) : atV l adr ((cut (bl p)).dropLast ++ [lastB p].map bl) = findV l adr p := by
  rw [cut_back]
  unfold findV
  cases hf : findIt l p with
  | none =>
    refine atV_no ?_
    rintro (h | ⟨z, hz, hk⟩)
    · exact cutG_ne _ _ h
    · exact findIt_none hf z hz (bl_inj (cut_inj hk))
  | some x =>
    obtain ⟨h1, h2⟩ := findIt_some hf
    subst h2
    exact atV_yes (.inr ⟨x, h1, rfl⟩)
set_option maxHeartbeats 1000000 in
theorem nodeFind_c (h : TreeAt B w l adr kv) (hg : Grow l) (hl : l.length ≤ lim) (p : ByteArray) (hp : p.size < lim) (hm : ML w) :
    Calls Tryz.prog 59 #[.pointer (some ⟨adr [], 0, none⟩), .string p] w (Ret (findV l adr p) w) := by
  have H := Lib.hid h; have HG := Lib.hid hg; have HM := Lib.hid hm; have Hl := Lib.hid hl
  clear h hg hm hl
  by_cases hd : inDir l p
  · have Hd := Lib.hid (dirOfV_yes (adr := adr) hd)
    have Hk := Lib.hid hd.2.key
    clear hd
    go_enter Tryz.func59, Tryz.ntmps59
    go_wp2_with fail
    refine (dirOf_c H.out HG.out Hl.out p hp HM.out).mono ?_
    rintro e w1 ⟨rfl, he1⟩
    rw [Hd.out]
    go_wp2_with fail
    refine (at_c (H.out.ext (he1.trans ((Ext.refl _).alloc _))) HG.out Hl.out Hk.out (ps := [lastB p]) (B' := 0) ?_).mono ?_
    · exact ⟨_, 1, rfl, Nat.le_refl _, ⟨by unfold maxLen; omega, fun h => by cases h⟩, by unfold lim; simp, fun k x hk => by
        cases k with
        | zero => simp at hk; subst hk; exact ⟨w1.heap.size, 0, _, rfl, Nat.zero_le _, Blk.new _ _ _, rfl, by exact Nat.lt_of_le_of_lt (lastB_le p) hp⟩
        | succ k => simp at hk⟩
    rintro e w2 ⟨rfl, he2⟩
    rw [at_find]
    go_wp2
    go_ret
    exact ⟨rfl, he1.trans (((Ext.refl _).alloc _).trans he2)⟩
  · have Hd := Lib.hid (dirOfV_no (adr := adr) hd)
    have Hf : Hid (findV l adr p = .pointer none) := Lib.hid (by unfold findV; rw [find_no HG.out hd])
    clear hd
    go_enter Tryz.func59, Tryz.ntmps59
    go_wp2_with fail
    refine (dirOf_c H.out HG.out Hl.out p hp HM.out).mono ?_
    rintro e w1 ⟨rfl, he1⟩
    rw [Hd.out]
    go_wp2
    go_ret
    exact ⟨ret_v Hf.out.symm, he1⟩
end
/-- what TreeFind hands back -/
def FindP (w : World) (o : Option It) (e : Ending) (w' : World) : Prop := ∃ u, e = .returned (.tuple #[u, .bool o.isSome]) ∧ Ext w w' ∧ ItV w.heap.size w' u (o.getD ⟨⟨#[]⟩, false, []⟩)
set_option maxHeartbeats 1000000 in
theorem TreeFind_c {B : Nat} {v : Value} {l : List It} (w : World) (h : Its B w v l) (ht : treeOk l = true) (p : ByteArray) (hp : p.size < lim) (hm : ML w) :
    Calls Tryz.prog 29 #[v, .string p] w (FindP w (findIt l p)) := by
  have H := Lib.hid h; have Ht := Lib.hid ht; have HM := Lib.hid hm
  clear h ht hm
  obtain ⟨hl, hg⟩ := treeOk_iff'.1 Ht.out
  have HG := Lib.hid hg; clear hg
  go_enter Tryz.func29, Tryz.ntmps29
  go_wp2_with fail
  refine (openTree_c _ (H.out.ext ((Ext.refl _).alloc _)) (HM.out.ext ((Ext.refl _).alloc _))).mono ?_
  rintro e w1 ⟨he1, (⟨hf, -⟩ | ⟨-, adr, kv, rfl, hT⟩)⟩
  · rw [Ht.out] at hf; cases hf
  have HT := Lib.hid hT; have HE := Lib.hid (((Ext.refl w).alloc _).trans he1)
  clear hT
  go_wp2_with fail
  refine (nodeFind_c HT.out HG.out (by unfold lim; omega) p hp (HM.out.ext HE.out)).mono ?_
  rintro e w2 ⟨rfl, he2⟩
  have hb : Blk w2 w.heap.size 47 #[.string ⟨#[]⟩, .bool false, .slice none 0 0] := (Blk.new w 47 #[.string ⟨#[]⟩, .bool false, .slice none 0 0]).ext (he1.trans he2)
  have HE2 := Lib.hid (HE.out.trans he2)
  have HT2 := Lib.hid (HT.out.ext he2)
  have g0 := fun W (e : Ext w2 W) => (hb.ext e).cell 0; have g1 := fun W (e : Ext w2 W) => (hb.ext e).cell 1; have g2 := fun W (e : Ext w2 W) => (hb.ext e).cell 2
  have f0 := fun W (e : Ext w2 W) => (hb.ext e).frozen 0; have f1 := fun W (e : Ext w2 W) => (hb.ext e).frozen 1; have f2 := fun W (e : Ext w2 W) => (hb.ext e).frozen 2
  simp at g0 g1 g2
  have Hb := Lib.hid hb
  clear hb he1 he2
  cases hf : findIt l p with
  | none =>
    have Hv : findV l adr p = .pointer none := by unfold findV; rw [hf]
    rw [Hv]
    have c0 := g0 w2 (Ext.refl _); have c1 := g1 w2 (Ext.refl _); have c2 := g2 w2 (Ext.refl _)
    have d0 := f0 w2 (Ext.refl _); have d1 := f1 w2 (Ext.refl _); have d2 := f2 w2 (Ext.refl _)
    clear g0 g1 g2 f0 f1 f2
    go_wp2
    have B3 := ((Hb.out.set_ 0 (.string ⟨#[]⟩)).set_ 1 (.bool false)).set_ 2 (.slice none 0 0)
    have E3 := ((HE2.out.setCell (p := ⟨w.heap.size, 0, none⟩) (Nat.le_refl _) (.string ⟨#[]⟩)).setCell (p := ⟨w.heap.size, 1, none⟩) (Nat.le_refl _) (.bool false)).setCell (p := ⟨w.heap.size, 2, none⟩) (Nat.le_refl _) (.slice none 0 0)
    simp at B3
    generalize ((w2.setCell ⟨w.heap.size, 0, none⟩ (.string ⟨#[]⟩)).setCell ⟨w.heap.size, 1, none⟩ (.bool false)).setCell ⟨w.heap.size, 2, none⟩ (.slice none 0 0) = w3 at *
    have z0 := B3.cell 0; have z1 := B3.cell 1; have z2 := B3.cell 2
    simp at z0 z1 z2
    rw [hf]
    exact bodyPost_ret (v := .tuple #[.agg #[.string ⟨#[]⟩, .bool false, .slice none 0 0], .bool false]) (by simp [results, Tryz.results29, go_sem, z0, z1, z2]) rfl ⟨_, rfl, E3, ⟨_, rfl, by unfold lim; decide, SlOf.nil _ _ _ _ _⟩⟩
  | some x =>
    have Hv : findV l adr p = .pointer (some ⟨adr (key x), 0, none⟩) := by unfold findV; rw [hf]
    rw [Hv]
    obtain ⟨hx, hxp⟩ := findIt_some hf
    obtain ⟨hB, -, u, hnb, hu⟩ := HT2.out.nodes x hx
    have n1 := fun W (e : Ext w2 W) => (hnb.ext e).cell 1; have n2 := fun W (e : Ext w2 W) => (hnb.ext e).cell 2
    simp at n1 n2
    obtain ⟨Au, cu, rfl, hU⟩ := hu
    have HU := Lib.hid hU
    clear hU hnb
    go_wp2_with fail
    refine wp_region_hold (fun W => Ext w2 W) 9 [(0, true), (1, true), (2, true), (3, true), (4, true), (5, true), (6, true), (7, true), (8, true)] (by kernel_rfl) (by kernel_rfl) ?_ ?_
    · show Ext _ _; (repeat' (first | exact Ext.refl _ | assumption | refine Ext.alloc ?_ _ | refine Ext.drew ?_ | refine Ext.drewN ?_ _ | refine Ext.trans ?_ (by assumption)))
    (repeat (first | (apply hw_read (by rfl) (by rfl); (· (intro W hW; (try dsimp only at hW); go_simp; (first | done | rfl | (rw [if_pos] <;> first | omega | rfl)))); (try simp only [Act.put, List.setIfInBounds_toArray, List.set_cons_zero, List.set_cons_succ])) | (refine hw_skip (by rfl) (by rfl) ?_; (try simp only [Act.put, List.setIfInBounds_toArray, List.set_cons_zero, List.set_cons_succ]))))
    (refine hw_nil ?_; (try simp only [List.drop_succ_cons, List.drop_zero]))
    go_wp2
    refine NoPanic.normal ?_
    (try dsimp only [Exit.then])
    go_wp2
    have B1 := Hb.out.set_ 0 (.string p)
    have B2 := B1.set_ 1 (.bool x.dir)
    have B3 := B2.set_ 2 (.slice Au x.ids.length cu)
    have k := (KeepsT.set (i := 0) Hb.out (.string p) rfl).trans ((KeepsT.set (i := 1) B1 (.bool x.dir) rfl).trans (KeepsT.set (i := 2) B2 (.slice Au x.ids.length cu) rfl))
    have E3 := ((HE2.out.setCell (p := ⟨w.heap.size, 0, none⟩) (Nat.le_refl _) (.string p)).setCell (p := ⟨w.heap.size, 1, none⟩) (Nat.le_refl _) (.bool x.dir)).setCell (p := ⟨w.heap.size, 2, none⟩) (Nat.le_refl _) (.slice Au x.ids.length cu)
    have hI : Ints w.heap.size _ (.slice Au x.ids.length cu) x.ids := SlOf.mono (SlOf.keepT (show SlOf _ _ _ _ w2 (.slice Au x.ids.length cu) x.ids from ⟨Au, cu, rfl, HU.out⟩) k (by decide) (fun _ _ _ h => h)) (by simp) (fun _ _ _ => rfl) (fun _ _ _ h => h)
    simp at B3
    clear k B1 B2 g0 g1 g2 f0 f1 f2 n1 n2
    generalize ((w2.setCell ⟨w.heap.size, 0, none⟩ (.string p)).setCell ⟨w.heap.size, 1, none⟩ (.bool x.dir)).setCell ⟨w.heap.size, 2, none⟩ (.slice Au x.ids.length cu) = w3 at *
    have z0 := (B3.ext (Ext.refl w3).drew).cell 0; have z1 := (B3.ext (Ext.refl w3).drew).cell 1; have z2 := (B3.ext (Ext.refl w3).drew).cell 2
    simp at z0 z1 z2
    have hq : (some x : Option It).getD ⟨⟨#[]⟩, false, []⟩ = x := rfl
    rw [hf]
    exact bodyPost_ret (v := .tuple #[.agg #[.string p, .bool x.dir, .slice Au x.ids.length cu], .bool true]) (by simp [results, Tryz.results29, go_sem, z0, z1, z2]) rfl ⟨_, rfl, E3.drew, by rw [hq, ← hxp]; exact ⟨_, rfl, by rw [hxp]; exact hp, hI.ext (Ext.refl w3).drew⟩⟩
end Go.Sf
