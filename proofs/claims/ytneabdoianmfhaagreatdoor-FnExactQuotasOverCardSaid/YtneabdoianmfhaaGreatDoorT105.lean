/- What quotas allow: the reference and the program. -/
import Derived.Test.YtneabdoianmfhaaGreatDoorT104
import Derived.Test.YtneabdoianmfhaaGreatDoorW18
namespace Go.Sf
open Go Go.RowKit Go.Proofs Go.Maps
/-- the quota says no -/
noncomputable def qtNo (s : List Hd) (t : List It) (p : ByteArray) (n : Int) (x : Qt) : Bool := within p x.dir && decide (x.most < (usedBut s t x.dir p : Nat) + n)
noncomputable def allowIn (s : List Hd) (t : List It) (l : List Sn) (q : List Qt) (p : ByteArray) (n : Int) : Bool := diskOk s t l && (quotasOk q && (pathOk p && inB n 0 32))
noncomputable def allowOk (s : List Hd) (t : List It) (l : List Sn) (q : List Qt) (p : ByteArray) (n : Int) : Bool := allowIn s t l q p n && q.all fun x => !qtNo s t p n x
theorem allow_no {s : List Hd} {t : List It} {l : List Sn} {q : List Qt} {p : ByteArray} {n : Int} (h : allowIn s t l q p n = false) : allowOk s t l q p n = false := by unfold allowOk; rw [h]; rfl
theorem usedBut_le {s : List Hd} (hs : StoreOk s) {t : List It} (hf : ∀ x, x ∈ t → IdsFit s x.ids) (h12 : t.length ≤ 12) (d but : ByteArray) : usedBut s t d but ≤ 384 := by
  have := usedb_take_le hs hf h12 d but t.length
  rwa [List.take_of_length_le (Nat.le_refl _)] at this
theorem usedT_le {s : List Hd} (hs : StoreOk s) {t : List It} (hf : ∀ x, x ∈ t → IdsFit s x.ids) (h12 : t.length ≤ 12) (d : ByteArray) : usedT s t d ≤ 384 := by
  have := used_take_le hs hf h12 d t.length
  rwa [List.take_of_length_le (Nat.le_refl _)] at this
theorem used_split (s : List Hd) (d p : ByteArray) : ∀ t : List It, Apart t → usedT s t d = usedBut s t d p + (match findIt t p with | some y => useOf s d y | none => 0) := by
  intro t
  induction t with
  | nil => intro _; rfl
  | cons x t ih =>
    intro h
    obtain ⟨hx, ht⟩ := List.pairwise_cons.1 h
    have h1 := ih ht
    unfold usedT usedBut at *
    simp only [List.map_cons, List.sum_cons]
    by_cases e : x.path = p
    · have hf : findIt t p = none := by
        unfold findIt
        rw [List.find?_eq_none]
        intro y hy
        have := hx y hy
        rw [e] at this
        simp [pathIs, eqb_iff]
        exact fun h => this h.symm
      have hf2 : findIt (x :: t) p = some x := by unfold findIt; rw [List.find?_cons_of_pos]; simp [pathIs, eqb_iff, e]
      rw [hf] at h1
      rw [hf2]
      have hb : useBut s d p x = 0 := by unfold useBut; rw [if_pos e]
      simp only at h1 ⊢
      omega
    · have hf2 : findIt (x :: t) p = findIt t p := by unfold findIt; rw [List.find?_cons_of_neg]; simp [pathIs, eqb_iff, e]
      have hb : useBut s d p x = useOf s d x := by unfold useBut; rw [if_neg e]
      rw [hf2, hb]
      omega
/-- how large the file at p is -/
noncomputable def sizeAt (s : List Hd) (t : List It) (p : ByteArray) : Nat := match findIt t p with | some y => (loadOf s y.ids).length | none => 0
theorem used_at {s : List Hd} {t : List It} (ht : treeOk t = true) {d p : ByteArray} (hw : within p d = true) : usedT s t d = usedBut s t d p + sizeAt s t p := by
  have h := used_split s d p t (grow_set.1 (treeOk_iff'.1 ht).2).1.apart
  rw [h]
  unfold sizeAt
  cases hf : findIt t p with
  | none => rfl
  | some y =>
    have := (findIt_some hf).2
    simp only [useOf, this, hw, if_true]
theorem sizeAt_le {s : List Hd} (hs : StoreOk s) {t : List It} (hf : ∀ x, x ∈ t → IdsFit s x.ids) (p : ByteArray) : sizeAt s t p ≤ 32 := by
  unfold sizeAt
  cases h : findIt t p with
  | none => exact Nat.zero_le _
  | some y => exact load32 hs (hf y (findIt_some h).1)
/-- the program's one error -/
def EB (a : Addr) (w : World) : Prop := w.cell? ⟨0, 0, none⟩ = some (.iface 327 (.pointer (some a)))
theorem EB.ext {a : Addr} {w w' : World} (h : EB a w) (e : Ext w w') : EB a w' := e.cell h
set_option maxHeartbeats 1000000 in
theorem check_c {a : Addr} (d : ByteArray) (m n : Int) (w : World) (hE : EB a w) : Calls Tryz.prog 92 #[.agg #[.string d, .int .i64 m], .int .i64 n] w (Ret (if m < n then .iface 327 (.pointer (some a)) else .nilIface) w) := by
  have e0 : Ext w (w.alloc (.cells #[.string d, .int .i64 m] 160)) := (Ext.refl w).alloc _
  have h1 : w.cell? ⟨0, 0, none⟩ = some (.iface 327 (.pointer (some a))) := hE
  have h2 := e0.cell h1
  by_cases hm : m < n
  · rw [if_pos hm]
    go_enter Tryz.func92, Tryz.ntmps92
    go_wp2
    go_ret
    exact ⟨rfl, e0⟩
  · rw [if_neg hm]
    go_enter Tryz.func92, Tryz.ntmps92
    go_wp2
    go_ret
    exact ⟨rfl, e0⟩
end Go.Sf
