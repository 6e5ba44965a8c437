/- A node of a tree gets other ids. -/
import Derived.Test.YtoljibhdakacjaaGreatDoorGE
import Derived.Test.YtoljibhdakacjaaGreatDoorP36
namespace Go.Sf
open Go Go.RowKit
/-- a file put in place of a file -/
theorem over_ok {t : List It} {x y : It} (ht : treeOk t = true) (hx : itemOk x = true) (hf : findIt t x.path = some y) (hyd : y.dir = false) : treeOk (putIt x t) = true := by
  obtain ⟨hl, hs, hh⟩ := tree_set.1 ht
  obtain ⟨a, b, e1, e2, hr⟩ := put_over (x := x) ht hf
  obtain ⟨hym, hyp⟩ := findIt_some hf
  have hk : key x = key y := by unfold key; rw [hyp]
  refine tree_set.2 ⟨?_, putIt_srt' hs, fun z hz => ?_⟩
  · rw [e2]; rw [e1] at hl
    simp only [List.length_append, List.length_cons] at hl ⊢
    exact hl
  · have up : ∀ q, Home t q → Home (putIt x t) q := fun q hq => hq.imp_right fun ⟨d, hd, hk', hdd⟩ => ⟨d, (mem_putIt hs).2 (.inr ⟨hd, fun e => by
      have : d = y := by
        have h1 := tree_find ht hd
        rw [e, hf] at h1
        exact (Option.some.inj h1).symm
      rw [this, hyd] at hdd
      cases hdd⟩), hk', hdd⟩
    rcases (mem_putIt hs).1 hz with rfl | ⟨hz, -⟩
    · refine ⟨hx, up _ ?_⟩
      have := (hh y hym).2
      unfold Home at this ⊢
      rwa [hk]
    · exact ⟨(hh z hz).1, up _ (hh z hz).2⟩
theorem TreeAt.setIds {B : Nat} {w : World} {l a b : List It} {adr : Key → Nat} {kv : Key → Value} {x y : It} {u : Value} (h : TreeAt B w l adr kv) (hl : l = a ++ y :: b) (hp : x.path = y.path) (hd : x.dir = y.dir)
    (hu : Ints B w u x.ids) (hap : ∀ z, z ∈ a ++ b → z.path ≠ y.path) : TreeAt B (w.setCell ⟨adr (key y), 2, none⟩ u) (a ++ x :: b) adr kv := by
  have hk : key x = key y := by unfold key; rw [hp]
  have hym : y ∈ l := by rw [hl]; simp
  obtain ⟨yB, yO, uy, yb, yi⟩ := h.nodes y hym
  have hkt : KeepsT 92 w (w.setCell ⟨adr (key y), 2, none⟩ u) := KeepsT.set (i := 2) yb u rfl
  have hkids : ∀ k, ((kidsOf (a ++ x :: b) k).map fun z => adr (key z)) = (kidsOf l k).map fun z => adr (key z) := fun k => by
    rw [hl]
    unfold kidsOf
    rw [List.filter_append, List.filter_append]
    by_cases e : (key y).dropLast = k
    · rw [List.filter_cons_of_pos (by simp [kin, hk, e]), List.filter_cons_of_pos (by simp [kin, e])]
      simp only [List.map_append, List.map_cons, hk]
    · rw [List.filter_cons_of_neg (by simp [kin, hk, e]), List.filter_cons_of_neg (by simp [kin, e])]
  have hkey : ∀ k, isKey (a ++ x :: b) k → isKey l k := fun k hq => by
    rcases hq with rfl | ⟨z, hz, rfl⟩
    · exact .inl rfl
    · rcases List.mem_append.1 hz with hz | hz
      · exact .inr ⟨z, by rw [hl]; simp [hz], rfl⟩
      · rcases List.mem_cons.1 hz with rfl | hz
        · exact .inr ⟨y, hym, hk.symm⟩
        · exact .inr ⟨z, by rw [hl]; simp [hz], rfl⟩
  have old : ∀ q dir ids, isKey l q → q ≠ key y → Node B w l adr kv q dir ids → Node B (w.setCell ⟨adr (key y), 2, none⟩ u) (a ++ x :: b) adr kv q dir ids := fun q dir ids hq hne ⟨a1, a2, uq, a3, a4⟩ => by
    refine ⟨a1, ?_, uq, a3.far (p := ⟨adr (key y), 2, none⟩) (fun e => hne (h.inj _ _ hq (.inr ⟨y, hym, rfl⟩) e)) u, a4.keepT hkt (by decide)⟩
    rw [hkids]
    exact a2.keepT hkt (by decide) fun _ _ _ g => g
  refine ⟨old _ _ _ (.inl rfl) (fun e => key_ne y e.symm) h.root, fun z hz => ?_, fun k k' h1 h2 e => h.inj _ _ (hkey k h1) (hkey k' h2) e, fun k k' g h1 h2 e1 e2 => h.sep _ _ _ (hkey k h1) (hkey k' h2) e1 e2⟩
  have sides : ∀ z, z ∈ a ++ b → Node B (w.setCell ⟨adr (key y), 2, none⟩ u) (a ++ x :: b) adr kv (key z) z.dir z.ids := fun z hz => by
    have hzl : z ∈ l := by
      rw [hl]
      rcases List.mem_append.1 hz with hz | hz
      · simp [hz]
      · simp [hz]
    exact old _ _ _ (.inr ⟨z, hzl, rfl⟩) (fun e => hap z hz (key_path e)) (h.nodes z hzl)
  rcases List.mem_append.1 hz with hz | hz
  · exact sides z (by simp [hz])
  · rcases List.mem_cons.1 hz with rfl | hz
    · rw [hk, hd]
      refine ⟨yB, ?_, u, by simpa using yb.set_ 2 u, hu.keepT hkt (by decide)⟩
      rw [hkids]
      exact yO.keepT hkt (by decide) fun _ _ _ g => g
    · exact sides z (by simp [hz])
end Go.Sf
