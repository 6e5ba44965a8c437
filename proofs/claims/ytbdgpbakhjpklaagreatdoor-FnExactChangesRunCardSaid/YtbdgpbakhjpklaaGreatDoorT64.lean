/- The sorted keys of a map of items are its paths, in order. -/
import Derived.Test.YtbdgpbakhjpklaaGreatDoorT63
import Derived.Test.YtbdgpbakhjpklaaGreatDoorShelfI
namespace Go.Sf
open Go Go.RowKit Go.Proofs Go.Maps Go.Sort
theorem lt8_lt : ∀ {a b : List UInt8}, lt8 a b = true → a < b := by
  intro a
  induction a with
  | nil =>
    intro b h
    cases b with
    | nil => cases h
    | cons y b => exact List.nil_lt_cons y b
  | cons x a ih =>
    intro b h
    cases b with
    | nil => cases h
    | cons y b =>
      rw [lt8_cons] at h
      rw [List.cons_lt_cons_iff]
      simp only [Bool.or_eq_true, decide_eq_true_eq, Bool.and_eq_true, beq_iff_eq] at h
      rcases h with h | ⟨h1, h2⟩
      · exact .inl h
      · exact .inr ⟨h1, ih h2⟩
theorem srt_keys {S : List It} (h : Srt S) : (S.map fun x => bl x.path).mergeSort leB = S.map fun x => bl x.path := by
  refine List.mergeSort_of_pairwise (List.pairwise_map.2 (List.Pairwise.imp (fun {x y} hxy => ?_) h))
  rw [blt_eq] at hxy
  exact decide_eq_true (List.le_of_lt (lt8_lt hxy))
theorem map_keys {w0 w : World} {b n : Nat} {S : List It} (hS : Srt S) (h : MapIs w0 b n S w) : ∃ D : DataW Value, w.ownsMap Tryz.prog 9 rV b n D ∧ (S.map fun x => bl x.path).Perm (strKeys D) := by
  obtain ⟨M, ⟨D, h1, h2⟩, h3⟩ := h
  refine ⟨D, h1, ?_⟩
  obtain ⟨es, hD, hp⟩ := h1.tidy lawS
  obtain ⟨es', hD', hk⟩ := h1.keysOf
  rw [hD] at hD'
  cases hD'
  have hks : ∀ p ∈ es, ∃ x, p.1 = .string x := fun p hp' => by
    obtain ⟨key, hkey⟩ := hk p hp'
    obtain ⟨x, -, hx, -⟩ := Maps.keyOf_str Tryz.underlying9 hkey
    exact ⟨x, hx⟩
  rw [hD]
  refine perm_strKeys hp hks ?_ fun x => ?_
  · refine List.pairwise_map.2 (List.Pairwise.imp (fun {x y} hxy e => ?_) hS)
    rw [bl_inj e, blt_irr] at hxy
    cases hxy
  · rw [← hD, (h2 (.string x) (by simp [WideAt.IsKeyLit])).1]
    have h4 := h3 (mkB x)
    have e : kL (mkB x) = .string x := rfl
    rw [e] at h4
    constructor
    · intro hx
      obtain ⟨y, hy, rfl⟩ := List.mem_map.1 hx
      have hf : findIt S (mkB (bl y.path)) = some y := (find_iff hS).2 ⟨hy, rfl⟩
      obtain ⟨u, hu, -⟩ := h4.2 y hf
      rw [hu]; rfl
    · intro hx
      cases hf : findIt S (mkB x) with
      | none => rw [h4.1 hf] at hx; cases hx
      | some y =>
        obtain ⟨k1, k2⟩ := findIt_some hf
        exact List.mem_map.2 ⟨y, k1, by rw [k2]; rfl⟩
theorem encS_bl (x : It) : encStr (bl x.path) = .string x.path := rfl
/-- maps.Keys -/
theorem Keys_c (b : Nat) (w : World) : Calls Tryz.prog 75 #[.map (some b)] w (fun e w' => e = .returned (.func (.func 109) #[] #[.pointer (some ⟨w.heap.size, 0, none⟩)]) ∧ w' = w.alloc (.cells #[.map (some b)] 98)) :=
  callsIn_wide.1 (Tryz.maps_Keys_75 (some b) w)
/-- slices.Sorted of the keys -/
theorem Sorted_c {w0 w : World} {b n : Nat} {S : List It} (hS : Srt S) (h : MapIs w0 b n S w) (hn : n ≤ lim) (hl : ∀ x, x ∈ S → x.path.size < lim) :
    Calls Tryz.prog 74 #[.func (.func 109) #[] #[.pointer (some ⟨w.heap.size, 0, none⟩)]] (w.alloc (.cells #[.map (some b)] 98))
      (RetP (fun v w' => Strs w.heap.size w' v (S.map (·.path))) (w.alloc (.cells #[.map (some b)] 98))) := by
  obtain ⟨D, h1, h2⟩ := map_keys hS h
  have hsz := h1.size_le
  unfold lim at hn
  refine (callsIn_wide.1 (Tryz.slices_Sorted_keys_74_75 b n D rV w h1 (by unfold maxLen; omega) (by omega))).mono ?_
  rintro e w' ⟨v, ss, rfl, hp, hrow, -, hb⟩
  have e1 : ss.mergeSort leB = S.map fun x => bl x.path := by rw [mergeSort_of_perm (hp.trans h2.symm), srt_keys hS]
  have e2 : (ss.mergeSort fun x y => decide (x ≤ y)) = S.map fun x => bl x.path := e1
  have e3 : ss.length = (S.map (·.path)).length := by
    have := congrArg List.length e1
    simpa using this
  rw [e2, e3] at hrow
  have hlen : S.length ≤ 4194304 := by
    have := h2.length_eq
    obtain ⟨es, hD, -⟩ := h1.tidy lawS
    rw [hD] at this hsz
    simp [strKeys, Maps.size] at this hsz
    omega
  refine ⟨v, rfl, ?_, hb⟩
  refine SlOf.of_own (E := EStr) hrow (by simp) (by simpa [lim] using hlen) fun k x cs hx hj => ?_
  rw [List.getElem?_map, Option.map_eq_some_iff] at hx
  obtain ⟨y, hy, rfl⟩ := hx
  have := hj 0 (by omega)
  simp only [Nat.mul_one, Nat.add_zero, List.getElem?_map, hy, Option.map_some] at this
  rw [encS_bl] at this
  exact ⟨by rw [Nat.mul_one]; exact this, hl y (List.mem_of_getElem? hy)⟩
end Go.Sf
