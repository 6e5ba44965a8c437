/- slices.Insert of a node ahead of others. -/
import Derived.Test.YtoljibhdakacjaaGreatDoorGU
import Derived.Shelf.Spec.SlicesInsertGrow
import Derived.Test.YtoljibhdakacjaaGreatDoorGF
import Derived.Test.YtoljibhdakacjaaGreatDoorHG
import Derived.Test.YtoljibhdakacjaaGreatDoorGT
/-! slices.Insert of a node ahead of others. -/
namespace Go.Sf
open Go Go.RowKit Go.Proofs Go.Lib
theorem blk_setCells {b : Nat} {t : TypeId} : ∀ (vs : List Value) (o : Nat) (w : World) (cs : Array Value), Blk w b t cs →
    ∃ cs', Blk (w.setCells b o vs) b t cs' ∧ cs'.size = cs.size ∧ ∀ k, cs'[k]? = if o ≤ k ∧ k < o + vs.length ∧ k < cs.size then vs[k - o]? else cs[k]?
  | [], o, w, cs, h => ⟨cs, h, rfl, fun k => by rw [if_neg]; simp; omega⟩
  | v :: r, o, w, cs, h => by
    obtain ⟨cs', h1, h2, h3⟩ := blk_setCells r (o + 1) _ _ (h.set_ o v)
    refine ⟨cs', h1, by rw [h2]; simp, fun k => ?_⟩
    rw [h3]
    simp only [Array.size_setIfInBounds, Array.getElem?_setIfInBounds, List.length_cons]
    by_cases hk : o = k
    · subst hk
      rw [if_neg (by omega), if_pos rfl]
      by_cases hs : o < cs.size
      · rw [if_pos hs, if_pos ⟨by omega, by omega, hs⟩, Nat.sub_self]; rfl
      · rw [if_neg hs, if_neg (by omega), Array.getElem?_eq_none (by omega)]
    · rw [if_neg hk]
      by_cases hc : o + 1 ≤ k ∧ k < o + 1 + r.length ∧ k < cs.size
      · rw [if_pos hc, if_pos ⟨by omega, by omega, hc.2.2⟩, show k - o = (k - (o + 1)) + 1 by omega]; rfl
      · rw [if_neg hc, if_neg (by omega)]
theorem heap_setCells {b : Nat} : ∀ (vs : List Value) (o : Nat) (w : World) (k : Nat), k ≠ b → (w.setCells b o vs).heap[k]? = w.heap[k]?
  | [], _, _, _, _ => rfl
  | v :: r, o, w, k, h => by
    rw [World.setCells, heap_setCells r _ _ _ h]
    exact Below.heap_setCell w ⟨b, o, none⟩ v k h
theorem size_setCells {b : Nat} : ∀ (vs : List Value) (o : Nat) (w : World), (w.setCells b o vs).heap.size = w.heap.size ∧ (w.setCells b o vs).os = w.os ∧ (w.setCells b o vs).tape = w.tape ∧ (w.setCells b o vs).output = w.output
  | [], _, _ => ⟨rfl, rfl, rfl, rfl⟩
  | v :: r, o, w => by
    obtain ⟨h1, h2, h3, h4⟩ := size_setCells r (o + 1) (w.setCell ⟨b, o, none⟩ v)
    exact ⟨by rw [World.setCells, h1]; simp [World.setCell], by rw [World.setCells, h2]; rfl, by rw [World.setCells, h3]; rfl, by rw [World.setCells, h4]; rfl⟩
theorem blk_shape {w : World} {b : Nat} {t : TypeId} {cs : Array Value} (h : Blk w b t cs) : w.shape? b = some (t, cs.size) := by
  unfold Blk at h
  simp [World.shape?, h]
theorem ptr_size : (Tryz.prog.info? 81).map (·.size) = some 1 := by
  obtain ⟨i0, z, by_, hi0, h0, h1, -⟩ := el_Ptr.info
  rw [hi0]; simp [h1]
/-- the row behind an insertion in place, or into a new row -/
def insV (bs : List Nat) (i x : Nat) : List Nat := bs.take i ++ x :: bs.drop i
set_option maxRecDepth 100000 in
set_option maxHeartbeats 4000000 in
theorem Insert_room_w {g c i n vb : Nat} {w : World} {cs : List Value} {x : Value} {cur : Array Value} (hi : i < n) (hroom : n + 1 ≤ c) (hcm : c ≤ maxLen) (hcl : cs.length = n) (hb : Blk w g 81 cur) (hsz : cur.size = c)
    (hcs : ∀ (j : Nat) v, cs[j]? = some v → w.cell? ⟨g, j, none⟩ = some v) (h1c : ∀ v ∈ cs, v.oneCell' = true) (hx1 : x.oneCell' = true) (hv : Blk w vb 81 #[x]) (hvb : vb ≠ g) :
    Calls Tryz.prog 164 #[.slice (some ⟨g, 0, none⟩) n c, .int .i64 i, .slice (some ⟨vb, 0, none⟩) 1 1] w fun e w' =>
      e = .returned (.slice (some ⟨g, 0, none⟩) (n + 1) c) ∧ w' = (w.drew.setCells g (i + 1) (cs.drop i)).setCells g i [x] := by
  have hz2 : ¬ ((i : Int) = (n : Int)) := by omega
  unfold maxLen at hcm
  have hov : ∀ lb cb, (callFunc 195 #[.slice (some ⟨vb, 0, none⟩) 1 1, .slice (some ⟨g, i + 1, none⟩) lb cb]).run Tryz.prog w = .ok (.value (.bool false)) w := fun lb cb => by
    rw [run_callFunc_extern Tryz.func195 (by kernel_rfl) (by kernel_rfl) (by kernel_rfl) (e := Extern.SlicesOverlaps.overlaps #[90, 90] #[4]) (by kernel_rfl),
      Lib.run_overlaps_apart w 90 4 81 Tryz.underlying90 1 Tryz.sizeOf81 ⟨vb, 0, none⟩ ⟨g, i + 1, none⟩ 1 1 lb cb hvb _ _ _ _ (blk_shape hv) (blk_shape hb) (by omega) (hv.frozen _) (hv.frozen _)]
    rfl
  have hdl : (cs.drop i).length = n - i := by rw [List.length_drop, hcl]
  have hw1 : IntKind.i64.wrap ((i : Int) + 1) = (i : Int) + 1 := IntWalk.i64_in _ (by omega)
  have hw2 : IntKind.i64.wrap ((n : Int) + 1) = (n : Int) + 1 := IntWalk.i64_in _ (by omega)
  have hcell : ∀ k, k < c → (w.cell? ⟨g, k, none⟩).isSome = true := fun k hk => by rw [hb.cell, Array.getElem?_eq_getElem (by omega)]; rfl
  have hcp1 : ∀ ty dc sc, (Builtin.copy_ #[90, 90] ty #[.slice (some ⟨g, i + 1, none⟩) (n - i) dc, .slice (some ⟨g, i, none⟩) (n + 1 - i) sc]).run Tryz.prog w.drew = .ok (goInt (cs.drop i).length) (w.drew.setCells g (i + 1) (cs.drop i)) := fun ty dc sc =>
    run_copy_cells w.drew _ _ ty 81 g (i + 1) (n - i) dc ⟨g, i, none⟩ (n + 1 - i) sc (cs.drop i) Tryz.underlying90 ptr_size (by rw [hdl]; simp only [Nat.min_def]; split <;> omega)
      (fun j v hj => by rw [Addr.add_lit]; exact hcs (i + j) v (by rwa [List.getElem?_drop] at hj))
      (fun j hj => hcell _ (by omega)) (fun j hj => hb.frozen _) (fun v hv => h1c v (List.mem_of_mem_drop hv))
  obtain ⟨W1, hW1⟩ : ∃ W1, W1 = w.drew.setCells g (i + 1) (cs.drop i) := ⟨_, rfl⟩
  obtain ⟨cur1, hb1, hs1, -⟩ := blk_setCells (cs.drop i) (i + 1) w.drew cur (show Blk w.drew g 81 cur from hb)
  rw [← hW1] at hb1
  have hcp2 : ∀ (W : World), (∀ x, W.cell? x = W1.cell? x) → (∀ x, W.frozen? x = W1.frozen? x) → ∀ ty dc, (Builtin.copy_ #[90, 90] ty #[.slice (some ⟨g, i, none⟩) (n + 1 - i) dc, .slice (some ⟨vb, 0, none⟩) 1 1]).run Tryz.prog W = .ok (goInt [x].length) (W.setCells g i [x]) := fun W hWc hWf ty dc =>
    run_copy_cells W _ _ ty 81 g i (n + 1 - i) dc ⟨vb, 0, none⟩ 1 1 [x] Tryz.underlying90 ptr_size (by simp only [List.length_singleton, Nat.min_def]; split <;> omega)
      (fun j v hj => by
        cases j with
        | succ j => simp at hj
        | zero =>
          simp at hj
          subst hj
          rw [Addr.add_lit, hWc, hW1, World.cell?_setCells_out g _ _ _ _ (fun h _ => absurd h hvb)]
          exact hv.cell 0)
      (fun j hj => by rw [hWc, hb1.cell, Array.getElem?_eq_getElem (by simp at hj; omega)]; rfl) (fun j hj => by rw [hWf]; exact hb1.frozen _) (fun v hv => by rw [List.mem_singleton.1 hv]; exact hx1)
  rw [← hW1] at hcp1
  have hz3 : ¬ ((c : Int) < (n : Int) + 1) := by omega
  have hb1' : (0 : Int) ≤ (i : Int) + 1 := by omega
  have hin : i ≤ n := by omega
  have htn : ((i : Int) + 1).toNat = i + 1 := by omega
  have htn2 : ((n : Int) + 1).toNat = n + 1 := by omega
  have hn1 : (0 : Int) ≤ (n : Int) + 1 := by omega
  have hb2 : ¬ (c = i + 1) := by omega
  have hb3 : (i : Int) ≤ (n : Int) + 1 := by omega
  have hb4 : ¬ (c = i) := by omega
  have hnc : n + 1 ≤ c := hroom
  have hnc2 : (n : Int) + 1 ≤ (c : Int) := by omega
  clear hcell hb hsz hb1 hs1 hcs h1c hv
  have mixed : Tryz.prog.follows .mixedOrders = true := by kernel_rfl
  go_enter Tryz.func164, Tryz.ntmps164
  go_wp2_with (simp only [hov])
  go_region_law_o (refine step_copy_runI rfl _ _ 90 90 rfl _ _ (by simp [Act.eval, Act.put]) (by simp [Act.eval, Act.put]) (hcp1 _ _ _) ?_)
  go_wp2_with (at_builtin; refine wpList_copy_runI _ rfl _ _ 90 90 rfl _ _ rfl rfl (hcp2 _ (fun _ => rfl) (fun _ => rfl) _ _) ?_)
  go_ret
  first | exact ⟨rfl, rfl⟩ | exact ⟨rfl, by rw [hW1]⟩
set_option maxRecDepth 100000 in
set_option maxHeartbeats 4000000 in
theorem Insert_grow_w {g c i n vb : Nat} {w : World} {cs : List Value} {x : Value} {cur : Array Value} (hi : i < n) (hnc : n ≤ c) (hroom : c < n + 1) (hbig : (n + 1) * 8 ≤ 140737488355328) (hcl : cs.length = n) (hb : Blk w g 81 cur)
    (hcs : ∀ (j : Nat) v, cs[j]? = some v → w.cell? ⟨g, j, none⟩ = some v) (h1c : ∀ v ∈ cs, v.oneCell' = true) (hx1 : x.oneCell' = true) (hv : Blk w vb 81 #[x]) :
    Calls Tryz.prog 164 #[.slice (some ⟨g, 0, none⟩) n c, .int .i64 i, .slice (some ⟨vb, 0, none⟩) 1 1] w fun e w' =>
      e = .returned (.slice (some ⟨w.heap.size, 0, none⟩) (n + 1) (grownCap w (n + 1) c 81)) ∧
      w' = (((w.alloc (.cells ((cs.take i).toArray ++ Builtin.zeroCells (Value.pointer none).cells (n + 1 - i) ++ Builtin.zeroCells (Value.pointer none).cells (grownCap w (n + 1) c 81 - (n + 1))) 81)).drew.setCells w.heap.size i [x]).drew).setCells w.heap.size (i + 1) (cs.drop i) := by
  have hinfo : (Tryz.prog.info? 81).map (fun i => (i.zero, i.size, i.bytes)) = some (some (Value.pointer none), 1, 8) := by kernel_rfl
  obtain ⟨i0, hi0, hz0, hzs, hzb⟩ := info_parts hinfo
  have mixed : Tryz.prog.follows .mixedOrders = true := by kernel_rfl
  have hz2 : ¬ ((i : Int) = (n : Int)) := by omega
  have hz3 : (c : Int) < (n : Int) + 1 := by omega
  have hbw : g < w.heap.size := hb.lt
  have hvw : vb < w.heap.size := hv.lt
  have hw2 : IntKind.i64.wrap ((n : Int) + 1) = (n : Int) + 1 := IntWalk.i64_in _ (by omega)
  have hw3 : IntKind.i64.wrap ((n : Int) + 1 - (i : Int)) = (n : Int) + 1 - (i : Int) := IntWalk.i64_in _ (by omega)
  have hkk : (n : Int) + 1 - (i : Int) = ((n + 1 - i : Nat) : Int) := by omega
  have hik : i + (n + 1 - i) = n + 1 := by omega
  have hold : (Builtin.firstCells i0.size i (.slice (some ⟨g, 0, none⟩) i c)).run Tryz.prog w.drew = .ok (cs.take i).toArray w.drew := by
    rw [hzs]
    exact run_firstCells_some w.drew 1 i ⟨g, 0, none⟩ i c (cs.take i) (by rw [List.length_take]; omega) (fun j v hj => by
      rw [Addr.add_lit]
      rw [List.getElem?_take] at hj
      split at hj
      · rw [Nat.zero_add]; exact hcs j v hj
      · cases hj)
  have hrz : ∀ ty, (Builtin.append_ #[90, 3] ty #[.slice (some ⟨g, 0, none⟩) i c, .int .i64 ((n : Int) + 1 - (i : Int))]).run Tryz.prog w =
      .ok (.slice (some ⟨w.heap.size, 0, none⟩) (n + 1) (grownCap w (n + 1) c 81)) (w.drew.alloc (.cells ((cs.take i).toArray ++ Builtin.zeroCells (Value.pointer none).cells (n + 1 - i) ++ Builtin.zeroCells (Value.pointer none).cells (grownCap w (n + 1) c 81 - (n + 1))) 81)) := fun ty => by
    have h := Lib.run_append_grow_zeros w 90 3 ty 81 i0 _ .i64 .i64 Tryz.underlying90 Tryz.underlying3 hi0 hz0 (some ⟨g, 0, none⟩) i c (cs.take i) hold (n + 1 - i) (by omega) (by omega) (by omega) (by omega) (by rw [hzb]; omega) (by rw [hzb, hik]; exact growslice_fits hroom hbig)
    rw [hik] at h
    rw [hkk]
    exact h
  obtain ⟨G, hG⟩ : ∃ G, G = grownCap w (n + 1) c 81 := ⟨_, rfl⟩
  obtain ⟨ROW, hROW⟩ : ∃ ROW : Array Value, ROW = (cs.take i).toArray ++ Builtin.zeroCells (Value.pointer none).cells (n + 1 - i) ++ Builtin.zeroCells (Value.pointer none).cells (G - (n + 1)) := ⟨_, rfl⟩
  rw [← hG] at hrz ⊢
  rw [← hROW] at hrz ⊢
  have hRl : n + 1 ≤ ROW.size := by
    rw [hROW]
    simp [Builtin.zeroCells, Value.cells]
    omega
  obtain ⟨W1, hW1⟩ : ∃ W1, W1 = w.drew.alloc (.cells ROW 81) := ⟨_, rfl⟩
  rw [← hW1] at hrz
  have hN : ∀ j, j < n + 1 → (W1.cell? ⟨w.heap.size, j, none⟩).isSome = true := fun j hj => by
    rw [hW1, World.cell?_alloc_at (w := w.drew) ROW _ w.heap.size j rfl, Array.getElem?_eq_getElem (by omega)]; rfl
  have hNf : ∀ j, W1.frozen? ⟨w.heap.size, j, none⟩ = false := fun j => by rw [hW1]; exact World.frozen?_alloc_at (w := w.drew) ROW _ w.heap.size j rfl
  have hOb : ∀ j v, w.cell? ⟨g, j, none⟩ = some v → W1.cell? ⟨g, j, none⟩ = some v := fun j v h => by rw [hW1, World.cell?_alloc_past (w := w.drew) _ g j hbw]; exact h
  have hOv : W1.cell? ⟨vb, 0, none⟩ = some x := by rw [hW1, World.cell?_alloc_past (w := w.drew) _ vb 0 hvw]; exact hv.cell 0
  have hcpA : ∀ (W : World), (∀ x, W.cell? x = W1.cell? x) → (∀ x, W.frozen? x = W1.frozen? x) → ∀ ty dc, (Builtin.copy_ #[90, 90] ty #[.slice (some ⟨w.heap.size, i, none⟩) (n + 1 - i) dc, .slice (some ⟨vb, 0, none⟩) 1 1]).run Tryz.prog W = .ok (goInt [x].length) (W.setCells w.heap.size i [x]) := fun W hWc hWf ty dc =>
    run_copy_cells W _ _ ty 81 w.heap.size i (n + 1 - i) dc ⟨vb, 0, none⟩ 1 1 [x] Tryz.underlying90 ptr_size (by simp only [List.length_singleton, Nat.min_def]; split <;> omega)
      (fun j v hj => by
        cases j with
        | succ j => simp at hj
        | zero =>
          simp at hj
          subst hj
          rw [Addr.add_lit, hWc]; exact hOv)
      (fun j hj => by rw [hWc]; exact hN _ (by simp at hj; omega)) (fun j hj => by rw [hWf]; exact hNf _) (fun v hv => by rw [List.mem_singleton.1 hv]; exact hx1)
  have hGn : n + 1 ≤ G := by rw [hG]; exact grownCap_ge w _ _ _
  have hG63 : G ≤ 9223372036854775807 := by
    have := grownCap_le_maxLen w (n + 1) c 81 (by unfold maxLen; omega)
    rw [← hG] at this
    unfold maxLen at this
    omega
  have hGi : ¬ (G = i) := by omega
  have hGim : ¬ (G = i + 1) := by omega
  have hci : ¬ (c = i) := by omega
  have hbN : g ≠ w.heap.size := by omega
  have hdl : (cs.drop i).length = n - i := by rw [List.length_drop, hcl]
  have hcpB : ∀ (W : World), (∀ y, W.cell? y = (W1.setCells w.heap.size i [x]).cell? y) → (∀ y, W.frozen? y = (W1.setCells w.heap.size i [x]).frozen? y) → ∀ ty dc sc, (Builtin.copy_ #[90, 90] ty #[.slice (some ⟨w.heap.size, i + 1, none⟩) (n - i) dc, .slice (some ⟨g, i, none⟩) (n - i) sc]).run Tryz.prog W = .ok (goInt (cs.drop i).length) (W.setCells w.heap.size (i + 1) (cs.drop i)) := fun W hWc hWf ty dc sc =>
    run_copy_cells W _ _ ty 81 w.heap.size (i + 1) (n - i) dc ⟨g, i, none⟩ (n - i) sc (cs.drop i) Tryz.underlying90 ptr_size (by rw [hdl]; simp only [Nat.min_def]; split <;> omega)
      (fun j v hj => by
        rw [Addr.add_lit, hWc, World.cell?_setCells_out _ _ _ _ _ (fun h _ => absurd h hbN)]
        exact hOb _ v (hcs (i + j) v (by rwa [List.getElem?_drop] at hj)))
      (fun j hj => by rw [hWc]; exact isSome_setCells _ _ _ _ (fun t ht => hN _ (by simp at ht; omega)) _ (hN _ (by omega)))
      (fun j hj => by rw [hWf, World.frozen?_setCells]; exact hNf _) (fun v hv => h1c v (List.mem_of_mem_drop hv))
  subst hW1
  have hE1 : ∀ x, ((w.alloc (.cells ROW 81)).drew).cell? x = (w.drew.alloc (.cells ROW 81)).cell? x := fun x => rfl
  have hE2 : ∀ x, ((w.alloc (.cells ROW 81)).drew).frozen? x = (w.drew.alloc (.cells ROW 81)).frozen? x := fun x => rfl
  have hF1 : ∀ y, (((w.alloc (.cells ROW 81)).drew.setCells w.heap.size i [x]).drew).cell? y = ((w.drew.alloc (.cells ROW 81)).setCells w.heap.size i [x]).cell? y := fun y => rfl
  have hF2 : ∀ y, (((w.alloc (.cells ROW 81)).drew.setCells w.heap.size i [x]).drew).frozen? y = ((w.drew.alloc (.cells ROW 81)).setCells w.heap.size i [x]).frozen? y := fun y => rfl
  have hw1 : IntKind.i64.wrap ((i : Int) + 1) = (i : Int) + 1 := IntWalk.i64_in _ (by omega)
  have hb1 : (0 : Int) ≤ (i : Int) + 1 := by omega
  have hin : i ≤ n := by omega
  have htn : ((i : Int) + 1).toNat = i + 1 := by omega
  have hb3 : (i : Int) ≤ (n : Int) := by omega
  have hb5 : i + 1 ≤ n + 1 := by omega
  have hb6 : (i : Int) ≤ (n : Int) + 1 := by omega
  clear hkk hik hold hROW hG hRl hcs h1c hv hb
  go_enter Tryz.func164, Tryz.ntmps164
  go_wp2_with (first
    | (at_builtin; refine Lib.wpList_append_run _ rfl _ _ _ _ rfl _ _ rfl rfl _ _ (hrz _) ?_)
    | (at_builtin; refine wpList_copy_runI _ rfl _ _ 90 90 rfl _ _ rfl rfl (hcpA _ hE1 hE2 _ _) ?_)
    | (at_builtin; refine wpList_copy_runI _ rfl _ _ 90 90 rfl _ _ rfl rfl (hcpB _ (fun _ => rfl) (fun _ => rfl) _ _ _) ?_))
  go_region_law_o (refine step_copy_runI rfl _ _ 90 90 rfl (.slice (some ⟨w.heap.size, i + 1, none⟩) (n - i) (G - (i + 1))) (.slice (some ⟨g, i, none⟩) (n - i) (c - i)) (by simp [Act.eval, Act.put]) (by simp [Act.eval, Act.put]) (hcpB _ hF1 hF2 3 (G - (i + 1)) (c - i)) ?_)
  go_wp2
  go_ret
  exact ⟨rfl, rfl⟩
end Go.Sf

/-! slices.Insert of a node: the row behind it. -/
namespace Go.Sf
open Go Go.RowKit Go.Proofs Go.Lib
theorem ptr_row {B g c : Nat} {w : World} {cur : Array Value} {l : List Nat} (hb : Blk w g 81 cur) (hg : B ≤ g) (hn : l.length ≤ c) (hc : c ≤ maxLen) (hs : cur.size = c) (hall : ∀ (k x : Nat), l[k]? = some x → cur[k]? = some (.pointer (some ⟨x, 0, none⟩))) :
    OwnS B 81 1 EPtr w (.slice (some ⟨g, 0, none⟩) l.length c) l := by
  have hall2 : cur.toList.take l.length = (l.map some).map encP := by
    apply List.ext_getElem?
    intro k
    rw [List.map_map, List.getElem?_map]
    cases hk : l[k]? with
    | none =>
      have : l.length ≤ k := List.getElem?_eq_none_iff.1 hk
      rw [List.getElem?_eq_none (by simp; omega)]; rfl
    | some x =>
      have hlt := lt_of_get hk
      rw [List.getElem?_take_of_lt hlt, Array.getElem?_toList, hall k x hk]; rfl
  refine ptr_own rfl ⟨by simp, .inr ⟨g, c, cur, rfl, hg, hb, hn, hc, by simpa using hs, ?_⟩⟩
  rw [Nat.mul_one]; exact hall2
theorem insV_length {bs : List Nat} {i x : Nat} (h : i ≤ bs.length) : (insV bs i x).length = bs.length + 1 := by
  unfold insV; simp; omega
theorem insV_get {bs : List Nat} {i x : Nat} (h : i ≤ bs.length) (k : Nat) : (insV bs i x)[k]? = if k < i then bs[k]? else if k = i then some x else bs[k - 1]? := by
  unfold insV
  have hl : (bs.take i).length = i := by simp; omega
  by_cases h1 : k < i
  · rw [if_pos h1, List.getElem?_append_left (by omega), List.getElem?_take_of_lt h1]
  · rw [if_neg h1, List.getElem?_append_right (by omega), hl]
    by_cases h2 : k = i
    · rw [if_pos h2, h2, Nat.sub_self]; rfl
    · rw [if_neg h2, show k - i = (k - 1 - i) + 1 by omega, List.getElem?_cons_succ, List.getElem?_drop, show i + (k - 1 - i) = k - 1 by omega]
theorem Insert_mid_c {B : Nat} {w : World} {v : Value} {bs : List Nat} {b vb i : Nat} (hB : B ≤ w.heap.size) (hO : OwnS B 81 1 EPtr w v bs) (hi : i < bs.length) (hl : bs.length < lim)
    (hv : Blk w vb 81 #[.pointer (some ⟨b, 0, none⟩)]) (hvb : v.ownBlock ≠ some vb) :
    Calls Tryz.prog 164 #[v, .int .i64 i, .slice (some ⟨vb, 0, none⟩) 1 1] w (GrownV B 81 1 EPtr w v (insV bs i b)) := by
  have hO' := hO
  obtain ⟨xs, ⟨hrl, hrow⟩, hxs⟩ := hO
  have hx := ptr_xs hrl hxs
  subst hx
  rcases hrow with ⟨rfl, hn⟩ | ⟨g, c, cur, rfl, hg, hb, hnc, hcm, hcs, htk⟩
  · omega
  have hb : Blk w g 81 cur := hb
  have hne : vb ≠ g := fun e => hvb (by rw [e]; rfl)
  rw [Nat.mul_one] at hcs htk
  have hcur : ∀ (k x : Nat), bs[k]? = some x → cur[k]? = some (.pointer (some ⟨x, 0, none⟩)) := fun k x hk => by
    have e : (cur.toList.take bs.length)[k]? = ((bs.map some).map encP)[k]? := by rw [htk]
    rw [List.getElem?_take_of_lt (lt_of_get hk), Array.getElem?_toList, List.map_map, List.getElem?_map, hk] at e
    exact e
  have hcl : ((bs.map some).map encP).length = bs.length := by simp
  have hcells : ∀ (j : Nat) u, ((bs.map some).map encP)[j]? = some u → w.cell? ⟨g, j, none⟩ = some u := fun j u hj => by
    rw [List.map_map, List.getElem?_map, Option.map_eq_some_iff] at hj
    obtain ⟨y, hy, rfl⟩ := hj
    rw [hb.cell]; exact hcur j y hy
  have h1c : ∀ u ∈ (bs.map some).map encP, u.oneCell' = true := fun u hu => by
    obtain ⟨y, -, rfl⟩ := List.mem_map.1 hu
    exact encP_one y
  have hil := insV_length (x := b) (Nat.le_of_lt hi)
  have hget := insV_get (x := b) (Nat.le_of_lt hi)
  have hdr : ∀ k, (((bs.map some).map encP).drop i)[k]? = (bs[i + k]?).map fun x => Value.pointer (some ⟨x, 0, none⟩) := fun k => by
    rw [List.getElem?_drop, List.map_map, List.getElem?_map]; rfl
  have hdl : (((bs.map some).map encP).drop i).length = bs.length - i := by simp
  by_cases hroom : bs.length + 1 ≤ c
  · refine (Insert_room_w hi hroom hcm hcl hb hcs hcells h1c rfl hv hne).mono ?_
    rintro e w' ⟨rfl, rfl⟩
    obtain ⟨c1, q1, q2, q3⟩ := blk_setCells (((bs.map some).map encP).drop i) (i + 1) w.drew cur (show Blk w.drew g _ cur from hb)
    obtain ⟨c2, r1, r2, r3⟩ := blk_setCells [Value.pointer (some ⟨b, 0, none⟩)] i _ c1 q1
    refine ⟨.slice (some ⟨g, 0, none⟩) (insV bs i b).length c, by rw [hil], ptr_row r1 hg (by omega) hcm (by rw [r2, q2, hcs]) (fun k x hk => ?_), ?_, .inl rfl⟩
    · have hkl := lt_of_get hk
      rw [hget] at hk
      rw [r3, q3, q2, hcs, hdl]
      simp only [List.length_singleton]
      by_cases h1 : k < i
      · rw [if_pos h1] at hk
        rw [if_neg (by omega), if_neg (by omega)]
        exact hcur k x hk
      · rw [if_neg h1] at hk
        by_cases h2 : k = i
        · subst h2
          rw [if_pos rfl] at hk
          rw [if_pos (by omega), Nat.sub_self]
          injection hk with hk
          rw [hk]; rfl
        · rw [if_neg h2] at hk
          rw [if_neg (by omega), if_pos (by omega), hdr, show i + (k - (i + 1)) = k - 1 by omega, hk]; rfl
    · obtain ⟨s1, s2, s3, s4⟩ := size_setCells (b := g) (((bs.map some).map encP).drop i) (i + 1) w.drew
      obtain ⟨t1, t2, t3, t4⟩ := size_setCells (b := g) [Value.pointer (some ⟨b, 0, none⟩)] i (w.drew.setCells g (i + 1) (((bs.map some).map encP).drop i))
      refine ⟨by rw [t2, s2]; rfl, by rw [t3, s3]; rfl, by rw [t4, s4]; rfl, by rw [t1, s1]; exact Nat.le_refl _, fun k hk hne' => ?_⟩
      have hkg : k ≠ g := fun e => hne' (by rw [e]; rfl)
      rw [heap_setCells _ _ _ _ hkg, heap_setCells _ _ _ _ hkg]
      rfl
  · unfold lim at hl
    refine (Insert_grow_w hi hnc (by omega) (by omega) hcl hb hcells h1c rfl hv).mono ?_
    rintro e w' ⟨rfl, rfl⟩
    have hGn := grownCap_ge w (bs.length + 1) c 81
    have hGm := grownCap_le_maxLen w (bs.length + 1) c 81 (by unfold maxLen; omega)
    generalize grownCap w (bs.length + 1) c 81 = G at *
    generalize hROW : (((bs.map some).map encP).take i).toArray ++ Builtin.zeroCells (Value.pointer none).cells (bs.length + 1 - i) ++ Builtin.zeroCells (Value.pointer none).cells (G - (bs.length + 1)) = ROW
    have hRs : ROW.size = G := by
      rw [← hROW]
      simp [Builtin.zeroCells, Value.cells]
      omega
    have hRi : ∀ k, k < i → ROW[k]? = ((bs.map some).map encP)[k]? := fun k hk => by
      rw [← hROW, Array.append_assoc, Array.getElem?_append_left (by simp; omega), List.getElem?_toArray, List.getElem?_take_of_lt hk]
    have b0 : Blk (w.alloc (.cells ROW 81)).drew w.heap.size 81 ROW := Blk.new w _ ROW
    obtain ⟨c1, q1, q2, q3⟩ := blk_setCells [Value.pointer (some ⟨b, 0, none⟩)] i _ ROW b0
    obtain ⟨c2, r1, r2, r3⟩ := blk_setCells (((bs.map some).map encP).drop i) (i + 1) (((w.alloc (.cells ROW 81)).drew.setCells w.heap.size i [Value.pointer (some ⟨b, 0, none⟩)]).drew) c1 q1
    refine ⟨.slice (some ⟨w.heap.size, 0, none⟩) (insV bs i b).length G, by rw [hil], ptr_row r1 hB (by omega) hGm (by rw [r2, q2, hRs]) (fun k x hk => ?_), ?_, .inr rfl⟩
    · have hkl := lt_of_get hk
      rw [hget] at hk
      rw [r3, q3, q2, hRs, hdl]
      simp only [List.length_singleton]
      by_cases h1 : k < i
      · rw [if_pos h1] at hk
        rw [if_neg (by omega), if_neg (by omega), hRi k h1, List.map_map, List.getElem?_map, hk]; rfl
      · rw [if_neg h1] at hk
        by_cases h2 : k = i
        · subst h2
          rw [if_pos rfl] at hk
          rw [if_neg (by omega), if_pos (by omega), Nat.sub_self]
          injection hk with hk
          rw [hk]; rfl
        · rw [if_neg h2] at hk
          rw [if_pos (by omega), hdr, show i + (k - (i + 1)) = k - 1 by omega, hk]; rfl
    · obtain ⟨s1, s2, s3, s4⟩ := size_setCells (b := w.heap.size) [Value.pointer (some ⟨b, 0, none⟩)] i (w.alloc (.cells ROW 81)).drew
      obtain ⟨t1, t2, t3, t4⟩ := size_setCells (b := w.heap.size) (((bs.map some).map encP).drop i) (i + 1) (((w.alloc (.cells ROW 81)).drew.setCells w.heap.size i [Value.pointer (some ⟨b, 0, none⟩)]).drew)
      have e0 := (Ext.refl w).alloc (.cells ROW 81)
      refine ⟨by rw [t2]; exact s2, by rw [t3]; exact s3, by rw [t4]; exact s4, by rw [t1]; exact Nat.le_trans e0.size (Nat.le_of_eq s1.symm), fun k hk _ => ?_⟩
      have hkg : k ≠ w.heap.size := by omega
      rw [heap_setCells _ _ _ _ hkg]
      show (World.heap _)[k]? = _
      rw [show ((((w.alloc (.cells ROW 81)).drew.setCells w.heap.size i [Value.pointer (some ⟨b, 0, none⟩)]).drew).heap) = ((w.alloc (.cells ROW 81)).drew.setCells w.heap.size i [Value.pointer (some ⟨b, 0, none⟩)]).heap from rfl, heap_setCells _ _ _ _ hkg]
      exact e0.block hk
end Go.Sf

/-! A tree of nodes gets one node more, ahead of others. -/
namespace Go.Sf
open Go Go.RowKit
theorem TreeAt.put {B : Nat} {w4 w7 : World} {l : List It} {adr : Key → Nat} {kv : Key → Value} {x : It} {u v' : Value} (h : TreeAt B w4 l adr kv) (hs : Srt l) (hn : ∀ y, y ∈ l → y.path ≠ x.path) (hk : isKey l (key x).dropLast) (hk0 : kidsOf l (key x) = []) (hB : B ≤ w4.heap.size)
    (hu : Ints B w4 u x.ids)
    (hO : OwnS B 81 1 EPtr w7 v' (insV ((kidsOf l (key x).dropLast).map fun y => adr (key y)) (kidsOf (aheadOf x l) (key x).dropLast).length w4.heap.size))
    (hgr : ((w4.alloc (.cells #[.string (nameOf (key x)), .bool x.dir, u, .slice none 0 0] 92)).alloc (.cells #[.pointer (some ⟨w4.heap.size, 0, none⟩)] 81)).grownBy w7 (kv (key x).dropLast).ownBlock)
    (hvb : v'.ownBlock = (kv (key x).dropLast).ownBlock ∨ v'.ownBlock = some (w4.heap.size + 2)) :
    ∃ adr' kv', TreeAt B (w7.setCell ⟨adr (key x).dropLast, 3, none⟩ v') (putIt x l) adr' kv' ∧ adr' [] = adr [] ∧ B ≤ adr (key x).dropLast := by
  classical
  have hnew : ∀ {y : It}, y ∈ l → key y ≠ key x := fun {y} hy e => hn y hy (key_path e)
  have hmem : ∀ {z : It}, z ∈ putIt x l ↔ z = x ∨ z ∈ l := fun {z} => mem_put hs hn
  have hdx : (key x).dropLast ≠ key x := fun e => by
    have := congrArg List.length e
    have h2 := congrArg List.length (key_last (x := x))
    simp only [List.length_append, List.length_singleton] at h2; omega
  have hkx : ¬ isKey l (key x) := fun hk => by
    rcases hk with h0 | ⟨y, hy, e⟩
    · exact key_ne x h0
    · exact hnew hy e
  have hkput := fun q => kids_put (x := x) hn q
  have hsplit := kids_split x l (key x).dropLast
  generalize hkd : (key x).dropLast = k at *
  generalize hw5 : w4.alloc (.cells #[.string (nameOf (key x)), .bool x.dir, u, .slice none 0 0] 92) = w5 at *
  generalize hw6 : w5.alloc (.cells #[.pointer (some ⟨w4.heap.size, 0, none⟩)] 81) = w6 at *
  have hx5 : Ext w4 w5 := by rw [← hw5]; exact (Ext.refl _).alloc _
  have hx6 : Ext w5 w6 := by rw [← hw6]; exact (Ext.refl _).alloc _
  have hx46 := hx5.trans hx6
  have hs6 : w6.heap.size = w4.heap.size + 2 := by rw [← hw6, ← hw5]; simp
  have hnb : Blk w6 w4.heap.size 92 #[.string (nameOf (key x)), .bool x.dir, u, .slice none 0 0] := by
    rw [← hw6, ← hw5]; exact (Blk.new w4 _ _).alloc _
  have h6 := h.ext hx46
  have hlt : ∀ q, isKey l q → adr q < w4.heap.size := fun q hq => by
    obtain ⟨_, _, ⟨-, -, _, hb, -⟩, -⟩ := h.node hq; exact hb.lt
  have hown : ∀ q, isKey l q → OwnS B 81 1 EPtr w6 (kv q) ((kidsOf l q).map fun y => adr (key y)) := fun q hq => by
    obtain ⟨_, _, ⟨-, ho, -⟩, -⟩ := h6.node hq; exact ho
  have hblt : ∀ q g, isKey l q → (kv q).ownBlock = some g → g < w4.heap.size := fun q g hq hg => by
    obtain ⟨_, _, ⟨-, ho, -⟩, -⟩ := h.node hq
    obtain ⟨-, cs, hb⟩ := ho.block hg
    exact hb.lt
  -- a node's block is no row of kids
  have hnk : ∀ g, isKey l k → (kv k).ownBlock = some g → ∀ b cs, Blk w6 b 92 cs → b ≠ g := fun g _ hg b cs hb => by
    obtain ⟨-, cs', hb'⟩ := (hown k hk).block hg
    exact Blk.ne_ hb hb' (by decide)
  have keepN : ∀ b cs, Blk w6 b 92 cs → Blk w7 b 92 cs := fun b cs hb =>
    (hgr.block b hb.lt (fun e => hnk b hk e.symm b cs hb rfl)).trans hb
  have keepI : ∀ u ids, Ints B w6 u ids → Ints B (w7.setCell ⟨adr k, 3, none⟩ v') u ids := fun u ids hi => by
    obtain ⟨_, _, ⟨-, -, _, hbk, -⟩, -⟩ := h6.node hk
    obtain ⟨A, c, hv, a1, a2, a3, a4⟩ := hi
    refine ⟨A, c, hv, a1, a2, a3, fun j y hy => ?_⟩
    obtain ⟨b, o, cs, e1, e2, e3, e4⟩ := a4 j y hy
    refine ⟨b, o, cs, e1, e2, ?_, e4⟩
    have h7 : Blk w7 b 3 cs := (hgr.block b e3.lt (fun e => by
      obtain ⟨-, cs', hb'⟩ := (hown k hk).block e.symm
      exact Blk.ne_ e3 hb' (by decide) rfl)).trans e3
    exact h7.far (p := ⟨adr k, 3, none⟩) (Blk.ne_ e3 hbk (by decide)) v'
  have hak7 : ∃ cs, Blk w7 (adr k) 92 cs := by
    obtain ⟨_, _, ⟨-, -, _, hbk, -⟩, -⟩ := h6.node hk
    exact ⟨_, keepN _ _ hbk⟩
  obtain ⟨csk, hak⟩ := hak7
  refine ⟨fun q => if q = key x then w4.heap.size else adr q, fun q => if q = key x then .slice none 0 0 else if q = k then v' else kv q, ?_, ?_, ?_⟩
  rotate_left
  · show (if ([] : Key) = key x then _ else _) = _
    rw [if_neg (fun e => key_ne x e.symm)]
  · obtain ⟨_, _, ⟨hb, -⟩, -⟩ := h.node hk; exact hb
  have hmap : ∀ q, (kidsOf l q).map (fun y => if key y = key x then w4.heap.size else adr (key y)) = (kidsOf l q).map fun y => adr (key y) := fun q =>
    List.map_congr_left fun y hy => if_neg (hnew (mem_kids.1 hy).1)
  have hmapk : (kidsOf (putIt x l) k).map (fun y => if key y = key x then w4.heap.size else adr (key y)) = insV ((kidsOf l k).map fun y => adr (key y)) (kidsOf (aheadOf x l) k).length w4.heap.size := by
    rw [hkput, if_pos rfl, List.map_append, List.map_cons, if_pos rfl]
    have e1 : ∀ L : List It, (∀ y, y ∈ L → y ∈ l) → L.map (fun y => if key y = key x then w4.heap.size else adr (key y)) = L.map fun y => adr (key y) := fun L hL => List.map_congr_left fun y hy => if_neg (hnew (hL y hy))
    have i1 : ∀ y, y ∈ kidsOf (aheadOf x l) k → y ∈ l := fun y hy => by rw [← ahead_behind x l]; exact List.mem_append_left _ (mem_kids.1 hy).1
    have i2 : ∀ y, y ∈ kidsOf (behindOf x l) k → y ∈ l := fun y hy => by rw [← ahead_behind x l]; exact List.mem_append_right _ (mem_kids.1 hy).1
    rw [e1 _ i1, e1 _ i2, hsplit]
    unfold insV
    rw [List.map_append, List.take_left' (by simp), List.drop_left' (by simp)]
  have old : ∀ q dir ids, isKey l q → Node B w4 l adr kv q dir ids →
      Node B (w7.setCell ⟨adr k, 3, none⟩ v') (putIt x l) (fun q => if q = key x then w4.heap.size else adr q) (fun q => if q = key x then .slice none 0 0 else if q = k then v' else kv q) q dir ids := fun q dir ids hq hn => by
    obtain ⟨a1, -, uq, a3, a4⟩ := hn
    have hqx : q ≠ key x := fun e => hkx (e ▸ hq)
    have b3 := keepN _ _ (a3.ext hx46)
    have b4 := keepI _ _ (a4.ext hx46)
    unfold Node
    simp only [if_neg hqx]
    refine ⟨a1, ?_, ?_⟩
    · by_cases hqk : q = k
      · subst hqk
        rw [if_pos rfl, hmapk]
        refine hO.frame (fun g hg => ?_) (fun _ _ _ e => e)
        refine Below.heap_setCell w7 ⟨adr q, 3, none⟩ v' g ?_
        obtain ⟨-, cs', hb'⟩ := hO.block hg
        exact Blk.ne_ hb' hak (by decide)
      · rw [if_neg hqk, hkput, if_neg (fun e => hqk e.symm), hmap]
        refine (hown q hq).frame (fun g hg => ?_) (fun _ _ _ e => e)
        obtain ⟨-, cs', hb'⟩ := (hown q hq).block hg
        have e1 : w7.heap[g]? = w6.heap[g]? := hgr.block g hb'.lt (fun e => hqk (h.sep q k g hq hk hg e.symm))
        rw [← e1]
        refine Below.heap_setCell w7 ⟨adr k, 3, none⟩ v' g ?_
        exact Blk.ne_ (e1.trans hb' : Blk w7 g 81 cs') hak (by decide)
    · by_cases hqk : q = k
      · subst hqk
        rw [if_pos rfl]
        exact ⟨uq, by simpa using b3.set_ 3 v', b4⟩
      · rw [if_neg hqk]
        exact ⟨uq, b3.far (p := ⟨adr k, 3, none⟩) (fun e => hqk (h.inj q k hq hk e)) v', b4⟩
  have hkey : ∀ q, isKey (putIt x l) q → isKey l q ∨ q = key x := fun q hq => by
    rcases hq with h0 | ⟨y, hy, e⟩
    · exact .inl (.inl h0)
    · rcases hmem.1 hy with rfl | hy
      · exact .inr e.symm
      · exact .inl (.inr ⟨y, hy, e⟩)
  have hv'b : ∀ g, v'.ownBlock = some g → (kv k).ownBlock = some g ∨ g = w4.heap.size + 2 := fun g hg => by
    rcases hvb with e | e
    · exact .inl (e ▸ hg)
    · rw [e] at hg; exact .inr (Option.some.inj hg).symm
  refine ⟨old [] true [] (.inl rfl) h.root, fun y hy => ?_, fun q q' hq hq' e => ?_, fun q q' g hq hq' e1 e2 => ?_⟩
  · rcases hmem.1 hy with rfl | hy
    rotate_left
    · exact old _ _ _ (.inr ⟨y, hy, rfl⟩) (h.nodes y hy)
    · unfold Node
      simp only [if_pos]
      rw [hkput, if_neg hdx, hk0]
      refine ⟨hB, OwnS.nil _ _ _ _ _, u, ?_, keepI _ _ (hu.ext hx46)⟩
      exact (keepN _ _ hnb).far (p := ⟨adr k, 3, none⟩) (fun e => by have := hlt k hk; simp at e; omega) v'
  · rcases hkey q hq with h1 | rfl <;> rcases hkey q' hq' with h2 | rfl
    · simp only [if_neg (fun e => hkx (e ▸ h1) : q ≠ key x), if_neg (fun e => hkx (e ▸ h2) : q' ≠ key x)] at e
      exact h.inj _ _ h1 h2 e
    · simp only [if_neg (fun e => hkx (e ▸ h1) : q ≠ key x), if_pos] at e
      have := hlt q h1; omega
    · simp only [if_neg (fun e => hkx (e ▸ h2) : q' ≠ key x), if_pos] at e
      have := hlt q' h2; omega
    · rfl
  · rcases hkey q hq with h1 | rfl
    · rcases hkey q' hq' with h2 | rfl
      · simp only [if_neg (fun e => hkx (e ▸ h1) : q ≠ key x)] at e1
        simp only [if_neg (fun e => hkx (e ▸ h2) : q' ≠ key x)] at e2
        by_cases c1 : q = k <;> by_cases c2 : q' = k
        · rw [c1, c2]
        · subst c1
          rw [if_pos rfl] at e1
          rw [if_neg c2] at e2
          rcases hv'b g e1 with e | e
          · exact h.sep _ _ _ h1 h2 e e2
          · have := hblt _ _ h2 e2; omega
        · subst c2
          rw [if_pos rfl] at e2
          rw [if_neg c1] at e1
          rcases hv'b g e2 with e | e
          · exact h.sep _ _ _ h1 h2 e1 e
          · have := hblt _ _ h1 e1; omega
        · rw [if_neg c1] at e1
          rw [if_neg c2] at e2
          exact h.sep _ _ _ h1 h2 e1 e2
      · simp only [if_pos] at e2; cases e2
    · simp only [if_pos] at e1; cases e1
end Go.Sf

/-! An item goes into the tree of nodes, at its place. -/
namespace Go.Sf
open Go Go.RowKit Go.Proofs
theorem Insert_any_c {B : Nat} {w : World} {v : Value} {bs : List Nat} {b vb i : Nat} (hB : B ≤ w.heap.size) (hO : OwnS B 81 1 EPtr w v bs) (hi : i ≤ bs.length) (hl : bs.length < lim)
    (hv : Blk w vb 81 #[.pointer (some ⟨b, 0, none⟩)]) (hvb : v.ownBlock ≠ some vb) :
    Calls Tryz.prog 164 #[v, .int .i64 i, .slice (some ⟨vb, 0, none⟩) 1 1] w (GrownV B 81 1 EPtr w v (insV bs i b)) := by
  rcases Nat.lt_or_ge i bs.length with h | h
  · exact Insert_mid_c hB hO h hl hv hvb
  · have e : i = bs.length := by omega
    subst e
    have := Insert_end_c (ad := ⟨vb, 0, none⟩) hB hO hl (b := b) (by simpa [Addr.add] using hv.cell 0)
    rwa [show bs ++ [b] = insV bs bs.length b from by unfold insV; simp] at this
theorem kids_new {l : List It} {x : It} (ht : treeOk l = true) (hn : ∀ y, y ∈ l → y.path ≠ x.path) : kidsOf l (key x) = [] := by
  rw [List.eq_nil_iff_forall_not_mem]
  intro y hy
  obtain ⟨hyl, hyk⟩ := mem_kids.1 hy
  rcases ((tree_set.1 ht).2.2 y hyl).2 with h0 | ⟨z, hz, hk, -⟩
  · rw [hyk] at h0; exact key_ne x h0
  · rw [hyk] at hk; exact hn z hz (key_path hk)
theorem has_new {l : List It} {x : It} (hn : ∀ y, y ∈ l → y.path ≠ x.path) : hasB (namesOf l (key x).dropLast) (nameOf (key x)) = false := by
  cases h : hasB (namesOf l (key x).dropLast) (nameOf (key x)) with
  | false => rfl
  | true =>
    have h1 := key_last (x := x)
    unfold nameOf at h
    rw [List.getLastD_eq_getLast?, List.getLast?_eq_some_getLast (key_ne x)] at h
    have h2 : isKey l ((key x).dropLast ++ [(key x).getLast (key_ne x)]) := has_name.1 h
    rw [← h1] at h2
    rcases h2 with h2 | ⟨z, hz, hk⟩
    · exact absurd h2 (key_ne x)
    · exact absurd (key_path hk) (hn z hz)
/-- what insert leaves: true, and the tree with the item -/
def InsMV (w0 w : World) (l : List It) (x : It) (r : Nat) (e : Ending) (w' : World) : Prop :=
  e = .returned (.bool true) ∧ Ext w0 w' ∧ KeepsN w w' ∧ KeepsO w w' ∧ ∃ adr kv, TreeAt w0.heap.size w' (putIt x l) adr kv ∧ adr [] = r
section
variable {w0 w : World} {l : List It} {adr : Key → Nat} {kv : Key → Value}
set_option maxRecDepth 4000 in
set_option maxHeartbeats 2000000 in
theorem insertM_c (h : TreeAt w0.heap.size w l adr kv) (ht : treeOk l = true) {B' : Nat} {v : Value} {x : It} (hx : ItV B' w v x) (hm : ML w) (hfi : findIt l x.path = none) (hin : inDir l x.path) (h0 : Ext w0 w) :
    Calls Tryz.prog 131 #[.pointer (some ⟨adr [], 0, none⟩), v] w (InsMV w0 w l x (adr [])) := by
  obtain ⟨u2, rfl, hps, hI⟩ := hx
  have hg := (treeOk_iff'.1 ht).2
  have hl : l.length < lim := by have := (treeOk_iff'.1 ht).1; unfold lim; omega
  have hs := (tree_set.1 ht).2.1
  have hn0 : ∀ y, y ∈ l → y.path ≠ x.path := fun y hy e => findIt_none hfi y hy e
  have hk : isKey l (key x).dropLast := hin.2.key
  have hk0 := kids_new ht hn0
  have hlb := lb_put (x := x) hs
  have hhas := has_new hn0
  have hd := fun W (e : Ext w W) => dirOf_c (h.ext e) hg (Nat.le_of_lt hl) x.path hps (hm.ext e)
  rw [dirOfV_yes hin] at hd
  change ∀ W, Ext w W → Calls _ _ _ _ (Ret (.tuple #[.pointer (some ⟨adr (key x).dropLast, 0, none⟩), .string (nameOf (key x))]) W) at hd
  have hp := fun W (e : Ext w W) => place_c (h.ext e) hg (Nat.le_of_lt hl) hk (nameOf (key x))
  rw [hlb, hhas] at hp
  obtain ⟨dir, ids, ⟨hBk, hO, uk, hbk, -⟩, -⟩ := h.node hk
  have HBk : Hid (∀ W, Ext w W → Blk W (adr (key x).dropLast) 92 #[.string (nameOf (key x).dropLast), .bool dir, uk, kv (key x).dropLast]) := Lib.hid fun W e => hbk.ext e
  have c3 := fun W (e : Ext w W) => hbk.at_ (i := 3) (u := kv (key x).dropLast) rfl W e
  have hlen : (namesOf l (key x).dropLast).length = ((kidsOf l (key x).dropLast).map fun y => adr (key y)).length := by simp [namesOf]
  have hlk : ((kidsOf l (key x).dropLast).map fun y => adr (key y)).length < lim := by rw [← hlen]; exact Nat.lt_of_le_of_lt (namesOf_le _ _) hl
  have hjle : (kidsOf (aheadOf x l) (key x).dropLast).length ≤ ((kidsOf l (key x).dropLast).map fun y => adr (key y)).length := by
    rw [List.length_map, kids_split x l, List.length_append]; omega
  have hput := fun W w7 u v' (e : Ext w W) => TreeAt.put (w4 := W) (w7 := w7) (u := u) (v' := v') (h.ext e) hs hn0 hk hk0
  generalize hjj : (kidsOf (aheadOf x l) (key x).dropLast).length = j at *
  generalize hkd : (key x).dropLast = k at *
  have Hkd := Lib.hid hkd
  have H := Lib.hid h; have HG := Lib.hid hg; have HPut := Lib.hid hput; have Hj := Lib.hid hjle; have HD := Lib.hid hd; have HP := Lib.hid hp
  have HO := Lib.hid hO; have C3 := Lib.hid c3; have HI := Lib.hid hI; have Hlk := Lib.hid hlk; have H0 := Lib.hid h0
  have HbkB := Lib.hid hbk
  clear hkd h hg hd hp hO c3 hI hlk hlen hbk hin hk hm hl h0 hs hn0 hk0 hlb hhas hput hjle hjj
  obtain ⟨Ak, ck, hkv⟩ := HO.out.form
  have HIns : Hid (∀ (W : World) (vb b : Nat), Ext w W → Blk W vb 81 #[.pointer (some ⟨b, 0, none⟩)] → w.heap.size ≤ vb →
      Calls Tryz.prog 164 #[.slice Ak ((kidsOf l k).map fun y => adr (key y)).length ck, .int .i64 j, .slice (some ⟨vb, 0, none⟩) 1 1] W (GrownV w0.heap.size 81 1 EPtr W (.slice Ak ((kidsOf l k).map fun y => adr (key y)).length ck) (insV ((kidsOf l k).map fun y => adr (key y)) j b))) :=
    Lib.hid fun W vb b e hb hvb => by
      have hO9 := HO.out.ext eptr_ok e
      have := Insert_any_c (B := w0.heap.size) (i := j) (H0.out.trans e).size hO9 Hj.out Hlk.out hb (fun hb9 => by
        obtain ⟨-, cs9, hbb⟩ := HO.out.block hb9
        have := hbb.lt
        omega)
      rwa [hkv] at this
  generalize hn : ((kidsOf l k).map fun y => adr (key y)).length = n at *
  have Hn := Lib.hid hn; clear hn
  have Hkv := Lib.hid hkv
  rw [hkv] at C3 HBk
  clear hkv
  have he1 : Ext w (w.alloc (.cells #[.string x.path, .bool x.dir, u2] 57)) := (Ext.refl w).alloc _
  have hb1 := Blk.new w 57 #[.string x.path, .bool x.dir, u2]
  have b0 := fun W (e : Ext _ W) => hb1.at_ (i := 0) (u := .string x.path) rfl W e
  have b1 := fun W (e : Ext _ W) => hb1.at_ (i := 1) (u := .bool x.dir) rfl W e
  have b2 := fun W (e : Ext _ W) => hb1.at_ (i := 2) (u := u2) rfl W e
  have HBi : Hid (∀ W, Ext _ W → Blk W w.heap.size 57 #[.string x.path, .bool x.dir, u2]) := Lib.hid fun W e => hb1.ext e
  clear hb1
  have bb0 := b0 _ (Ext.refl _)
  go_enter Tryz.func131, Tryz.ntmps131
  go_wp2_with fail
  refine (HD.out _ he1).mono ?_
  rintro e w2 ⟨rfl, he2⟩
  go_wp2_with fail
  refine (HP.out _ (he1.trans he2)).mono ?_
  rintro e w3 ⟨rfl, he3⟩
  have he4 := he1.trans (he2.trans he3)
  have HBi3 : Hid (∀ W, Ext w3 W → Blk W w.heap.size 57 #[.string x.path, .bool x.dir, u2]) := Lib.hid fun W e => HBi.out W ((he2.trans he3).trans e)
  have HBk3 : Hid (∀ W, Ext w3 W → Blk W (adr k) 92 #[.string (nameOf k), .bool dir, uk, .slice Ak n ck]) := Lib.hid fun W e => HBk.out W (he4.trans e)
  have HO3 : Hid (∀ W, Ext w3 W → OwnS w0.heap.size 81 1 EPtr W (.slice Ak n ck) ((kidsOf l k).map fun y => adr (key y))) := Lib.hid fun W e => by rw [← Hkv.out]; exact HO.out.ext eptr_ok (he4.trans e)
  clear HBi HBk
  have D1 := fun W (e : Ext w3 W) => b1 W ((he2.trans he3).trans e)
  have D2 := fun W (e : Ext w3 W) => b2 W ((he2.trans he3).trans e)
  have D3 := fun W (e : Ext w3 W) => C3.out W (he4.trans e)
  clear b0 b1 b2 bb0 he1 he2 he3
  go_wp2
  refine wp_region_hold (fun W => W.cell? ⟨adr k, 3, none⟩ = some (.slice Ak n ck) ∧ W.cell? ⟨w.heap.size, 1, none⟩ = some (.bool x.dir) ∧ W.cell? ⟨w.heap.size, 2, none⟩ = some u2) 16 [(0, true), (1, true), (2, true), (3, true), (4, true), (5, true), (6, true), (7, true), (8, true), (9, true), (10, true), (11, false), (12, true), (13, false), (14, false), (15, false)] (by kernel_rfl) (by kernel_rfl) ?_ ?_
  · exact ⟨D3 _ (Ext.refl _).drew, D1 _ (Ext.refl _).drew, D2 _ (Ext.refl _).drew⟩
  (repeat (first | (apply hw_read (by rfl) (by rfl); (· (intro W hW; (try dsimp only at hW); go_simp; (first | done | rfl | (rw [if_pos] <;> first | omega | rfl)))); (try simp only [Act.put, List.setIfInBounds_toArray, List.set_cons_zero, List.set_cons_succ])) | (refine hw_skip (by rfl) (by rfl) ?_; (try simp only [Act.put, List.setIfInBounds_toArray, List.set_cons_zero, List.set_cons_succ]))))
  refine hw_step (by rfl) ?_
  go_wp2_with (go_at_call 115; refine (Clone_int_c (xs := x.ids) _ (HI.out.ext (he4.trans (Ext.refl _).drew))).mono ?_; rintro e w4 ⟨u9, rfl, ⟨A9, c9, rfl, hu9⟩, he9⟩)
  have he5 := (Ext.refl w3).drew.trans he9
  clear he9
  refine ⟨⟨D3 _ he5, D1 _ he5, D2 _ he5⟩, ?_⟩
  (repeat (first | (apply hw_read (by rfl) (by rfl); (· (intro W hW; (try dsimp only at hW); go_simp; (first | done | rfl | (rw [if_pos] <;> first | omega | rfl)))); (try simp only [Act.put, List.setIfInBounds_toArray, List.set_cons_zero, List.set_cons_succ])) | (refine hw_skip (by rfl) (by rfl) ?_; (try simp only [Act.put, List.setIfInBounds_toArray, List.set_cons_zero, List.set_cons_succ]))))
  refine hw_step (by rfl) ?_
  go_wp2
  refine ⟨⟨D3 _ (he5.alloc _), D1 _ (he5.alloc _), D2 _ (he5.alloc _)⟩, ?_⟩
  (repeat (first | (apply hw_read (by rfl) (by rfl); (· (intro W hW; (try dsimp only at hW); go_simp; (first | done | rfl | (rw [if_pos] <;> first | omega | rfl)))); (try simp only [Act.put, List.setIfInBounds_toArray, List.set_cons_zero, List.set_cons_succ])) | (refine hw_skip (by rfl) (by rfl) ?_; (try simp only [Act.put, List.setIfInBounds_toArray, List.set_cons_zero, List.set_cons_succ]))))
  refine hw_step (by rfl) ?_
  go_wp2
  refine ⟨⟨D3 _ ((he5.alloc _).alloc _), D1 _ ((he5.alloc _).alloc _), D2 _ ((he5.alloc _).alloc _)⟩, ?_⟩
  have he6 := fun o1 o2 => (he5.alloc o1).alloc o2
  have Hu9 : Hid (Ints w0.heap.size w4 (.slice A9 x.ids.length c9) x.ids) := Lib.hid (Ints.keep ⟨_, _, rfl, hu9⟩ (H0.out.trans (he4.trans (Ext.refl _).drew)).size (fun _ _ _ => rfl))
  clear D1 D2 D3 hu9
  (repeat (first | (apply hw_read (by rfl) (by rfl); (· (intro W hW; (try dsimp only at hW); go_simp; (first | done | rfl | (rw [if_pos] <;> first | omega | rfl)))); (try simp only [Act.put, List.setIfInBounds_toArray, List.set_cons_zero, List.set_cons_succ])) | (refine hw_skip (by rfl) (by rfl) ?_; (try simp only [Act.put, List.setIfInBounds_toArray, List.set_cons_zero, List.set_cons_succ]))))
  refine hw_step (by rfl) ?_
  go_wp2_with (go_at_call 164; refine (HIns.out _ (w4.heap.size + 1) w4.heap.size (he4.trans (he6 _ _)) ?_ ?_).mono ?_; rotate_left; rotate_left; rintro e w7 ⟨v', rfl, hO7, hgr7, hvb7⟩; obtain ⟨A7, c7, hA7⟩ := hO7.form; generalize (insV ((kidsOf l k).map fun y => adr (key y)) j w4.heap.size).length = n7 at hA7; subst hA7)
  · have hk7 := (HO3.out _ (he6 _ _)).grown_keepsT hgr7
    have bi7 := hk7 _ _ _ (by decide) (HBi3.out _ (he6 _ _))
    have bk7 := hk7 _ _ _ (by decide) (HBk3.out _ (he6 _ _))
    have he7 : Ext w0 w7 := (HO3.out _ (he6 _ _)).grown_ext (H0.out.trans (he4.trans (he6 _ _))) hgr7
    have cc := bk7.cell 3; have cf := bk7.frozen 3; have ci1 := bi7.cell 1; have ci2 := bi7.cell 2
    simp at cc ci1 ci2
    refine ⟨⟨cc, ci1, ci2⟩, ?_⟩
    have Hk := Lib.hid Hkd.out
    have hfin : ∃ adr' kv', TreeAt w0.heap.size (w7.setCell ⟨adr k, 3, none⟩ (.slice A7 n7 c7)) (putIt x l) adr' kv' ∧ adr' [] = adr [] ∧ w0.heap.size ≤ adr k := by
      have hh := HPut.out w4 w7 (.slice A9 x.ids.length c9) (.slice A7 n7 c7) (he4.trans he5) (H0.out.trans (he4.trans he5)).size Hu9.out hO7 (by rw [Hkv.out]; exact hgr7) (by rw [Hkv.out]; simpa using hvb7)
      exact hh
    obtain ⟨adr', kv', hT, ha, -⟩ := hfin
    have hKN : KeepsN w (w7.setCell ⟨adr k, 3, none⟩ (.slice A7 n7 c7)) := fun b t cs ht1 ht2 hb =>
      KeepsT.set (t' := 92) bk7 (.slice A7 n7 c7) rfl b t cs ht1 (hk7 b t cs ht2 (hb.ext (he4.trans (he6 _ _))))
    have HKN := Lib.hid hKN
    have HKO : Hid (KeepsO w (w7.setCell ⟨adr k, 3, none⟩ (.slice A7 n7 c7))) := Lib.hid fun b hb hno => by
      have hbk : b ≠ adr k := by
        rintro rfl
        exact hno _ _ HbkB.out
      rw [RowKit.Below.heap_setCell _ _ _ _ hbk]
      have e9 := he4.trans (he6 (.cells #[.string (nameOf (key x)), .bool x.dir, .slice A9 x.ids.length c9, .slice none 0 0] 92) (.cells #[.pointer (some ⟨w4.heap.size, 0, none⟩)] 81))
      rw [hgr7.block b (Nat.lt_of_lt_of_le hb e9.size) (fun e => ?_), e9.block hb]
      obtain ⟨-, cs9, hbb⟩ := HO.out.block (by rw [Hkv.out]; exact e.symm)
      exact hno _ _ hbb
    have HT := Lib.hid hT; have Ha := Lib.hid ha; have He7 := Lib.hid he7
    clear hKN hT ha he7 hO7 hgr7 hvb7 hk7 bi7 bk7 ci1 ci2
    (refine hw_nil ?_; (try simp only [List.drop_succ_cons, List.drop_zero]))
    go_wp2
    refine NoPanic.normal ?_
    dsimp only [Exit.then]
    go_wp2
    go_ret
    exact ⟨rfl, He7.out.setCell hBk _, HKN.out, HKO.out, adr', kv', HT.out, Ha.out⟩
  · simpa using Blk.new (w4.alloc (.cells #[.string (nameOf (key x)), .bool x.dir, .slice A9 x.ids.length c9, .slice none 0 0] 92)) 81 #[.pointer (some ⟨w4.heap.size, 0, none⟩)]
  · have := (he4.trans he5).size
    omega
end
end Go.Sf

/-! The nodes of a tree are counted. -/
namespace Go.Sf
open Go Go.RowKit Go.Proofs
theorem cnt_take {l : List It} {d : Nat} {k : Key} {j : Nat} {x : It} (h : (kidsOf l k)[j]? = some x) :
    (kidsOf l k).length + ((((kidsOf l k).take (j + 1)).map fun x => (flat l d (key x)).length).sum) = (kidsOf l k).length + (((kidsOf l k).take j).map fun x => (flat l d (key x)).length).sum + (flat l d (key x)).length := by
  rw [List.take_add_one, h]
  simp
  omega
theorem flat_cnt (l : List It) (d : Nat) (k : Key) : (flat l (d + 1) k).length = (kidsOf l k).length + ((kidsOf l k).map fun x => (flat l d (key x)).length).sum := by
  rw [flat]
  generalize kidsOf l k = K
  induction K with
  | nil => rfl
  | cons x r ih =>
    rw [List.flatMap_cons, List.length_append, List.length_cons, ih, List.map_cons, List.sum_cons, List.length_cons]
    omega
theorem sum_le {l : List It} (hl : l.length ≤ 12) {d : Nat} (hd : d + 1 ≤ 4) (k : Key) (j : Nat) : (((kidsOf l k).take j).map fun x => (flat l d (key x)).length).sum ≤ 22620 := by
  have h := flat_take_len hl hd k j
  have e : ∀ K : List It, (K.map fun x => (flat l d (key x)).length).sum ≤ (K.flatMap fun x => x :: flat l d (key x)).length := fun K => by
    induction K with
    | nil => simp
    | cons x r ih =>
      rw [List.flatMap_cons, List.length_append, List.length_cons, List.map_cons, List.sum_cons]
      omega
  exact Nat.le_trans (e _) h
section
variable {B : Nat} {l : List It} {adr : Key → Nat} {kv : Key → Value}
set_option maxRecDepth 4000 in
set_option maxHeartbeats 2000000 in
theorem count_in (hg : Grow l) (hl : l.length ≤ 12) : ∀ (d : Nat) (w : World) (k : Key), TreeAt B w l adr kv → isKey l k → 4 ≤ k.length + d → d ≤ 4 →
    Calls Tryz.prog 155 #[.pointer (some ⟨adr k, 0, none⟩)] w (Ret (.int .i64 ((flat l d k).length : Nat)) w) := by
  intro d
  induction d with
  | zero =>
    intro w k h hk hd _
    obtain ⟨A, c, hkv, -⟩ := h.kids hk
    obtain ⟨dir, ids, ⟨-, -, u, hb, -⟩, -⟩ := h.node hk
    have hn : (namesOf l k).length = 0 := by unfold namesOf; rw [kids_deep hg (by simpa using hd)]; rfl
    rw [hkv, hn] at hb
    have cc3 := hb.cell 3
    simp at cc3
    clear hkv hb h hk hn hg
    go_enter Tryz.func155, Tryz.ntmps155
    go_wp2
    refine wp_loop_rounds 1 ?_; rw [rounds_succ]
    go_wp2
    go_ret
    exact ⟨rfl, Ext.refl w⟩
  | succ d ih =>
    intro w k h hk hd hd4
    have H := Lib.hid h
    have HG := Lib.hid hg
    have Hk := Lib.hid hk
    have IH := Lib.hid ih
    obtain ⟨A, c, hkv, hP⟩ := h.kids hk
    obtain ⟨dir, ids, ⟨hB, hO, u, hb, hu⟩, -⟩ := h.node hk
    rw [hkv] at hb
    have c3 := hb.at_ (i := 3) (u := .slice A (namesOf l k).length c) rfl
    have cc3 := c3 w (Ext.refl w)
    have HP := Lib.hid hP
    have hnl := namesOf_le l k
    have hlen : (namesOf l k).length = (kidsOf l k).length := by simp [namesOf]
    have Hlen := Lib.hid hlen
    have hfl := flat_cnt l d k
    have Hsum := Lib.hid (fun j => sum_le hl hd4 k j)
    rw [← hlen] at hfl
    have Hfl := Lib.hid hfl
    clear hkv hb hO hu hP h hg hk ih hlen hfl
    generalize hn : (namesOf l k).length = n at *
    have Hn := Lib.hid hn; clear hn
    go_enter Tryz.func155, Tryz.ntmps155
    go_wp2
    go_loopw [3, 16] (fun v i wr => ∃ j : Nat, j ≤ n ∧ i = .int .i64 j ∧ Ext w wr ∧ v = .int .i64 ((n + (((kidsOf l k).take j).map fun x => (flat l d (key x)).length).sum : Nat) : Int)) (fun _ i _ => n - (RowKit.intOf i).toNat)
    case atStart => exact ⟨0, by omega, rfl, Ext.refl w, by simp⟩
    case round =>
      obtain ⟨j, hj, rfl, he, rfl⟩ := hrel
      by_cases hlt : j < n
      · obtain ⟨x, hx⟩ := get_of_lt (l := kidsOf l k) (k := j) (by rw [← Hlen.out]; exact hlt)
        have hnm : (namesOf l k)[j]? = some (nameOf (key x)) := by unfold namesOf; rw [List.getElem?_map, hx]; rfl
        obtain ⟨ab, ao, pb, hpb, hAe, h1, h2⟩ := HP.out j _ hnm
        subst hAe
        have hxk : x ∈ kidsOf l k := List.mem_of_getElem? hx
        have hxl := (mem_kids.1 hxk).1
        have hpe : pb = adr (key x) := by
          rw [List.getElem?_map, hx] at hpb; exact (Option.some.inj hpb).symm
        subst hpe
        have Hkx : Hid (isKey l (key x) ∧ 4 ≤ (key x).length + d) := Lib.hid ⟨.inr ⟨x, hxl, rfl⟩, by rw [name_kid hxk]; simp; omega⟩
        have Hct := Lib.hid (cnt_take (d := d) hx)
        have q1 := h1 wr he
        have hs1 := Hsum.out j
        have hs2 := flat_len hl d (key x)
        have hs3 := bdF_le (d := d) (by omega)
        have Ci := IH.out wr (key x) (H.out.ext he) Hkx.out.1 Hkx.out.2 (by omega)
        generalize (((kidsOf l k).take j).map fun x => (flat l d (key x)).length).sum = S at *
        generalize hF : (flat l d (key x)).length = F at *
        have hwr : IntKind.i64.wrap (((n + S : Nat) : Int) + (F : Nat)) = ((n + S : Nat) : Int) + (F : Nat) := IntWalk.i64_in _ (by omega)
        clear h1 h2 hx hnm hpb hxk hxl hF
        go_wp2_with (go_at_call 155; refine Ci.mono ?_; rintro e w5 ⟨rfl, he5⟩)
        go_roundw
        case rel => exact ⟨j + 1, by omega, by go_num, he.trans he5, by have := Hct.out; rw [← Hlen.out] at this; rw [this]; congr 1; (first | done | exact IntWalk.wrap64_in _ (by omega) | (rw [IntWalk.wrap64_in _ (by omega)]; (first | done | omega)))⟩
        case measure => simp [RowKit.intOf]; omega
      · have hjs : j = n := by omega
        subst hjs
        have e : (kidsOf l k).take j = kidsOf l k := List.take_of_length_le (by rw [Hlen.out]; omega)
        rw [e]
        have Hf : Hid ((j + ((kidsOf l k).map fun x => (flat l d (key x)).length).sum) = (flat l (d + 1) k).length) := Lib.hid Hfl.out.symm
        clear e
        generalize ((kidsOf l k).map fun x => (flat l d (key x)).length).sum = S at *
        go_wp2
        go_ret
        exact ⟨ret_v (by rw [← Hf.out]; rfl), he⟩
theorem count_c {w : World} (h : TreeAt B w l adr kv) (hg : Grow l) (hl : l.length ≤ 12) : Calls Tryz.prog 155 #[.pointer (some ⟨adr [], 0, none⟩)] w (Ret (.int .i64 (l.length : Nat)) w) := by
  have hc := count_in hg hl 4 w [] h (.inl rfl) (by simp) (Nat.le_refl _)
  rwa [flat_list l hg] at hc
end
end Go.Sf

/-! The program puts an item into a tree; it makes a directory of an open volume. -/
namespace Go.Sf
open Go Go.RowKit Go.Proofs
/-- what putting a directory leaves -/
def PutDV (w0 w : World) (l : List It) (x : It) (r : Nat) (e : Ending) (w' : World) : Prop :=
  e = .returned (.bool (treePut l x).isSome) ∧ Ext w0 w' ∧ KeepsN w w' ∧ KeepsO w w' ∧ ∀ l', treePut l x = some l' → treeOk l' = true ∧ ∃ adr kv, TreeAt w0.heap.size w' l' adr kv ∧ adr [] = r
theorem Ext.keepsO {w w' : World} (e : Ext w w') : KeepsO w w' := fun _ hb _ => e.block hb
section
variable {w0 w : World} {l : List It} {adr : Key → Nat} {kv : Key → Value}
end
end Go.Sf
