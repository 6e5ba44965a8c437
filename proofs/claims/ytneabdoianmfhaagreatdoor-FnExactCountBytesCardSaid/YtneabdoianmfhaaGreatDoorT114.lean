/- Blocks as runs of equal bytes: how many numbers tell one; the reference and the program. -/
import Derived.Test.YtneabdoianmfhaaGreatDoorT112
namespace Go.Sf
open Go Go.RowKit Go.Proofs Go.Maps
def runStep (a : Nat × Option Int) (b : Int) : Nat × Option Int := (if a.2 = some b then a.1 else a.1 + 1, some b)
def runsK (bs : List Int) (k : Nat) : Nat × Option Int := (bs.take k).foldl runStep (0, none)
def runsN (bs : List Int) : Nat := (bs.foldl runStep (0, none)).1
theorem runsK_zero (bs : List Int) : runsK bs 0 = (0, none) := rfl
theorem runsK_succ {bs : List Int} {k : Nat} {b : Int} (h : bs[k]? = some b) : runsK bs (k + 1) = (if (runsK bs k).2 = some b then (runsK bs k).1 else (runsK bs k).1 + 1, some b) := by
  unfold runsK; rw [foldl_take _ _ h]; rfl
theorem runsK_last {bs : List Int} {k : Nat} {b : Int} (h : bs[k]? = some b) : (runsK bs (k + 1)).2 = some b := by rw [runsK_succ h]
theorem runsK_pos {bs : List Int} {k : Nat} {b : Int} (h : bs[k]? = some b) : 1 ≤ (runsK bs (k + 1)).1 := by
  rw [runsK_succ h]
  by_cases e : (runsK bs k).2 = some b
  · show 1 ≤ (if (runsK bs k).2 = some b then (runsK bs k).1 else (runsK bs k).1 + 1)
    rw [if_pos e]
    cases k with
    | zero => rw [runsK_zero] at e; cases e
    | succ k =>
      obtain ⟨c, hc⟩ := get_of_lt (l := bs) (k := k) (by have := lt_of_get h; omega)
      exact runsK_pos hc
  · show 1 ≤ (if (runsK bs k).2 = some b then (runsK bs k).1 else (runsK bs k).1 + 1)
    rw [if_neg e]; omega
theorem runsK_le (bs : List Int) : ∀ k, k ≤ bs.length → (runsK bs k).1 ≤ k := by
  intro k
  induction k with
  | zero => intro _; rw [runsK_zero]; exact Nat.le_refl _
  | succ k ih =>
    intro hk
    obtain ⟨b, hb⟩ := get_of_lt (l := bs) (k := k) (by omega)
    have := ih (by omega)
    rw [runsK_succ hb]
    show (if (runsK bs k).2 = some b then (runsK bs k).1 else (runsK bs k).1 + 1) ≤ k + 1
    split <;> omega
theorem runsK_end {bs : List Int} {k : Nat} (h : bs.length ≤ k) : (runsK bs k).1 = runsN bs := by unfold runsK runsN; rw [List.take_of_length_le h]
/-- an int of a row of one's own is written -/
theorem OwnS.set1 {base : Nat} {w : World} {v : Value} {l : List Int} (h : OwnS base 3 1 EInt w v l) {k : Nat} {x : Int} (hx : l[k]? = some x) :
    ∃ g c, v = .slice (some ⟨g, 0, none⟩) l.length c ∧ base ≤ g ∧ w.cell? ⟨g, k, none⟩ = some (.int .i64 x) ∧ w.frozen? ⟨g, k, none⟩ = false ∧
      ∀ y, inI y → OwnS base 3 1 EInt (w.setCell ⟨g, k, none⟩ (.int .i64 y)) v (l.set k y) := by
  obtain ⟨xs, ⟨h1, h2⟩, h3⟩ := h
  have hk := lt_of_get hx
  rcases h2 with ⟨rfl, hn⟩ | ⟨g, cap, cur, rfl, hg, hh, hnc, hcm, hcs, htk⟩
  · rw [hn] at hk; omega
  · have hb : Blk w g 3 cur := hh
    have hc0 : cur[k]? = xs[k]? := by rw [← htk, List.getElem?_take_of_lt (by omega), Array.getElem?_toList]
    have he := h3 k x hx
    refine ⟨g, cap, rfl, hg, ?_, hb.frozen k, fun y hy => ⟨xs.set k (.int .i64 y), ⟨by simpa using h1, .inr ⟨g, cap, cur.setIfInBounds k (.int .i64 y), ?_, hg, hb.set_ k _, ?_, hcm, ?_, ?_⟩⟩, fun j z hz => ?_⟩⟩
    · rw [hb.cell, hc0]
      have := he.1
      rw [Nat.mul_one, List.getElem?_toArray] at this
      exact this
    · rw [List.length_set]
    · rw [List.length_set]; exact hnc
    · simpa using hcs
    · rw [List.length_set, Array.toList_setIfInBounds, List.take_set, htk]
    · rw [List.getElem?_set] at hz
      show _ ∧ _
      rw [Nat.mul_one, List.getElem?_toArray, List.getElem?_set]
      split at hz
      · next e =>
        subst e
        cases hz
        rw [if_pos rfl, if_pos (by rw [h1]; omega)]
        exact ⟨rfl, hy⟩
      · next e =>
        rw [if_neg e]
        have := h3 j z hz
        unfold EInt at this
        rw [Nat.mul_one, List.getElem?_toArray] at this
        exact this
theorem el_Int : Elem Tryz.prog 82 3 1 := elem_of (z := .int .i64 0) (b := 8) Tryz.underlying82 (by kernel_rfl) (by decide) rfl (by decide)
theorem block_byte {bs : List Int} (h : blockOk bs = true) {k : Nat} {x : Int} (hx : bs[k]? = some x) : 0 ≤ x ∧ x ≤ 255 := by
  unfold blockOk at h
  simp only [Bool.and_eq_true, List.all_eq_true] at h
  have := h.1 x (List.mem_of_getElem? hx)
  unfold byteOk at this
  exact inB_iff.1 this
set_option maxRecDepth 8000 in
set_option maxHeartbeats 2000000 in
theorem l2Pack_c {B : Nat} {v : Value} {bs : List Int} (w : World) (h : Ints B w v bs) (hok : blockOk bs = true) : Calls Tryz.prog 66 #[v] w (RetP (fun r _ => ∃ A c, r = .slice A (2 * runsN bs) c) w) := by
  obtain ⟨A, c, rfl, hA⟩ := h
  have hl8 := (block_len hok).2
  have HB : Hid (∀ (k : Nat) (x : Int), bs[k]? = some x → 0 ≤ x ∧ x ≤ 255) := Lib.hid fun k x hx => block_byte hok hx
  have HA := Lib.hid hA
  generalize hn : bs.length = n at *
  have Hn := Lib.hid hn
  clear hn hA hok
  go_enter Tryz.func66, Tryz.ntmps66
  go_wp2
  go_loopw [3, 4] (fun v i wr => ∃ (k : Nat) (L : List Int), k ≤ n ∧ i = .int .i64 k ∧ Ext w wr ∧ OwnS w.heap.size 3 1 EInt wr v L ∧ Hid (L.length = 2 * (runsK bs k).1) ∧ Hid (∀ y, y ∈ L → 0 ≤ y ∧ y ≤ 300 + k) ∧ Hid ((runsK bs k).1 ≤ k)) (fun _ i _ => n - (RowKit.intOf i).toNat)
  case atStart => exact ⟨0, [], by omega, rfl, (Ext.refl w).alloc _, OwnS.lit0 _ _ _ _ (Nat.le_refl _), Lib.hid rfl, Lib.hid fun y hy => by simp at hy, Lib.hid (Nat.le_refl _)⟩
  case round =>
    obtain ⟨k, L, hk, rfl, he, hO, hL, hLb, hRk⟩ := hrel
    by_cases hlt : k < n
    · obtain ⟨x, hx⟩ := get_of_lt (l := bs) (k := k) (by rw [Hn.out]; exact hlt)
      obtain ⟨b, o, rfl, -, -, hxi, hc0⟩ := Ints.at_ HA.out hx
      have hx255 := HB.out k x hx
      have a0 := fun W (e : Ext wr W) => hc0 W (he.trans e)
      have Hx := Lib.hid hx
      have HO := Lib.hid hO
      obtain ⟨AL, cL, rfl⟩ := hO.form
      -- a new run
      have New : (runsK bs k).2 ≠ some x → Hid ((runsK bs (k + 1)).1 = (runsK bs k).1 + 1) := fun hne => Lib.hid (by rw [runsK_succ hx]; exact if_neg hne)
      have Old : (runsK bs k).2 = some x → Hid ((runsK bs (k + 1)).1 = (runsK bs k).1) := fun hne => Lib.hid (by rw [runsK_succ hx]; exact if_pos hne)
      rcases k with _ | j
      · have Hr := New (by rw [runsK_zero]; simp)
        clear New Old hx hO hc0
        simp only [Nat.add_zero] at a0
        have hL0 : L.length = 0 := by rw [hL.out, runsK_zero]; rfl
        have HL0 := Lib.hid hL0
        clear hL0
        go_wp2
        refine wp_region_ext (by kernel_rfl) (by kernel_rfl) ?_
        repeat (first | (apply q_plain rfl; (· intro W eW; go_simp; (first | done | rfl | (rw [if_pos] <;> first | omega | rfl))); (try simp only [Act.put, List.setIfInBounds_toArray, List.set_cons_zero, List.set_cons_succ])) | (refine qg_skip (by rfl) ?_; (try simp only [Act.put, List.setIfInBounds_toArray, List.set_cons_zero, List.set_cons_succ])) | (apply qg_plain (by rfl); (· intro W eW; go_simp; (first | done | rfl | (rw [if_pos] <;> first | omega | rfl))); (try simp only [Act.put, List.setIfInBounds_toArray, List.set_cons_zero, List.set_cons_succ])))
        refine q_nil ?_
        intro w2 e2
        have HO2 := Lib.hid (HO.out.ext eint_ok e2)
        have q2 := a0 w2 e2
        have he2 := he.trans e2
        clear a0
        go_wp2_with (at_builtin; go_must (refine wp_ap1 (w0 := w) (by rfl) _ _ (by rfl) el_Int eint_ok he2 _ L [1, x] (by rfl) HO2.out 2 2 rfl #[.int .i64 1, .int .i64 x] _ (by rfl) (by first | rfl | simp) rfl (one_cells rfl) (two_E ⟨rfl, by unfold inI; omega⟩ ⟨rfl, hxi⟩) ?_ ?_))
        · rw [HL0.out]; simp; unfold lim; omega
        · intro v' w' hO' he' _
          have HO' := Lib.hid hO'
          clear hO'
          go_wp2
          go_roundw
          case rel => exact ⟨0 + 1, L ++ [1, x], by omega, by go_num, he', HO'.out, Lib.hid (by rw [Nat.zero_add, Hr.out, List.length_append, hL.out]; rfl), Lib.hid fun y hy => by
            rcases List.mem_append.1 hy with h | h
            · have := hLb.out y h; omega
            · simp at h; rcases h with rfl | rfl <;> omega, Lib.hid (by rw [Nat.zero_add, Hr.out, runsK_zero]; omega)⟩
          case measure => simp [RowKit.intOf]; omega
      · obtain ⟨y, hy⟩ := get_of_lt (l := bs) (k := j) (by rw [Hn.out]; omega)
        obtain ⟨b', o', e', -, -, -, hy0⟩ := Ints.at_ HA.out hy
        simp only [Option.some.injEq, Addr.mk.injEq, and_true] at e'
        obtain ⟨rfl, rfl⟩ := e'
        have c0 := fun W (e : Ext wr W) => hy0 W (he.trans e)
        have hlast := runsK_last hy
        have hpos := runsK_pos hy
        have hwj : IntKind.i64.wrap (j : Int) = (j : Int) := IntWalk.i64_in _ (by omega)
        have hjn : j < n := by omega
        by_cases hxy : x = y
        · have hb : (x == y) = true := by simpa using hxy
          have Hr := Old (by rw [hlast, hxy])
          have hlen : ∃ m, L.length = m + 2 := ⟨2 * (runsK bs (j + 1)).1 - 2, by rw [hL.out]; omega⟩
          obtain ⟨m, hm⟩ := hlen
          have hm16 : m ≤ 16 := by have := hRk.out; have := hL.out; omega
          obtain ⟨z, hz⟩ := get_of_lt (l := L) (k := m) (by omega)
          have hzb := hLb.out z (List.mem_of_getElem? hz)
          have Hm := Lib.hid hm; have Hz := Lib.hid hz
          rw [hm]
          clear New Old hx hO hc0 hy0 hy hlast hpos hxy hm hz
          go_wp2
          refine wp_region_ext (by kernel_rfl) (by kernel_rfl) ?_
          repeat (first | (apply q_plain rfl; (· intro W eW; go_simp; (first | done | rfl | (rw [if_pos] <;> first | omega | rfl))); (try simp only [Act.put, List.setIfInBounds_toArray, List.set_cons_zero, List.set_cons_succ])) | (refine qg_skip (by rfl) ?_; (try simp only [Act.put, List.setIfInBounds_toArray, List.set_cons_zero, List.set_cons_succ])) | (apply qg_plain (by rfl); (· intro W eW; go_simp; (first | done | rfl | (rw [if_pos] <;> first | omega | rfl))); (try simp only [Act.put, List.setIfInBounds_toArray, List.set_cons_zero, List.set_cons_succ])))
          refine q_nil ?_
          intro w2 e2
          obtain ⟨g, c2, hv2, hg, hcz, hfz, hset⟩ := (HO.out.ext eint_ok e2).set1 Hz.out
          rw [Hm.out] at hv2
          injection hv2 with ea1 ea2 ea3
          subst ea1; subst ea3
          have HS2 := Lib.hid (hset (z + 1) (by unfold inI; omega))
          rw [Hm.out] at HS2
          have hwm : IntKind.i64.wrap (m : Int) = (m : Int) := IntWalk.i64_in _ (by omega)
          have he2 := (he.trans e2).setCell (p := ⟨g, m, none⟩) hg (.int .i64 (z + 1))
          clear a0 c0 hset ea2
          go_wp2
          go_roundw
          case rel => exact ⟨j + 1 + 1, L.set m (z + 1), by omega, by go_num, he2, HS2.out, Lib.hid (by rw [Hr.out, List.length_set, hL.out]), Lib.hid fun q hq => by
            rcases List.mem_or_eq_of_mem_set hq with h | rfl
            · have := hLb.out q h; omega
            · omega, Lib.hid (by rw [Hr.out]; have := hRk.out; omega)⟩
          case measure => simp [RowKit.intOf]; omega
        · have hb : (x == y) = false := by simpa using hxy
          have Hr := New (by rw [hlast]; exact fun e => hxy (Option.some.inj e).symm)
          have hl16 : L.length ≤ 16 := by have := hRk.out; have := hL.out; omega
          clear New Old hx hO hc0 hy0 hy hlast hpos hxy
          go_wp2
          refine wp_region_ext (by kernel_rfl) (by kernel_rfl) ?_
          repeat (first | (apply q_plain rfl; (· intro W eW; go_simp; (first | done | rfl | (rw [if_pos] <;> first | omega | rfl))); (try simp only [Act.put, List.setIfInBounds_toArray, List.set_cons_zero, List.set_cons_succ])) | (refine qg_skip (by rfl) ?_; (try simp only [Act.put, List.setIfInBounds_toArray, List.set_cons_zero, List.set_cons_succ])) | (apply qg_plain (by rfl); (· intro W eW; go_simp; (first | done | rfl | (rw [if_pos] <;> first | omega | rfl))); (try simp only [Act.put, List.setIfInBounds_toArray, List.set_cons_zero, List.set_cons_succ])))
          refine q_nil ?_
          intro w2 e2
          have HO2 := Lib.hid (HO.out.ext eint_ok e2)
          have q2 := a0 w2 e2
          have he2 := he.trans e2
          clear a0 c0
          go_wp2_with (at_builtin; go_must (refine wp_ap1 (w0 := w) (by rfl) _ _ (by rfl) el_Int eint_ok he2 _ L [1, x] (by rfl) HO2.out 2 2 rfl #[.int .i64 1, .int .i64 x] _ (by rfl) (by first | rfl | simp) rfl (one_cells rfl) (two_E ⟨rfl, by unfold inI; omega⟩ ⟨rfl, hxi⟩) ?_ ?_))
          · simp; unfold lim; omega
          · intro v' w' hO' he' _
            have HO' := Lib.hid hO'
            clear hO'
            go_wp2
            go_roundw
            case rel => exact ⟨j + 1 + 1, L ++ [1, x], by omega, by go_num, he', HO'.out, Lib.hid (by rw [Hr.out, List.length_append, hL.out]; show 2 * _ + 2 = _; omega), Lib.hid fun y hy => by
              rcases List.mem_append.1 hy with h | h
              · have := hLb.out y h; omega
              · simp at h; rcases h with rfl | rfl <;> omega, Lib.hid (by rw [Hr.out]; have := hRk.out; omega)⟩
            case measure => simp [RowKit.intOf]; omega
    · have hks : k = n := by omega
      subst hks
      have Hf : Hid ((runsK bs k).1 = runsN bs) := Lib.hid (runsK_end (by rw [Hn.out]; exact Nat.le_refl _))
      obtain ⟨A', c', rfl⟩ := hO.form
      rw [hL.out, Hf.out]
      go_wp2
      go_ret
      exact ⟨_, rfl, ⟨_, _, rfl⟩, he⟩
/-- blocks of runs, each one pointing to the next one -/
def nextP (ads : List Nat) (i : Nat) : Value := match ads[i + 1]? with | some a => .pointer (some ⟨a, 0, none⟩) | none => .pointer none
def RunsAt (B : Nat) (w : World) (ads : List Nat) (ms vs : Nat → Int) : Prop :=
  (∀ (i a : Nat), ads[i]? = some a → B ≤ a ∧ Blk w a 207 #[.int .i64 (ms i), .int .i64 (vs i), nextP ads i] ∧ 0 ≤ ms i ∧ ms i ≤ 1000000) ∧ ∀ (i j a : Nat), ads[i]? = some a → ads[j]? = some a → i = j
theorem RunsAt.ext {B : Nat} {w w' : World} {ads : List Nat} {ms vs : Nat → Int} (h : RunsAt B w ads ms vs) (e : Ext w w') : RunsAt B w' ads ms vs :=
  ⟨fun i a ha => let ⟨h1, h2, h3⟩ := h.1 i a ha; ⟨h1, h2.ext e, h3⟩, h.2⟩
theorem RunsAt.more {B : Nat} {w : World} {ads : List Nat} {ms vs : Nat → Int} (h : RunsAt B w ads ms vs) {q a : Nat} (ha : ads[q]? = some a) (hm : ms q + 1 ≤ 1000000) :
    RunsAt B (w.setCell ⟨a, 0, none⟩ (.int .i64 (ms q + 1))) ads (fun i => if i = q then ms q + 1 else ms i) vs := by
  refine ⟨fun i b hb => ?_, h.2⟩
  obtain ⟨h1, h2, h3⟩ := h.1 i b hb
  by_cases e : i = q
  · subst e
    rw [ha] at hb
    cases hb
    simp only [if_pos]
    exact ⟨h1, by simpa using h2.set_ 0 (.int .i64 (ms i + 1)), by omega, hm⟩
  · simp only [if_neg e]
    exact ⟨h1, h2.far (p := ⟨a, 0, none⟩) (fun q' => e (h.2 i q b hb (by rw [ha, q']))) _, h3⟩
theorem RunsAt.snoc {B : Nat} {w : World} {ads : List Nat} {ms vs : Nat → Int} (h : RunsAt B w ads ms vs) {q a : Nat} (ha : ads[q]? = some a) (hq : ads.length = q + 1) (hB : B ≤ w.heap.size) (x : Int) :
    RunsAt B ((w.alloc (.cells #[.int .i64 1, .int .i64 x, .pointer none] 207)).setCell ⟨a, 2, none⟩ (.pointer (some ⟨w.heap.size, 0, none⟩))) (ads ++ [w.heap.size]) (fun i => if i = q + 1 then 1 else ms i) (fun i => if i = q + 1 then x else vs i) := by
  have hal : a < w.heap.size := (h.1 q a ha).2.1.lt
  have hlt : ∀ (i b : Nat), ads[i]? = some b → b < w.heap.size := fun i b hb => (h.1 i b hb).2.1.lt
  have hnew : ∀ (i b : Nat), (ads ++ [w.heap.size])[i]? = some b → (i ≤ q ∧ ads[i]? = some b) ∨ (i = q + 1 ∧ b = w.heap.size) := fun i b hb => by
    by_cases hi : i < ads.length
    · rw [List.getElem?_append_left hi] at hb
      exact .inl ⟨by omega, hb⟩
    · rw [List.getElem?_append_right (by omega)] at hb
      have h0 : i - ads.length = 0 := by have := lt_of_get hb; simp at this; omega
      rw [h0] at hb
      simp at hb
      exact .inr ⟨by omega, hb.symm⟩
  have hnx : ∀ i, i < q → nextP (ads ++ [w.heap.size]) i = nextP ads i := fun i hi => by
    unfold nextP; rw [List.getElem?_append_left (by omega)]
  refine ⟨fun i b hb => ?_, fun i j b hi hj => ?_⟩
  · rcases hnew i b hb with ⟨hiq, hb⟩ | ⟨rfl, rfl⟩
    · have hne : i ≠ q + 1 := by omega
      simp only [if_neg hne]
      obtain ⟨h1, h2, h3⟩ := h.1 i b hb
      refine ⟨h1, ?_, h3⟩
      by_cases e : i = q
      · subst e
        rw [ha] at hb
        cases hb
        have hn : nextP (ads ++ [w.heap.size]) i = .pointer (some ⟨w.heap.size, 0, none⟩) := by
          unfold nextP; rw [List.getElem?_append_right (by omega)]; simp [hq]
        rw [hn]
        simpa using (h2.alloc (.cells #[.int .i64 1, .int .i64 x, .pointer none] 207)).set_ 2 (.pointer (some ⟨w.heap.size, 0, none⟩))
      · rw [hnx i (by omega)]
        exact (h2.alloc _).far (p := ⟨a, 2, none⟩) (fun q' => e (h.2 i q b hb (by rw [ha, q']))) _
    · simp only [if_pos]
      have hn : nextP (ads ++ [w.heap.size]) (q + 1) = .pointer none := by
        unfold nextP; rw [List.getElem?_eq_none (by simp; omega)]
      rw [hn]
      exact ⟨hB, (Blk.new w _ _).far (p := ⟨a, 2, none⟩) (by simp; omega) _, by omega, by omega⟩
  · rcases hnew i b hi with ⟨-, h1⟩ | ⟨rfl, rfl⟩ <;> rcases hnew j _ hj with ⟨-, h2⟩ | ⟨e2, e3⟩
    · exact h.2 i j b h1 h2
    · have := hlt i b h1; omega
    · have := hlt j _ h2; omega
    · exact e2.symm
set_option maxRecDepth 8000 in
set_option maxHeartbeats 2000000 in
theorem runsOf_c {B : Nat} {v : Value} {bs : List Int} (w : World) (h : Ints B w v bs) (hok : blockOk bs = true) :
    Calls Tryz.prog 129 #[v] w (RetP (fun r w' => ∃ ads ms vs a, r = .pointer (some ⟨a, 0, none⟩) ∧ ads[0]? = some a ∧ ads.length = runsN bs ∧ RunsAt w.heap.size w' ads ms vs ∧ ∀ i, i < ads.length → inI (vs i)) w) := by
  obtain ⟨A, c, rfl, hA⟩ := h
  have hl8 := block_len hok
  have HA := Lib.hid hA
  have hnc := hA.1
  generalize hn : bs.length = n at *
  have Hn := Lib.hid hn
  obtain ⟨x0, hx0⟩ := get_of_lt (l := bs) (k := 0) (by omega)
  obtain ⟨b, o, rfl, -, -, hxi0, hc0⟩ := Ints.at_ hA hx0
  have q0 := hc0 w (Ext.refl _)
  simp only [Nat.add_zero] at q0
  have Hx0 := Lib.hid hx0
  have hR0 : Hid (RunsAt w.heap.size (w.alloc (.cells #[.int .i64 1, .int .i64 x0, .pointer none] 207)) [w.heap.size] (fun _ => 1) (fun _ => x0)) := Lib.hid ⟨fun i a ha => by
    have hi : i = 0 := by have := lt_of_get ha; simp at this; omega
    subst hi
    simp at ha
    subst ha
    exact ⟨Nat.le_refl _, Blk.new w _ _, by show (0 : Int) ≤ 1; omega, by show (1 : Int) ≤ 1000000; omega⟩, fun i j a hi hj => by
    have h1 := lt_of_get hi; have h2 := lt_of_get hj
    simp at h1 h2; omega⟩
  have e0 : Ext w (w.alloc (.cells #[.int .i64 1, .int .i64 x0, .pointer none] 207)) := (Ext.refl w).alloc _
  have hn1 : 1 ≤ n := hl8.1
  have hn1i : ¬ ((n : Int) < 1) := by omega
  have hwn : IntKind.i64.wrap ((n : Int) - 1) = ((n - 1 : Nat) : Int) := by rw [IntWalk.i64_in _ (by omega)]; omega
  clear hA hn hok hc0 hx0
  by_cases hc1 : c = 1
  · subst hc1
    go_enter Tryz.func129, Tryz.ntmps129
    go_wp2
    go_loopw [4, 16] (fun p i wr => ∃ (k : Nat) (ads : List Nat) (ms vs : Nat → Int) (q a : Nat), k ≤ n - 1 ∧ i = .int .i64 k ∧ p = .pointer (some ⟨a, 0, none⟩) ∧ Hid (ads[q]? = some a) ∧ Hid (ads.length = q + 1) ∧ Ext w wr ∧ Hid (RunsAt w.heap.size wr ads ms vs) ∧ Hid (q + 1 = (runsK bs (k + 1)).1) ∧ Hid ((runsK bs (k + 1)).2 = some (vs q)) ∧ Hid (ads[0]? = some w.heap.size) ∧ Hid (∀ i, i < ads.length → inI (vs i)) ∧ Hid (∀ i, i < ads.length → ms i ≤ k + 1)) (fun _ i _ => n - (RowKit.intOf i).toNat)
    case atStart => exact ⟨0, [w.heap.size], fun _ => 1, fun _ => x0, 0, w.heap.size, by omega, rfl, rfl, Lib.hid rfl, Lib.hid rfl, e0, hR0, Lib.hid (by rw [runsK_succ Hx0.out, runsK_zero]; rfl), Lib.hid (by rw [runsK_succ Hx0.out]), Lib.hid rfl, Lib.hid fun i _ => hxi0, Lib.hid fun i _ => by show (1 : Int) ≤ _; omega⟩
    case round =>
      obtain ⟨k, ads, ms, vs, q, a, hk, rfl, rfl, hq, hqn, he, hR, hqk, hlast, h0, hvs, hms⟩ := hrel
      by_cases hlt : k < n - 1
      · exact absurd hlt (by omega)
      · have hks : k = n - 1 := by omega
        have hlti : ¬ (k : Int) < ((n - 1 : Nat) : Int) := by omega
        have Hf : Hid (ads.length = runsN bs) := Lib.hid (by rw [hqn.out, hqk.out]; exact runsK_end (by rw [Hn.out]; omega))
        go_wp2
        go_ret
        exact ⟨_, rfl, ⟨ads, ms, vs, w.heap.size, rfl, h0.out, Hf.out, hR.out, hvs.out⟩, he⟩
  · go_enter Tryz.func129, Tryz.ntmps129
    go_wp2
    go_loopw [4, 16] (fun p i wr => ∃ (k : Nat) (ads : List Nat) (ms vs : Nat → Int) (q a : Nat), k ≤ n - 1 ∧ i = .int .i64 k ∧ p = .pointer (some ⟨a, 0, none⟩) ∧ Hid (ads[q]? = some a) ∧ Hid (ads.length = q + 1) ∧ Ext w wr ∧ Hid (RunsAt w.heap.size wr ads ms vs) ∧ Hid (q + 1 = (runsK bs (k + 1)).1) ∧ Hid ((runsK bs (k + 1)).2 = some (vs q)) ∧ Hid (ads[0]? = some w.heap.size) ∧ Hid (∀ i, i < ads.length → inI (vs i)) ∧ Hid (∀ i, i < ads.length → ms i ≤ k + 1)) (fun _ i _ => n - (RowKit.intOf i).toNat)
    case atStart => exact ⟨0, [w.heap.size], fun _ => 1, fun _ => x0, 0, w.heap.size, by omega, rfl, rfl, Lib.hid rfl, Lib.hid rfl, e0, hR0, Lib.hid (by rw [runsK_succ Hx0.out, runsK_zero]; rfl), Lib.hid (by rw [runsK_succ Hx0.out]), Lib.hid rfl, Lib.hid fun i _ => hxi0, Lib.hid fun i _ => by show (1 : Int) ≤ _; omega⟩
    case round =>
      obtain ⟨k, ads, ms, vs, q, a, hk, rfl, rfl, hq, hqn, he, hR, hqk, hlast, h0, hvs, hms⟩ := hrel
      by_cases hlt : k < n - 1
      · obtain ⟨x, hx⟩ := get_of_lt (l := bs) (k := k + 1) (by rw [Hn.out]; omega)
        obtain ⟨b', o', e', -, -, hxi, hc⟩ := Ints.at_ HA.out hx
        simp only [Option.some.injEq, Addr.mk.injEq, and_true] at e'
        obtain ⟨rfl, rfl⟩ := e'
        have q1 := hc wr he
        have q2 : wr.cell? ⟨b, o + 1 + k, none⟩ = some (.int .i64 x) := by rw [show o + 1 + k = o + (k + 1) by omega]; exact q1
        obtain ⟨hBa, hba, hm0, -⟩ := hR.out.1 q a hq.out
        have v1 := hba.cell 1; have v0 := hba.cell 0; have f0 := hba.frozen 0
        simp at v0 v1
        have hmq := hms.out q (by rw [hqn.out]; omega)
        have hkn : k + 1 < n := by omega
        have hlti : (k : Int) < ((n - 1 : Nat) : Int) := by omega
        by_cases hxv : x = vs q
        · have hb : (x == vs q) = true := by simpa using hxv
          have hr2 : Hid (runsK bs (k + 1 + 1) = ((runsK bs (k + 1)).1, some x)) := Lib.hid (by rw [runsK_succ hx, if_pos (by rw [hlast.out, hxv])])
          have HRm := Lib.hid (hR.out.more hq.out (by omega))
          clear hx hc hba hxv
          generalize hvq : vs q = vq at *
          generalize hmm : ms q = mq at *
          have Hvq := Lib.hid hvq; have Hmq := Lib.hid hmm
          clear hvq hmm
          go_wp2
          go_roundw
          case rel => exact ⟨k + 1, ads, _, vs, q, a, by omega, by go_num, rfl, hq, hqn, he.setCell (p := ⟨a, 0, none⟩) hBa _, HRm, Lib.hid (by rw [hr2.out]; exact hqk.out), Lib.hid (by rw [hr2.out, Hvq.out]; simp at hb; rw [hb]), h0, hvs, Lib.hid fun i hi => by
            show (if i = q then mq + 1 else ms i) ≤ _
            have := hms.out i hi
            split <;> omega⟩
          case measure => simp [RowKit.intOf]; omega
        · have hb : (x == vs q) = false := by simpa using hxv
          have hr2 : Hid (runsK bs (k + 1 + 1) = ((runsK bs (k + 1)).1 + 1, some x)) := Lib.hid (by rw [runsK_succ hx, if_neg (by rw [hlast.out]; exact fun e => hxv (Option.some.inj e).symm)])
          have HRs := Lib.hid (hR.out.snoc hq.out hqn.out he.size x)
          obtain ⟨-, hbn, -⟩ := HRs.out.1 q a (by rw [List.getElem?_append_left (by rw [hqn.out]; omega)]; exact hq.out)
          have n2 := hbn.cell 2
          have hnx : nextP (ads ++ [wr.heap.size]) q = .pointer (some ⟨wr.heap.size, 0, none⟩) := by
            have := hqn.out
            unfold nextP; rw [List.getElem?_append_right (by omega)]; simp [this]
          rw [hnx] at n2
          simp at n2
          have c2 := hba.cell 2; have f2 := hba.frozen 2
          simp at c2
          have hba2 := hba.alloc (.cells #[.int .i64 1, .int .i64 x, .pointer none] 207)
          have d2 := hba2.cell 2; have g2 := hba2.frozen 2
          simp at d2
          clear hx hc hba hxv hbn hnx hba2
          generalize hvq : vs q = vq at *
          have Hvq := Lib.hid hvq
          clear hvq
          go_wp2
          go_roundw
          case rel => exact ⟨k + 1, ads ++ [wr.heap.size], _, _, q + 1, wr.heap.size, by omega, by go_num, rfl, Lib.hid (by rw [List.getElem?_append_right (by rw [hqn.out]; omega), hqn.out]; simp), Lib.hid (by rw [List.length_append, hqn.out]; rfl), (he.alloc _).setCell (p := ⟨a, 2, none⟩) hBa _, HRs, Lib.hid (by rw [hr2.out, ← hqk.out]), Lib.hid (by rw [hr2.out]; simp), Lib.hid (by rw [List.getElem?_append_left (by rw [hqn.out]; omega)]; exact h0.out), Lib.hid fun i hi => by
            show inI (if i = q + 1 then x else vs i)
            split
            · exact hxi
            · exact hvs.out i (by rw [List.length_append, hqn.out] at hi; simp at hi; rw [hqn.out]; omega), Lib.hid fun i hi => by
            show (if i = q + 1 then 1 else ms i) ≤ _
            split
            · omega
            · have := hms.out i (by rw [List.length_append, hqn.out] at hi; simp at hi; rw [hqn.out]; omega)
              omega⟩
          case measure => simp [RowKit.intOf]; omega
      · have hks : k = n - 1 := by omega
        have hlti : ¬ (k : Int) < ((n - 1 : Nat) : Int) := by omega
        have Hf : Hid (ads.length = runsN bs) := Lib.hid (by rw [hqn.out, hqk.out]; exact runsK_end (by rw [Hn.out]; omega))
        go_wp2
        go_ret
        exact ⟨_, rfl, ⟨ads, ms, vs, w.heap.size, rfl, h0.out, Hf.out, hR.out, hvs.out⟩, he⟩
end Go.Sf
