/- Files written: what a volume is then, plain. -/
import Derived.Test.YtoljibhdakacjaaGreatDoorP35
namespace Go.Sf
open Go Go.RowKit
theorem cntT_app (i : Int) (a b : List It) : cntT i (a ++ b) = cntT i a + cntT i b := by unfold cntT; rw [List.map_append, List.sum_append]
theorem uses_all {s : List Hd} {t : List It} (h : volOk s t = true) (i : Int) : usesO s i = (cntT i t : Int) := by
  obtain ⟨-, -, h3, h4⟩ := volOk_iff.1 h
  unfold usesO
  cases hf : findH s i with
  | some y =>
    obtain ⟨m, e⟩ := findH_some hf
    have := usesFit_iff.1 h4 y m
    rw [e] at this
    exact this.symm
  | none =>
    rcases Nat.lt_or_ge (cntT i t) 1 with hc | hc
    · simp only [Option.elim_none]; omega
    · obtain ⟨x, hx, hc⟩ := cntT_pos hc
      obtain ⟨k, hk⟩ := List.mem_iff_getElem?.1 (cntI_mem hc)
      obtain ⟨y, hy, -⟩ := (filesFit_iff.1 h3 x hx).2 k _ hk
      rw [hf] at hy; cases hy
/-- an item put in place of another one -/
theorem put_over {t : List It} {x y : It} (ht : treeOk t = true) (hf : findIt t x.path = some y) : ∃ a b, t = a ++ y :: b ∧ putIt x t = a ++ x :: b ∧ (∀ z, z ∈ a ++ b ↔ z ∈ t ∧ z.path ≠ x.path) := by
  obtain ⟨-, hs, -⟩ := tree_set.1 ht
  obtain ⟨hm, hp⟩ := findIt_some hf
  obtain ⟨i, hi⟩ := List.mem_iff_getElem?.1 hm
  have hsp := (erase_split hi).1
  have he : ∀ z, z ∈ t.eraseIdx i ↔ z ∈ t ∧ z.path ≠ y.path := fun z => mem_erase hs hi
  rw [(erase_split hi).2, hp] at he
  refine ⟨t.take i, t.drop (i + 1), hsp, ?_, he⟩
  have hs' := hs
  unfold Srt at hs'
  rw [hsp, List.pairwise_append, List.pairwise_cons] at hs'
  obtain ⟨-, ⟨h2, -⟩, h3⟩ := hs'
  conv => lhs; rw [hsp]
  exact putIt_at hp (fun z hz => by rw [← hp]; exact h3 z hz y (by simp)) fun z hz => by rw [← hp]; exact h2 z hz
theorem cntI_nil (i : Int) : cntI i [] = 0 := rfl
/-- the parts of a write -/
theorem write_parts {s s2 : List Hd} {t t2 : List It} {p : ByteArray} {bs : List Int} (h : volWrite s t p bs = some (s2, t2)) : ∃ (rest : List It) (O ids : List Int) (s' : List Hd), volOk s t = true ∧ fileOk bs = true ∧ putBs s (cutB bs) = some (s', ids) ∧ StoreOk s' ∧ ids.length ≤ 4 ∧
    treePut t ⟨p, false, ids⟩ = some t2 ∧ dropAll s' O = some s2 ∧ HasUses s' O ∧ (∀ i, cntT i t = cntI i O + cntT i rest) ∧ (∀ i, cntT i t2 = cntI i ids + cntT i rest) ∧ (∀ z, z ∈ t2 ↔ z = ⟨p, false, ids⟩ ∨ z ∈ rest) ∧
    (∀ z, z ∈ rest ↔ z ∈ t ∧ z.path ≠ p) ∧ (∀ x, fileOf t p = some x → O = x.ids) := by
  unfold volWrite at h
  split at h
  · next hc =>
    obtain ⟨hv, hfo⟩ := hc
    unfold writeT at h
    rw [Option.bind_eq_some_iff] at h
    obtain ⟨⟨s', ids⟩, hfs, h⟩ := h
    rw [Option.map_eq_some_iff] at h
    obtain ⟨t', htp, e⟩ := h
    simp only [Prod.mk.injEq] at e
    obtain ⟨e1, rfl⟩ := e
    obtain ⟨hs', hi4, hs, -⟩ := fileStore_ok hfs
    have hpb : putBs s (cutB bs) = some (s', ids) := by
      unfold fileStore at hfs
      rwa [if_pos ⟨storeOk_iff.2 hs, hfo⟩] at hfs
    obtain ⟨-, -, g3, g4, -, -⟩ := putBs_find _ hs hpb
    obtain ⟨ht, -, hmp, ht2, rfl⟩ := put_some htp
    obtain ⟨-, hsrt, -⟩ := tree_set.1 ht
    have hua := uses_all hv
    cases hf : findIt t p with
    | none =>
      have hne := findIt_none hf
      have hfn : fileOf t p = none := by unfold fileOf; rw [hf]; rfl
      rw [hfn] at e1
      simp only [Option.elim_none] at e1
      subst e1
      refine ⟨t, [], ids, s', hv, hfo, hpb, hs', hi4, htp, rfl, fun i hi => (by cases hi), fun i => (by rw [cntI_nil, Nat.zero_add]), fun i => ?_, fun z => ?_, fun z => ⟨fun hz => ⟨hz, hne z hz⟩, fun hz => hz.1⟩, fun x hx => (by rw [hfn] at hx; cases hx)⟩
      · rw [cntT_perm (putIt_perm hne), cntT_cons]
      · rw [mem_put hsrt hne]
    | some y =>
      obtain ⟨hym, hyp⟩ := findIt_some hf
      have hyd : y.dir = false := by
        unfold mayPut at hmp
        rw [show findIt t (⟨p, false, (s', ids).2⟩ : It).path = findIt t p from rfl, hf] at hmp
        simpa using hmp
      have hfy : fileOf t p = some y := by unfold fileOf; rw [hf, Option.bind_some, hyd]; rfl
      rw [hfy] at e1
      simp only [Option.elim_some] at e1
      obtain ⟨a, b, hta, hpa, hrest⟩ := put_over (x := ⟨p, false, ids⟩) ht hf
      have hfit := filesFit_iff.1 (volOk_iff.1 hv).2.2.1 y hym
      have hc1 : ∀ i, cntT i t = cntI i y.ids + cntT i (a ++ b) := fun i => by
        rw [hta, cntT_app, cntT_cons, cntT_app]; omega
      have hin : ∀ i, i ∈ y.ids → ∃ z, findH s' i = some z ∧ (cntI i y.ids : Int) ≤ z.uses := fun i hi => by
        obtain ⟨k, hk⟩ := List.mem_iff_getElem?.1 hi
        obtain ⟨z, hz, -⟩ := hfit.2 k i hk
        obtain ⟨z', hz', -⟩ := g4 i z hz
        refine ⟨z', hz', ?_⟩
        have h1 := g3 i
        rw [hua i, hc1 i] at h1
        unfold usesO at h1
        rw [hz'] at h1
        simp only [Option.elim_some] at h1
        omega
      have hfit' : IdsFit s' y.ids := ⟨hfit.1, fun k i hk => by
        obtain ⟨z, hz, hz8⟩ := hfit.2 k i hk
        obtain ⟨z', hz', hb⟩ := g4 i z hz
        exact ⟨z', hz', by rw [hb]; exact hz8⟩⟩
      obtain ⟨s3, hd, -⟩ := dropAll_find y.ids hs' hin
      have hfa : freeAll s' y.ids = some s3 := by unfold freeAll; rw [if_pos ⟨storeOk_iff.2 hs', idsFit_iff.2 hfit'⟩, hd]
      rw [hfa] at e1
      simp only [Option.getD_some] at e1
      subst e1
      refine ⟨a ++ b, y.ids, ids, s', hv, hfo, hpb, hs', hi4, htp, hd, hin, hc1, fun i => ?_, fun z => ?_, hrest, fun x hx => (by rw [hfy] at hx; cases hx; rfl)⟩
      · rw [hpa, cntT_app, cntT_cons, cntT_app]
        show _ + (cntI i ids + _) = _
        omega
      · rw [hpa]
        simp only [List.mem_append, List.mem_cons]
        constructor
        · rintro (h | h | h)
          · exact .inr (.inl h)
          · exact .inl h
          · exact .inr (.inr h)
        · rintro (h | h | h)
          · exact .inr (.inl h)
          · exact .inl h
          · exact .inr (.inr h)
  · cases h
theorem cutB_get {bs : List Int} {k : Nat} {b : List Int} (h : (cutB bs)[k]? = some b) : b = (bs.drop (8 * k)).take 8 ∧ k < (bs.length + 7) / 8 := by
  have hk := lt_of_get h
  rw [cutB_len] at hk
  unfold cutB at h
  rw [List.getElem?_map, List.getElem?_range hk] at h
  simp only [Option.map_some, Option.some.injEq] at h
  exact ⟨h.symm, hk⟩
theorem cutB_full {bs : List Int} {k : Nat} {b : List Int} (h : (cutB bs)[k]? = some b) (hk : k + 1 < (cutB bs).length) : b.length = 8 := by
  obtain ⟨rfl, -⟩ := cutB_get h
  rw [cutB_len] at hk
  rw [List.length_take, List.length_drop]
  omega
/-- what the store holds behind a write -/
theorem write_store {s s2 : List Hd} {t t2 : List It} {p : ByteArray} {bs : List Int} (h : volWrite s t p bs = some (s2, t2)) : StoreOk s ∧ StoreOk s2 ∧ (∀ i y, findH s i = some y → ∀ z, z ∈ t → z.path ≠ p → i ∈ z.ids → ∃ y', findH s2 i = some y' ∧ y'.bytes = y.bytes) := by
  obtain ⟨rest, O, ids, s', hv, hfo, hpb, hs', -, -, hd, hu, c1, c2, -, hr, -⟩ := write_parts h
  have hs := storeOk_iff.1 (volOk_iff.1 hv).1
  obtain ⟨s3, hd3, hs3, -, hf3⟩ := dropAll_find O hs' hu
  rw [hd] at hd3
  cases hd3
  obtain ⟨-, -, g3, g4, -, -⟩ := putBs_find _ hs hpb
  refine ⟨hs, hs3, fun i y hy z hz hzp hi => ?_⟩
  obtain ⟨y', hy', hb⟩ := g4 i y hy
  have h1 := g3 i
  rw [uses_all hv i, c1 i] at h1
  unfold usesO at h1
  rw [hy'] at h1
  simp only [Option.elim_some] at h1
  have h2 := cntI_le_T (i := i) ((hr z).2 ⟨hz, hzp⟩)
  have h3 := cntI_pos hi
  refine ⟨{ y' with uses := y'.uses - (cntI i O : Int) }, by rw [hf3 i, hy', Option.bind_some, if_neg (by omega)], hb⟩
/-- a written volume is valid -/
theorem write_valid {s s2 : List Hd} {t t2 : List It} {p : ByteArray} {bs : List Int} (h : volWrite s t p bs = some (s2, t2)) : volOk s2 t2 = true := by
  have hw := write_store h
  obtain ⟨rest, O, ids, s', hv, hfo, hpb, hs', hi4, htp, hd, hu, c1, c2, hm2, hr, -⟩ := write_parts h
  obtain ⟨hs, hs2, hold⟩ := hw
  obtain ⟨s3, hd3, hs3, -, hf3⟩ := dropAll_find O hs' hu
  rw [hd] at hd3
  cases hd3
  obtain ⟨-, hlen, g3, g4, g5, g6⟩ := putBs_find _ hs hpb
  obtain ⟨-, -, -, ht2, -⟩ := put_some htp
  have hua := uses_all hv
  refine volOk_iff.2 ⟨storeOk_iff.2 hs2, ht2, filesFit_iff.2 fun z hz => ?_, usesFit_iff.2 fun y hy => ?_⟩
  · rcases (hm2 z).1 hz with rfl | hz
    · refine ⟨hi4, fun k i hk => ?_⟩
      obtain ⟨y, b, q1, q2, q3⟩ := g5 k i hk
      have h1 := g3 i
      rw [hua i, c1 i] at h1
      unfold usesO at h1
      rw [q2] at h1
      simp only [Option.elim_some] at h1
      have h3 : 1 ≤ cntI i ids := cntI_pos (List.mem_of_getElem? hk)
      refine ⟨{ y with uses := y.uses - (cntI i O : Int) }, by rw [hf3 i, q2, Option.bind_some, if_neg (by omega)], fun hk1 => ?_⟩
      show 8 ≤ y.bytes.length
      have := cutB_full q1 (by rw [← hlen]; exact hk1)
      rw [q3]; omega
    · obtain ⟨hzt, hzp⟩ := (hr z).1 hz
      have hfit := filesFit_iff.1 (volOk_iff.1 hv).2.2.1 z hzt
      refine ⟨hfit.1, fun k i hk => ?_⟩
      obtain ⟨y, hy, hy8⟩ := hfit.2 k i hk
      obtain ⟨y', hy', hb⟩ := hold i y hy z hzt hzp (List.mem_of_getElem? hk)
      exact ⟨y', hy', by rw [hb]; exact hy8⟩
  · obtain ⟨k, hk⟩ := List.mem_iff_getElem?.1 hy
    have hf := hs2.find hk
    rw [hf3 y.id, Option.bind_eq_some_iff] at hf
    obtain ⟨y', hy', hf⟩ := hf
    have h1 := g3 y.id
    rw [hua y.id, c1 y.id] at h1
    unfold usesO at h1
    rw [hy'] at h1
    simp only [Option.elim_some] at h1
    split at hf
    · cases hf
    · have h2 := congrArg Hd.uses (Option.some.inj hf)
      simp only at h2
      rw [c2 y.id]
      omega
theorem load_congr {s s2 : List Hd} : ∀ {ids : List Int}, (∀ i, i ∈ ids → ((findH s2 i).map (·.bytes)) = (findH s i).map (·.bytes)) → loadOf s2 ids = loadOf s ids := by
  intro ids
  induction ids with
  | nil => intro _; rfl
  | cons j r ih =>
    intro h
    have h1 := ih fun i hi => h i (List.mem_cons_of_mem _ hi)
    unfold loadOf at *
    rw [List.flatMap_cons, List.flatMap_cons, h1, h j List.mem_cons_self]
/-- other files are as before -/
theorem write_others {s s2 : List Hd} {t t2 : List It} {p : ByteArray} {bs : List Int} (h : volWrite s t p bs = some (s2, t2)) : ∀ z, z ∈ t → z.path ≠ p → readOf s2 t2 z.path = readOf s t z.path := fun z hz hzp => by
  have hv2 := write_valid h
  obtain ⟨-, -, hold⟩ := write_store h
  obtain ⟨rest, O, ids, s', hv, -, -, -, -, htp, -, -, -, -, -, -, -⟩ := write_parts h
  obtain ⟨ht, -, -, -, rfl⟩ := put_some htp
  obtain ⟨-, hsrt, -⟩ := tree_set.1 ht
  unfold readOf fileOf
  rw [if_pos hv2, if_pos hv, find_put hsrt, if_neg hzp, tree_find ht hz]
  cases hd : z.dir with
  | true => simp [hd]
  | false =>
    simp only [Option.bind_some, hd, Bool.false_eq_true, if_false, Option.map_some, Option.some.injEq]
    refine load_congr fun i hi => ?_
    obtain ⟨k, hk⟩ := List.mem_iff_getElem?.1 hi
    obtain ⟨y, hy, -⟩ := (filesFit_iff.1 (volOk_iff.1 hv).2.2.1 z hz).2 k i hk
    obtain ⟨y', hy', hb⟩ := hold i y hy z hz hzp hi
    rw [hy, hy', Option.map_some, Option.map_some, hb]
theorem write_len {s s2 : List Hd} {t t2 : List It} {p : ByteArray} {bs : List Int} (h : volWrite s t p bs = some (s2, t2)) : t2.length ≤ t.length + 1 := by
  obtain ⟨rest, O, ids, s', -, -, -, -, -, htp, -⟩ := write_parts h
  obtain ⟨-, -, -, -, rfl⟩ := put_some htp
  exact putIt_length t
/-! ### the same written once more -/
/-- blocks that are there are found -/
theorem putBs_there : ∀ (bl : List (List Int)) {l l' : List Hd} {ids js : List Int}, StoreOk l → putBs l bl = some (l', ids) → js.length = bl.length → (∀ (k : Nat) (i : Int), js[k]? = some i → ∃ y b, bl[k]? = some b ∧ findH l i = some y ∧ y.bytes = b) → ids = js := by
  intro bl
  induction bl with
  | nil =>
    intro l l' ids js _ h hl _
    cases h
    exact (List.length_eq_zero_iff.1 hl).symm
  | cons b r ih =>
    intro l l' ids js hl h hjl hj
    rw [putBs_step, Option.bind_eq_some_iff] at h
    obtain ⟨⟨l2, i⟩, h2, h⟩ := h
    rw [Option.map_eq_some_iff] at h
    obtain ⟨⟨l3, is⟩, h3, e⟩ := h
    cases e
    obtain ⟨-, hb, hl2, -, hf⟩ := put_find h2
    cases js with
    | nil => cases hjl
    | cons j js =>
      obtain ⟨y, b', q1, q2, q3⟩ := hj 0 j rfl
      simp only [List.getElem?_cons_zero, Option.some.injEq] at q1
      subst q1
      obtain ⟨hym, hyi⟩ := findH_some q2
      have hij : i = j := by
        rcases storePut_cases hl hb with ⟨k, z, hz, hzb, ⟨-, hp⟩ | ⟨-, hp⟩⟩ | ⟨hne, -⟩
        · rw [hp] at h2
          cases h2
          obtain ⟨m, hm⟩ := List.mem_iff_getElem?.1 hym
          have : k = m := by
            rcases Nat.lt_trichotomy k m with hkm | hkm | hkm
            · exact absurd (hzb.trans q3.symm) ((hl.2 m y hm).2.2 k z hkm hz)
            · exact hkm
            · exact absurd (q3.trans hzb.symm) ((hl.2 k z hz).2.2 m y hkm hm)
          subst this
          rw [hz] at hm
          cases hm
          exact hyi
        · rw [hp] at h2; cases h2
        · exact absurd q3 (hne y hym)
      subst hij
      congr 1
      refine ih hl2 h3 (by simpa using hjl) fun k i' hk => ?_
      obtain ⟨y', b2, r1, r2, r3⟩ := hj (k + 1) i' (by simpa using hk)
      rcases Decidable.em (i' = i) with e | e
      rotate_left
      · exact ⟨y', b2, by simpa using r1, by rw [hf i', if_neg e]; exact r2, r3⟩
      subst e
      refine ⟨_, b2, by simpa using r1, by rw [hf i', if_pos rfl], ?_⟩
      rw [q2] at r2
      cases r2
      exact q3.symm.trans r3
/-- writing the same changes nothing -/
theorem write_twice {s s2 s4 : List Hd} {t t2 t4 : List It} {p : ByteArray} {bs : List Int} (h : volWrite s t p bs = some (s2, t2)) (h2 : volWrite s2 t2 p bs = some (s4, t4)) : s4 = s2 ∧ t4 = t2 := by
  have hv2 := write_valid h
  have hs2 := storeOk_iff.1 (volOk_iff.1 hv2).1
  have hs4 := (write_store h2).2.1
  obtain ⟨rest, O, ids, s', hv, -, hpb, hs', hi4, htp, hd, hu, c1, c2, hm2, hr, -⟩ := write_parts h
  obtain ⟨rest', O', ids', s3, -, -, hpb3, hs3, -, htp', hd', hu', c1', c2', hm2', hr', hO'⟩ := write_parts h2
  have hs := storeOk_iff.1 (volOk_iff.1 hv).1
  obtain ⟨s5, hd5, -, -, hf5⟩ := dropAll_find O hs' hu
  rw [hd] at hd5
  cases hd5
  obtain ⟨-, hlen, g3, g4, g5, g6⟩ := putBs_find _ hs hpb
  have hids : ids' = ids := by
    refine putBs_there _ hs2 hpb3 hlen fun k i hk => ?_
    obtain ⟨y, b, q1, q2, q3⟩ := g5 k i hk
    have h1 := g3 i
    rw [uses_all hv i, c1 i] at h1
    unfold usesO at h1
    rw [q2] at h1
    simp only [Option.elim_some] at h1
    have h3 := cntI_pos (List.mem_of_getElem? hk)
    exact ⟨{ y with uses := y.uses - (cntI i O : Int) }, b, q1, by rw [hf5 i, q2, Option.bind_some, if_neg (by omega)], q3⟩
  subst hids
  have ht := (put_some htp).1
  have hp4 := (put_some htp').2.2.2.2
  obtain ⟨ht2, hp2⟩ := (put_some htp).2.2.2
  obtain ⟨-, hsrt, -⟩ := tree_set.1 ht
  have hfx : findIt t2 p = some ⟨p, false, ids'⟩ := by rw [hp2, find_put hsrt, if_pos rfl]
  have hfo : fileOf t2 p = some ⟨p, false, ids'⟩ := by unfold fileOf; rw [hfx]; rfl
  have hOe := hO' _ hfo
  simp only at hOe
  subst hOe
  have ht4 : t4 = t2 := by
    obtain ⟨a, b, e1, e2, -⟩ := put_over (x := ⟨p, false, O'⟩) ht2 hfx
    rw [hp4, e2, ← e1]
  refine ⟨?_, ht4⟩
  obtain ⟨s6, hd6, -, -, hf6⟩ := dropAll_find O' hs3 hu'
  rw [hd'] at hd6
  cases hd6
  obtain ⟨-, -, k3, k4, k5, k6⟩ := putBs_find _ hs2 hpb3
  refine store_ext hs4 hs2 fun i => ?_
  have h1 := k3 i
  unfold usesO at h1
  rw [hf6 i]
  cases hfi : findH s2 i with
  | none =>
    cases hf3 : findH s3 i with
    | none => rfl
    | some y =>
      rw [hfi, hf3] at h1
      simp only [Option.elim_some, Option.elim_none] at h1
      rw [Option.bind_some, if_pos (by omega)]
  | some y =>
    obtain ⟨y', hy', hb⟩ := k4 i y hfi
    rw [hfi, hy'] at h1
    simp only [Option.elim_some] at h1
    have hu1 := hd_ok (h := y) (by obtain ⟨m, hm⟩ := List.mem_iff_getElem?.1 (findH_some hfi).1; exact (hs2.2 m y hm).1)
    rw [hy', Option.bind_some, if_neg (by omega)]
    have e1 := (findH_some hfi).2
    have e2 := (findH_some hy').2
    obtain ⟨yi, yb, yu⟩ := y
    obtain ⟨zi, zb, zu⟩ := y'
    simp only at *
    subst e1; subst e2; subst hb
    congr 2
    omega
end Go.Sf
