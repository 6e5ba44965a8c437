/- What quotas allow: the reference and the program. -/
import Derived.Test.YtadjkgdlpaddjaaGreatDoorT104
import Derived.Test.YtadjkgdlpaddjaaGreatDoorW18
set_option linter.all false
namespace Go.Sf
open Go Go.RowKit Go.Proofs Go.Maps
/-- the quota says no -/
noncomputable def qtNo (s : List Hd) (t : List It) (p : ByteArray) (n : Int) (x : Qt) : Bool := within p x.dir && decide (x.most < (usedBut s t x.dir p : Nat) + n)
noncomputable def allowIn (s : List Hd) (t : List It) (l : List Sn) (q : List Qt) (p : ByteArray) (n : Int) : Bool := diskOk s t l && (quotasOk q && (pathOk p && inB n 0 32))
noncomputable def allowOk (s : List Hd) (t : List It) (l : List Sn) (q : List Qt) (p : ByteArray) (n : Int) : Bool := allowIn s t l q p n && q.all fun x => !qtNo s t p n x
theorem allow_no {s : List Hd} {t : List It} {l : List Sn} {q : List Qt} {p : ByteArray} {n : Int} (h : allowIn s t l q p n = false) : allowOk s t l q p n = false := by unfold allowOk; rw [h]; rfl
theorem usedBut_le {s : List Hd} (hs : StoreOk s) {t : List It} (hf : ∀ x, x ∈ t → IdsFit s x.ids) (h12 : t.length ≤ 12) (d but : ByteArray) : usedBut s t d but ≤ 384 := by
  have := usedb_take_le hs hf h12 d but t.length
  rwa [List.take_of_length_le (Nat.le_refl _)] at this
theorem usedT_le {s : List Hd} (hs : StoreOk s) {t : List It} (hf : ∀ x, x ∈ t → IdsFit s x.ids) (h12 : t.length ≤ 12) (d : ByteArray) : usedT s t d ≤ 384 := by
  have := used_take_le hs hf h12 d t.length
  rwa [List.take_of_length_le (Nat.le_refl _)] at this
theorem used_split (s : List Hd) (d p : ByteArray) : ∀ t : List It, Apart t → usedT s t d = usedBut s t d p + (match findIt t p with | some y => useOf s d y | none => 0) := by
  intro t
  induction t with
  | nil => intro _; rfl
  | cons x t ih =>
    intro h
    obtain ⟨hx, ht⟩ := List.pairwise_cons.1 h
    have h1 := ih ht
    unfold usedT usedBut at *
    simp only [List.map_cons, List.sum_cons]
    by_cases e : x.path = p
    · have hf : findIt t p = none := by
        unfold findIt
        rw [List.find?_eq_none]
        intro y hy
        have := hx y hy
        rw [e] at this
        simp [pathIs, eqb_iff]
        exact fun h => this h.symm
      have hf2 : findIt (x :: t) p = some x := by unfold findIt; rw [List.find?_cons_of_pos]; simp [pathIs, eqb_iff, e]
      rw [hf] at h1
      rw [hf2]
      have hb : useBut s d p x = 0 := by unfold useBut; rw [if_pos e]
      simp only at h1 ⊢
      omega
    · have hf2 : findIt (x :: t) p = findIt t p := by unfold findIt; rw [List.find?_cons_of_neg]; simp [pathIs, eqb_iff, e]
      have hb : useBut s d p x = useOf s d x := by unfold useBut; rw [if_neg e]
      rw [hf2, hb]
      omega
/-- how large the file at p is -/
noncomputable def sizeAt (s : List Hd) (t : List It) (p : ByteArray) : Nat := match findIt t p with | some y => (loadOf s y.ids).length | none => 0
theorem used_at {s : List Hd} {t : List It} (ht : treeOk t = true) {d p : ByteArray} (hw : within p d = true) : usedT s t d = usedBut s t d p + sizeAt s t p := by
  have h := used_split s d p t (grow_set.1 (treeOk_iff'.1 ht).2).1.apart
  rw [h]
  unfold sizeAt
  cases hf : findIt t p with
  | none => rfl
  | some y =>
    have := (findIt_some hf).2
    simp only [useOf, this, hw, if_true]
theorem sizeAt_le {s : List Hd} (hs : StoreOk s) {t : List It} (hf : ∀ x, x ∈ t → IdsFit s x.ids) (p : ByteArray) : sizeAt s t p ≤ 32 := by
  unfold sizeAt
  cases h : findIt t p with
  | none => exact Nat.zero_le _
  | some y => exact load32 hs (hf y (findIt_some h).1)
/-- the program's one error -/
def EB (a : Addr) (w : World) : Prop := w.cell? ⟨0, 0, none⟩ = some (.iface 371 (.pointer (some a)))
theorem EB.ext {a : Addr} {w w' : World} (h : EB a w) (e : Ext w w') : EB a w' := e.cell h
set_option maxHeartbeats 1000000 in
theorem check_c {a : Addr} (d : ByteArray) (m n : Int) (w : World) (hE : EB a w) : Calls Tryz.prog 120 #[.agg #[.string d, .int .i64 m], .int .i64 n] w (Ret (if m < n then .iface 371 (.pointer (some a)) else .nilIface) w) := by
  have e0 : Ext w (w.alloc (.cells #[.string d, .int .i64 m] 164)) := (Ext.refl w).alloc _
  have h1 : w.cell? ⟨0, 0, none⟩ = some (.iface 371 (.pointer (some a))) := hE
  have h2 := e0.cell h1
  by_cases hm : m < n
  · rw [if_pos hm]
    go_enter Tryz.func120, Tryz.ntmps120
    go_wp2
    go_ret
    exact ⟨rfl, e0⟩
  · rw [if_neg hm]
    go_enter Tryz.func120, Tryz.ntmps120
    go_wp2
    go_ret
    exact ⟨rfl, e0⟩
set_option maxRecDepth 8000 in
set_option maxHeartbeats 4000000 in
theorem specQuotasAllow_c {B B' B2 B3 : Nat} {vs vt vn vq : Value} {s : List Hd} {t : List It} {l : List Sn} {q : List Qt} (p : ByteArray) (n : Int) (w : World) (hs : Hds B w vs s) (ht : Its B' w vt t) (hn : Sns B2 w vn l) (hq : Qts B3 w vq q) (hp : p.size < lim) (hin : inI n) :
    Calls Tryz.prog 44 #[.agg #[vs, vt, vn], vq, .string p, .int .i64 n] w (Ret (.bool (allowOk s t l q p n)) w) := by
  have HS := Lib.hid hs; have HT := Lib.hid ht; have HN := Lib.hid hn; have HQ := Lib.hid hq
  obtain ⟨A, c, rfl, -⟩ := hs
  obtain ⟨A2, c2, rfl, -⟩ := ht
  obtain ⟨A3, c3, rfl, -⟩ := hn
  obtain ⟨A4, c4, rfl, hA⟩ := hq
  have hl := hA.2.2.1
  unfold lim at hl
  have e0 : Ext w (w.alloc (.cells #[.slice A s.length c, .slice A2 t.length c2, .slice A3 l.length c3] 33)) := (Ext.refl w).alloc _
  have hbk := Blk.new w 33 #[.slice A s.length c, .slice A2 t.length c2, .slice A3 l.length c3]
  have d0 := fun W (e : Ext _ W) => hbk.at_ (i := 0) (u := .slice A s.length c) rfl W e
  have d1 := fun W (e : Ext _ W) => hbk.at_ (i := 1) (u := .slice A2 t.length c2) rfl W e
  have d2 := fun W (e : Ext _ W) => hbk.at_ (i := 2) (u := .slice A3 l.length c3) rfl W e
  have Cd := specDiskValid_c _ (HS.out.ext e0) (HT.out.ext e0) (HN.out.ext e0)
  have Cq := fun W (e : Ext w W) => specQuotasValid_c W (HQ.out.ext e)
  have Cp := fun W => specPathValid_c p W hp
  have Ci := fun W => l6In_c n 0 32 W
  have HA := Lib.hid hA
  clear hbk hA
  cases hd : diskOk s t l with
  | false =>
    rw [hd] at Cd
    have Hr := Lib.hid (allow_no (q := q) (p := p) (n := n) (by unfold allowIn; rw [hd]; rfl : allowIn s t l q p n = false))
    clear hd Cq Cp Ci
    generalize q.length = m at *
    go_enter Tryz.func44, Tryz.ntmps44
    go_wp2_with (go_at_call 77; refine Cd.mono ?_; rintro e w2 ⟨rfl, he2⟩)
    go_ret
    exact ⟨ret_b Hr.out.symm, e0.trans he2⟩
  | true =>
  rw [hd] at Cd
  cases hqo : quotasOk q with
  | false =>
    simp only [hqo] at Cq
    have Hr := Lib.hid (allow_no (p := p) (n := n) (by unfold allowIn; rw [hd, hqo]; rfl : allowIn s t l q p n = false))
    clear hd hqo Cp Ci
    generalize q.length = m at *
    go_enter Tryz.func44, Tryz.ntmps44
    go_wp2_with (first | (go_at_call 77; refine Cd.mono ?_; rintro e w2 ⟨rfl, he2⟩) | (go_at_call 113; refine (Cq _ (e0.trans he2)).mono ?_; rintro e w3 ⟨rfl, he3⟩))
    go_ret
    exact ⟨ret_b Hr.out.symm, e0.trans (he2.trans he3)⟩
  | true =>
  simp only [hqo] at Cq
  cases hpo : pathOk p with
  | false =>
    simp only [hpo] at Cp
    have Hr := Lib.hid (allow_no (n := n) (by unfold allowIn; rw [hd, hqo, hpo]; rfl : allowIn s t l q p n = false))
    clear hd hqo hpo Ci
    generalize q.length = m at *
    go_enter Tryz.func44, Tryz.ntmps44
    go_wp2_with (first | (go_at_call 77; refine Cd.mono ?_; rintro e w2 ⟨rfl, he2⟩) | (go_at_call 113; refine (Cq _ (e0.trans he2)).mono ?_; rintro e w3 ⟨rfl, he3⟩) | (go_at_call 106; refine (Cp _).mono ?_; rintro e w4 ⟨rfl, he4⟩))
    go_ret
    exact ⟨ret_b Hr.out.symm, e0.trans ((he2.trans he3).trans he4)⟩
  | true =>
  simp only [hpo] at Cp
  cases hni : inB n 0 32 with
  | false =>
    simp only [hni] at Ci
    have Hr := Lib.hid (allow_no (by unfold allowIn; rw [hd, hqo, hpo, hni]; rfl : allowIn s t l q p n = false))
    clear hd hqo hpo hni
    generalize q.length = m at *
    go_enter Tryz.func44, Tryz.ntmps44
    go_wp2_with (first | (go_at_call 77; refine Cd.mono ?_; rintro e w2 ⟨rfl, he2⟩) | (go_at_call 113; refine (Cq _ (e0.trans he2)).mono ?_; rintro e w3 ⟨rfl, he3⟩) | (go_at_call 106; refine (Cp _).mono ?_; rintro e w4 ⟨rfl, he4⟩) | (go_at_call 114; refine (Ci _).mono ?_; rintro e w5 ⟨rfl, he5⟩))
    go_ret
    exact ⟨ret_b Hr.out.symm, e0.trans (((he2.trans he3).trans he4).trans he5)⟩
  | true =>
  simp only [hni] at Ci
  obtain ⟨hn0, hn32⟩ := inB_iff.1 hni
  have Ha : Hid (allowOk s t l q p n = q.all fun x => !qtNo s t p n x) := Lib.hid (by unfold allowOk allowIn; rw [hd, hqo, hpo, hni]; rfl)
  obtain ⟨hso, hto, hfit, -, -⟩ := disk_parts hd
  have h12 := (treeOk_iff'.1 hto).1
  have Hul := Lib.hid fun d => usedBut_le hso hfit h12 d p
  have Cu := fun d (hd : d.size < lim) W (e : Ext w W) => l15Used_c d p W (HS.out.ext e) (HT.out.ext e) (HN.out.ext e) hso hfit h12 hd
  clear hd hqo hpo hni hso hto hfit h12
  generalize hmm : q.length = m at *
  have Hm := Lib.hid hmm; clear hmm
  go_enter Tryz.func44, Tryz.ntmps44
  go_wp2_with (first | (go_at_call 77; refine Cd.mono ?_; rintro e w2 ⟨rfl, he2⟩) | (go_at_call 113; refine (Cq _ (e0.trans he2)).mono ?_; rintro e w3 ⟨rfl, he3⟩) | (go_at_call 106; refine (Cp _).mono ?_; rintro e w4 ⟨rfl, he4⟩) | (go_at_call 114; refine (Ci _).mono ?_; rintro e w5 ⟨rfl, he5⟩))
  have E5 := ((he2.trans he3).trans he4).trans he5
  clear Cd Cq Cp Ci he2 he3 he4 he5
  go_loopw [9] (fun i wr => ∃ k : Nat, k ≤ m ∧ i = .int .i64 k ∧ Ext (w.alloc (.cells #[.slice A s.length c, .slice A2 t.length c2, .slice A3 l.length c3] 33)) wr ∧ Hid ((q.take k).all (fun x => !qtNo s t p n x) = true)) (fun i _ => m - (intOf i).toNat)
  case atStart => exact ⟨0, by omega, rfl, E5, Lib.hid rfl⟩
  case round =>
    obtain ⟨k, hk, rfl, he, hall⟩ := hrel
    by_cases hlt : k < m
    · obtain ⟨x, hx⟩ := get_of_lt (l := q) (k := k) (by rw [Hm.out]; exact hlt)
      obtain ⟨b, o, rfl, -, -, hps, hmi, hc0, hc1⟩ := Qts.at_ HA.out hx
      have a0 := fun W (e : Ext wr W) => hc0 W ((e0.trans he).trans e)
      have a1 := fun W (e : Ext wr W) => hc1 W ((e0.trans he).trans e)
      have D0 := fun W (e : Ext wr W) => d0 W (he.trans e)
      have D1 := fun W (e : Ext wr W) => d1 W (he.trans e)
      have D2 := fun W (e : Ext wr W) => d2 W (he.trans e)
      have Cw := fun W => l1Within_c p x.dir W hp hps
      have Cx := fun W (e : Ext wr W) => Cu x.dir hps W ((e0.trans he).trans e)
      have hul := Hul.out x.dir
      have Hx := Lib.hid hx
      have hno : qtNo s t p n x = (within p x.dir && decide (x.most < (usedBut s t x.dir p : Nat) + n)) := rfl
      clear hc0 hc1 hx
      generalize usedBut s t x.dir p = u at *
      cases hwi : within p x.dir with
      | false =>
        simp only [hwi] at Cw
        have Hr := Lib.hid (all_take hall.out Hx.out (by simp only [hno, hwi]; rfl))
        clear hno hwi hall Cx
        go_wp2
        refine wp_region_hold (fun W => Ext wr W) 23 [(0, true), (1, true), (2, true), (3, true), (4, true), (5, true), (6, false), (7, true), (8, true), (9, true), (10, true), (11, true), (12, true), (13, true), (14, true), (16, true), (18, true), (19, true), (20, true), (21, true), (22, true), (15, false), (17, true)] (by kernel_rfl) (by kernel_rfl) ?_ ?_
        · exact (Ext.refl _).drew
        (repeat (first | (apply hw_read (by rfl) (by rfl); (· (intro W hW; (try dsimp only at hW); go_simp; (first | done | rfl | (rw [if_pos] <;> first | omega | rfl)))); (try simp only [Act.put, List.setIfInBounds_toArray, List.set_cons_zero, List.set_cons_succ])) | (refine hw_skip (by rfl) (by rfl) ?_; (try simp only [Act.put, List.setIfInBounds_toArray, List.set_cons_zero, List.set_cons_succ]))))
        refine hw_step (by rfl) ?_
        go_wp2_with (go_at_call 115; refine (Cw _).mono ?_; rintro e w4 ⟨rfl, he4⟩)
        have he5 := (Ext.refl wr).drew.trans he4
        refine ⟨he5, ?_⟩
        (repeat (first | (apply hw_read (by rfl) (by rfl); (· (intro W hW; (try dsimp only at hW); go_simp; (first | done | rfl | (rw [if_pos] <;> first | omega | rfl)))); (try simp only [Act.put, List.setIfInBounds_toArray, List.set_cons_zero, List.set_cons_succ])) | (refine hw_skip (by rfl) (by rfl) ?_; (try simp only [Act.put, List.setIfInBounds_toArray, List.set_cons_zero, List.set_cons_succ]))))
        (try (refine hw_step (by rfl) ?_; go_wp2; refine ⟨he5, ?_⟩))
        (try (repeat (first | (apply hw_read (by rfl) (by rfl); (· (intro W hW; (try dsimp only at hW); go_simp; (first | done | rfl | (rw [if_pos] <;> first | omega | rfl)))); (try simp only [Act.put, List.setIfInBounds_toArray, List.set_cons_zero, List.set_cons_succ])) | (refine hw_skip (by rfl) (by rfl) ?_; (try simp only [Act.put, List.setIfInBounds_toArray, List.set_cons_zero, List.set_cons_succ])))))
        (try (refine hw_nil ?_; (try simp only [List.drop_succ_cons, List.drop_zero])))
        go_wp2
        refine NoPanic.normal ?_
        (try dsimp only [Exit.then])
        (try go_wp2)
        go_roundw
        case rel => exact ⟨k + 1, by omega, by go_num, he.trans he5, Hr⟩
        case measure => simp [intOf]; omega
      | true =>
        simp only [hwi] at Cw
        have hw : IntKind.i64.wrap ((u : Int) + n) = (u : Int) + n := by simp [IntKind.wrap, IntKind.min, IntKind.max, IntKind.signed, IntKind.bits]; omega
        by_cases hgt : x.most < (u : Int) + n
        · have Hr : Hid (allowOk s t l q p n = false) := Lib.hid (by rw [Ha.out]; exact all_bad Hx.out (by simp only [hno, hwi]; simp [hgt]))
          clear hno hwi hall
          go_wp2
          refine wp_region_hold (fun W => Ext wr W) 23 [(0, true), (1, true), (2, true), (3, true), (4, true), (5, true), (6, false), (7, true), (8, true), (9, true), (10, true), (11, true), (12, true), (13, true), (14, true), (16, true), (18, true), (19, true), (20, true), (21, true), (22, true), (15, false), (17, true)] (by kernel_rfl) (by kernel_rfl) ?_ ?_
          · exact (Ext.refl _).drew
          (repeat (first | (apply hw_read (by rfl) (by rfl); (· (intro W hW; (try dsimp only at hW); go_simp; (first | done | rfl | (rw [if_pos] <;> first | omega | rfl)))); (try simp only [Act.put, List.setIfInBounds_toArray, List.set_cons_zero, List.set_cons_succ])) | (refine hw_skip (by rfl) (by rfl) ?_; (try simp only [Act.put, List.setIfInBounds_toArray, List.set_cons_zero, List.set_cons_succ]))))
          refine hw_step (by rfl) ?_
          go_wp2_with (go_at_call 115; refine (Cw _).mono ?_; rintro e w4 ⟨rfl, he4⟩)
          have he5 := (Ext.refl wr).drew.trans he4
          refine ⟨he5, ?_⟩
          (repeat (first | (apply hw_read (by rfl) (by rfl); (· (intro W hW; (try dsimp only at hW); go_simp; (first | done | rfl | (rw [if_pos] <;> first | omega | rfl)))); (try simp only [Act.put, List.setIfInBounds_toArray, List.set_cons_zero, List.set_cons_succ])) | (refine hw_skip (by rfl) (by rfl) ?_; (try simp only [Act.put, List.setIfInBounds_toArray, List.set_cons_zero, List.set_cons_succ]))))
          refine hw_step (by rfl) ?_
          go_wp2_with (go_at_call 84; refine (Cx _ he5).mono ?_; rintro e w6 ⟨rfl, he6⟩)
          have he7 := he5.trans he6
          refine ⟨he7, ?_⟩
          (try (repeat (first | (apply hw_read (by rfl) (by rfl); (· (intro W hW; (try dsimp only at hW); go_simp; (first | done | rfl | (rw [if_pos] <;> first | omega | rfl)))); (try simp only [Act.put, List.setIfInBounds_toArray, List.set_cons_zero, List.set_cons_succ])) | (refine hw_skip (by rfl) (by rfl) ?_; (try simp only [Act.put, List.setIfInBounds_toArray, List.set_cons_zero, List.set_cons_succ])))))
          (refine hw_nil ?_; (try simp only [List.drop_succ_cons, List.drop_zero]))
          go_wp2
          refine NoPanic.normal ?_
          (try dsimp only [Exit.then])
          (try go_wp2)
          go_ret
          exact ⟨ret_b Hr.out.symm, e0.trans (he.trans he7)⟩
        · have Hr := Lib.hid (all_take hall.out Hx.out (by simp only [hno, hwi]; simp; omega))
          clear hno hwi hall
          go_wp2
          refine wp_region_hold (fun W => Ext wr W) 23 [(0, true), (1, true), (2, true), (3, true), (4, true), (5, true), (6, false), (7, true), (8, true), (9, true), (10, true), (11, true), (12, true), (13, true), (14, true), (16, true), (18, true), (19, true), (20, true), (21, true), (22, true), (15, false), (17, true)] (by kernel_rfl) (by kernel_rfl) ?_ ?_
          · exact (Ext.refl _).drew
          (repeat (first | (apply hw_read (by rfl) (by rfl); (· (intro W hW; (try dsimp only at hW); go_simp; (first | done | rfl | (rw [if_pos] <;> first | omega | rfl)))); (try simp only [Act.put, List.setIfInBounds_toArray, List.set_cons_zero, List.set_cons_succ])) | (refine hw_skip (by rfl) (by rfl) ?_; (try simp only [Act.put, List.setIfInBounds_toArray, List.set_cons_zero, List.set_cons_succ]))))
          refine hw_step (by rfl) ?_
          go_wp2_with (go_at_call 115; refine (Cw _).mono ?_; rintro e w4 ⟨rfl, he4⟩)
          have he5 := (Ext.refl wr).drew.trans he4
          refine ⟨he5, ?_⟩
          (repeat (first | (apply hw_read (by rfl) (by rfl); (· (intro W hW; (try dsimp only at hW); go_simp; (first | done | rfl | (rw [if_pos] <;> first | omega | rfl)))); (try simp only [Act.put, List.setIfInBounds_toArray, List.set_cons_zero, List.set_cons_succ])) | (refine hw_skip (by rfl) (by rfl) ?_; (try simp only [Act.put, List.setIfInBounds_toArray, List.set_cons_zero, List.set_cons_succ]))))
          refine hw_step (by rfl) ?_
          go_wp2_with (go_at_call 84; refine (Cx _ he5).mono ?_; rintro e w6 ⟨rfl, he6⟩)
          have he7 := he5.trans he6
          refine ⟨he7, ?_⟩
          (try (repeat (first | (apply hw_read (by rfl) (by rfl); (· (intro W hW; (try dsimp only at hW); go_simp; (first | done | rfl | (rw [if_pos] <;> first | omega | rfl)))); (try simp only [Act.put, List.setIfInBounds_toArray, List.set_cons_zero, List.set_cons_succ])) | (refine hw_skip (by rfl) (by rfl) ?_; (try simp only [Act.put, List.setIfInBounds_toArray, List.set_cons_zero, List.set_cons_succ])))))
          (refine hw_nil ?_; (try simp only [List.drop_succ_cons, List.drop_zero]))
          go_wp2
          refine NoPanic.normal ?_
          (try dsimp only [Exit.then])
          (try go_wp2)
          go_roundw
          case rel => exact ⟨k + 1, by omega, by go_num, he.trans he7, Hr⟩
          case measure => simp [intOf]; omega
    · have hks : k = m := by omega
      subst hks
      have Hr : Hid (allowOk s t l q p n = true) := Lib.hid (by rw [Ha.out]; exact all_end hall.out Hm.out)
      clear hall
      go_wp2
      go_ret
      exact ⟨ret_b Hr.out.symm, e0.trans he⟩
set_option maxRecDepth 8000 in
set_option maxHeartbeats 8000000 in
theorem QuotasAllow_c {a : Addr} {B B' B2 B3 : Nat} {vs vt vn vq : Value} {s : List Hd} {t : List It} {l : List Sn} {q : List Qt} (p : ByteArray) (n : Int) (w : World) (hs : Hds B w vs s) (ht : Its B' w vt t) (hn : Sns B2 w vn l) (hq : Qts B3 w vq q) (hp : p.size < lim) (hin : inI n) (hm : ML w) (hE : EB a w) :
    Calls Tryz.prog 46 #[.agg #[vs, vt, vn], vq, .string p, .int .i64 n] w (Ret (.bool (allowOk s t l q p n)) w) := by
  have HS := Lib.hid hs; have HT := Lib.hid ht; have HN := Lib.hid hn; have HQ := Lib.hid hq; have HM := Lib.hid hm
  obtain ⟨A, c, rfl, -⟩ := hs
  obtain ⟨A2, c2, rfl, -⟩ := ht
  obtain ⟨A3, c3, rfl, -⟩ := hn
  obtain ⟨A4, c4, rfl, hA⟩ := hq
  have hl := hA.2.2.1
  unfold lim at hl
  have HA := Lib.hid hA
  have e0 : Ext w (w.alloc (.cells #[.slice A s.length c, .slice A2 t.length c2, .slice A3 l.length c3] 33)) := (Ext.refl w).alloc _
  have Cn := newDisk_c _ (HS.out.ext e0) (HT.out.ext e0) (HN.out.ext e0) (HM.out.ext e0)
  clear hm hA
  go_enter Tryz.func46, Tryz.ntmps46
  go_wp2_with fail
  refine Cn.mono ?_
  rintro e w1 ⟨he1, ⟨hv, rfl⟩ | ⟨hv, g, rfl, b, adr, kv, v, aq, -, hD, hSt, hTr, -, -⟩⟩
  · have Hr := Lib.hid (allow_no (q := q) (p := p) (n := n) (by unfold allowIn; rw [hv]; rfl : allowIn s t l q p n = false))
    clear hv Cn
    generalize q.length = m at *
    go_wp2
    go_ret
    exact ⟨ret_b Hr.out.symm, e0.trans he1⟩
  have E1 := Lib.hid (e0.trans he1)
  have HE : Hid (EB a w1) := Lib.hid (hE.ext E1.out)
  have Cq := QuotasValid_c w1 (HQ.out.ext E1.out) (HM.out.ext E1.out)
  have Cp := fun W (e : Ext w1 W) => PathValid_c p W hp (HM.out.ext (E1.out.trans e))
  have g2 := fun W (e : Ext w1 W) => hD.at_ (i := 2) (u := .map (some b)) rfl W e
  have g3 := fun W (e : Ext w1 W) => hD.at_ (i := 3) (u := .pointer (some ⟨adr [], 0, none⟩)) rfl W e
  clear hD Cn hE
  cases hqo : quotasOk q with
  | false =>
    rw [hqo] at Cq
    have Hr := Lib.hid (allow_no (p := p) (n := n) (by unfold allowIn; rw [hv, hqo]; rfl : allowIn s t l q p n = false))
    clear hv hqo hSt hTr Cp
    generalize q.length = m at *
    go_wp2_with (go_at_call 117; refine Cq.mono ?_; rintro e w2 ⟨rfl, he2⟩)
    go_ret
    exact ⟨ret_b Hr.out.symm, E1.out.trans he2⟩
  | true =>
  rw [hqo] at Cq
  cases hpo : pathOk p with
  | false =>
    simp only [hpo] at Cp
    have Hr := Lib.hid (allow_no (n := n) (by unfold allowIn; rw [hv, hqo, hpo]; rfl : allowIn s t l q p n = false))
    clear hv hqo hpo hSt hTr
    generalize q.length = m at *
    go_wp2_with (first | (go_at_call 117; refine Cq.mono ?_; rintro e w2 ⟨rfl, he2⟩) | (go_at_call 108; refine (Cp _ he2).mono ?_; rintro e w3 ⟨rfl, he3⟩))
    go_ret
    exact ⟨ret_b Hr.out.symm, E1.out.trans (he2.trans he3)⟩
  | true =>
  simp only [hpo] at Cp
  by_cases hn0 : n < 0
  · have Hr := Lib.hid (allow_no (by unfold allowIn; rw [hv, hqo, hpo, show inB n 0 32 = false from by unfold inB; simp; omega]; rfl : allowIn s t l q p n = false))
    clear hv hqo hpo hSt hTr
    generalize q.length = m at *
    go_wp2_with (first | (go_at_call 117; refine Cq.mono ?_; rintro e w2 ⟨rfl, he2⟩) | (go_at_call 108; refine (Cp _ he2).mono ?_; rintro e w3 ⟨rfl, he3⟩))
    go_ret
    exact ⟨ret_b Hr.out.symm, E1.out.trans (he2.trans he3)⟩
  by_cases hn32 : 32 < n
  · have Hr := Lib.hid (allow_no (by unfold allowIn; rw [hv, hqo, hpo, show inB n 0 32 = false from by unfold inB; simp; omega]; rfl : allowIn s t l q p n = false))
    clear hv hqo hpo hSt hTr
    generalize q.length = m at *
    go_wp2_with (first | (go_at_call 117; refine Cq.mono ?_; rintro e w2 ⟨rfl, he2⟩) | (go_at_call 108; refine (Cp _ he2).mono ?_; rintro e w3 ⟨rfl, he3⟩))
    go_ret
    exact ⟨ret_b Hr.out.symm, E1.out.trans (he2.trans he3)⟩
  have hni : inB n 0 32 = true := by unfold inB; simp; omega
  have Ha : Hid (allowOk s t l q p n = q.all fun x => !qtNo s t p n x) := Lib.hid (by unfold allowOk allowIn; rw [hv, hqo, hpo, hni]; rfl)
  obtain ⟨hso, hto, hfit, -, -⟩ := disk_parts hv
  have hg := treeOk_iff'.1 hto
  have h12 := hg.1
  have Hul := Lib.hid fun d => usedBut_le hso hfit h12 d p
  have Hsp := Lib.hid fun d (hw : within p d = true) => used_at (s := s) hto hw
  have hsz := sizeAt_le hso hfit p
  have Cu := fun d (hd : d.size < lim) W (e : Ext w1 W) => used_c d W hso (hSt.ext e) hto (hTr.ext e) hfit hd (HM.out.ext (E1.out.trans e))
  have Cf := fun W (e : Ext w1 W) => nodeFind_c (hTr.ext e) hg.2 (by unfold lim; omega) p hp (HM.out.ext (E1.out.trans e))
  have Hpo := Lib.hid hpo
  generalize hmm : q.length = m at *
  have Hm := Lib.hid hmm; clear hmm
  cases hf : findIt t p with
  | none =>
    have hsa : sizeAt s t p = 0 := by unfold sizeAt; rw [hf]
    rw [hsa] at Hsp
    have e1 : findV t adr p = .pointer none := by unfold findV; rw [hf]
    simp only [e1] at Cf
    clear hf hsa e1 hsz hv hqo hpo hni hso hto hfit hg h12 hSt hTr
    go_wp2_with (first | (go_at_call 117; refine Cq.mono ?_; rintro e w2 ⟨rfl, he2⟩) | (go_at_call 108; refine (Cp _ he2).mono ?_; rintro e w3 ⟨rfl, he3⟩; have z3 := g3 w3 (he2.trans he3)) | (go_at_call 81; refine (Cf _ (he2.trans he3)).mono ?_; rintro e w4 ⟨rfl, he4⟩))
    have E4 := (he2.trans he3).trans he4
    clear Cq Cp Cf he2 he3 he4 z3
    go_loopw [65] (fun i wr => ∃ k : Nat, k ≤ m ∧ i = .int .i64 k ∧ Ext w1 wr ∧ Hid ((q.take k).all (fun x => !qtNo s t p n x) = true)) (fun i _ => m - (intOf i).toNat)
    case atStart => exact ⟨0, by omega, rfl, E4, Lib.hid rfl⟩
    case round =>
      obtain ⟨k, hk, rfl, he, hall⟩ := hrel
      by_cases hlt : k < m
      · obtain ⟨x, hx⟩ := get_of_lt (l := q) (k := k) (by rw [Hm.out]; exact hlt)
        obtain ⟨b9, o9, rfl, -, -, hps, hmi, hc0, hc1⟩ := Qts.at_ HA.out hx
        have a0 := hc0 wr (E1.out.trans he); have a1 := hc1 wr (E1.out.trans he)
        have ea : Ext wr (wr.alloc (.cells #[.string x.dir, .int .i64 x.most] 164)) := (Ext.refl wr).alloc _
        have hbs := Blk.new wr 164 #[.string x.dir, .int .i64 x.most]
        have s0 := fun W (e : Ext _ W) => hbs.at_ (i := 0) (u := .string x.dir) rfl W e
        have s1 := fun W (e : Ext _ W) => hbs.at_ (i := 1) (u := .int .i64 x.most) rfl W e
        have Cw := PathWithin_c p x.dir _ hp hps (HM.out.ext (E1.out.trans (he.trans ea)))
        rw [Hpo.out, Bool.true_and] at Cw
        have Cx := fun W (e : Ext w1 W) => Cu x.dir hps W e
        have Cc := fun z W (e : Ext w1 W) => check_c (a := a) x.dir x.most z W (HE.out.ext e)
        have G2 := fun W (e : Ext (wr.alloc (.cells #[.string x.dir, .int .i64 x.most] 164)) W) => g2 W (he.trans (ea.trans e))
        have G3 := fun W (e : Ext (wr.alloc (.cells #[.string x.dir, .int .i64 x.most] 164)) W) => g3 W (he.trans (ea.trans e))
        have hul := Hul.out x.dir
        have Hx := Lib.hid hx
        have hno : qtNo s t p n x = (within p x.dir && decide (x.most < (usedBut s t x.dir p : Nat) + n)) := rfl
        clear hc0 hc1 hx hbs
        cases hwi : within p x.dir with
        | false =>
          rw [hwi] at Cw
          have Hr := Lib.hid (all_take hall.out Hx.out (by simp only [hno, hwi]; rfl))
          clear hno hwi hall Cx Cc
          go_wp2_with (go_at_call 119; refine Cw.mono ?_; rintro e w2 ⟨rfl, he2⟩)
          go_roundw
          case rel => exact ⟨k + 1, by omega, by go_num, he.trans (ea.trans he2), Hr⟩
          case measure => simp [intOf]; omega
        | true =>
          rw [hwi] at Cw
          have hsp := Hsp.out x.dir hwi
          have hw : IntKind.i64.wrap ((usedT s t x.dir : Int) + n) = (usedBut s t x.dir p : Int) + n := by
            rw [show (usedT s t x.dir : Int) + n = (usedBut s t x.dir p : Int) + n from by omega]
            simp [IntKind.wrap, IntKind.min, IntKind.max, IntKind.signed, IntKind.bits]; omega
          generalize usedBut s t x.dir p = u at *
          generalize usedT s t x.dir = ut at *
          have Cd := Cc ((u : Int) + n)
          clear Cc hsp
          by_cases hgt : x.most < (u : Int) + n
          · have Hr : Hid (allowOk s t l q p n = false) := Lib.hid (by rw [Ha.out]; exact all_bad Hx.out (by simp only [hno, hwi]; simp [hgt]))
            simp only [if_pos hgt] at Cd
            clear hno hwi hall
            go_wp2_with (go_at_call 119; refine Cw.mono ?_; rintro e w2 ⟨rfl, he2⟩)
            refine wp_region_hold (fun W => Ext (wr.alloc (.cells #[.string x.dir, .int .i64 x.most] 164)) W) 10 [(0, true), (1, true), (2, true), (3, true), (4, true), (5, true), (6, true), (8, true), (7, false), (9, true)] (by kernel_rfl) (by kernel_rfl) ?_ ?_
            · exact he2.drew
            (repeat (first | (apply hw_read (by rfl) (by rfl); (· (intro W hW; (try dsimp only at hW); go_simp; (first | done | rfl | (rw [if_pos] <;> first | omega | rfl)))); (try simp only [Act.put, List.setIfInBounds_toArray, List.set_cons_zero, List.set_cons_succ])) | (refine hw_skip (by rfl) (by rfl) ?_; (try simp only [Act.put, List.setIfInBounds_toArray, List.set_cons_zero, List.set_cons_succ]))))
            refine hw_step (by rfl) ?_
            go_wp2_with (go_at_call 86; refine (Cx _ (he.trans (ea.trans he2.drew))).mono ?_; rintro e w4 ⟨rfl, he4⟩)
            have he5 := he2.drew.trans he4
            refine ⟨he5, ?_⟩
            (repeat (first | (apply hw_read (by rfl) (by rfl); (· (intro W hW; (try dsimp only at hW); go_simp; (first | done | rfl | (rw [if_pos] <;> first | omega | rfl)))); (try simp only [Act.put, List.setIfInBounds_toArray, List.set_cons_zero, List.set_cons_succ])) | (refine hw_skip (by rfl) (by rfl) ?_; (try simp only [Act.put, List.setIfInBounds_toArray, List.set_cons_zero, List.set_cons_succ]))))
            (refine hw_nil ?_; (try simp only [List.drop_succ_cons, List.drop_zero]))
            go_wp2_with (go_at_call 120; refine (Cd _ (he.trans (ea.trans he5))).mono ?_; rintro e w6 ⟨rfl, he6⟩)
            refine NoPanic.normal ?_
            (try dsimp only [Exit.then])
            have z0 : w6.cell? ⟨0, 0, none⟩ = some (.iface 371 (.pointer (some a))) := HE.out.ext (he.trans (ea.trans (he5.trans he6)))
            go_wp2_with (go_at_call 121; refine (is_same a _).mono ?_; rintro e w7 ⟨rfl, rfl⟩)
            go_ret
            exact ⟨ret_b Hr.out.symm, E1.out.trans (he.trans (ea.trans (he5.trans he6)))⟩
          · have Hr := Lib.hid (all_take hall.out Hx.out (by simp only [hno, hwi]; simp; omega))
            simp only [if_neg hgt] at Cd
            clear hno hwi hall
            go_wp2_with (go_at_call 119; refine Cw.mono ?_; rintro e w2 ⟨rfl, he2⟩)
            refine wp_region_hold (fun W => Ext (wr.alloc (.cells #[.string x.dir, .int .i64 x.most] 164)) W) 10 [(0, true), (1, true), (2, true), (3, true), (4, true), (5, true), (6, true), (8, true), (7, false), (9, true)] (by kernel_rfl) (by kernel_rfl) ?_ ?_
            · exact he2.drew
            (repeat (first | (apply hw_read (by rfl) (by rfl); (· (intro W hW; (try dsimp only at hW); go_simp; (first | done | rfl | (rw [if_pos] <;> first | omega | rfl)))); (try simp only [Act.put, List.setIfInBounds_toArray, List.set_cons_zero, List.set_cons_succ])) | (refine hw_skip (by rfl) (by rfl) ?_; (try simp only [Act.put, List.setIfInBounds_toArray, List.set_cons_zero, List.set_cons_succ]))))
            refine hw_step (by rfl) ?_
            go_wp2_with (go_at_call 86; refine (Cx _ (he.trans (ea.trans he2.drew))).mono ?_; rintro e w4 ⟨rfl, he4⟩)
            have he5 := he2.drew.trans he4
            refine ⟨he5, ?_⟩
            (repeat (first | (apply hw_read (by rfl) (by rfl); (· (intro W hW; (try dsimp only at hW); go_simp; (first | done | rfl | (rw [if_pos] <;> first | omega | rfl)))); (try simp only [Act.put, List.setIfInBounds_toArray, List.set_cons_zero, List.set_cons_succ])) | (refine hw_skip (by rfl) (by rfl) ?_; (try simp only [Act.put, List.setIfInBounds_toArray, List.set_cons_zero, List.set_cons_succ]))))
            (refine hw_nil ?_; (try simp only [List.drop_succ_cons, List.drop_zero]))
            go_wp2_with (go_at_call 120; refine (Cd _ (he.trans (ea.trans he5))).mono ?_; rintro e w6 ⟨rfl, he6⟩)
            refine NoPanic.normal ?_
            (try dsimp only [Exit.then])
            have z0 : w6.cell? ⟨0, 0, none⟩ = some (.iface 371 (.pointer (some a))) := HE.out.ext (he.trans (ea.trans (he5.trans he6)))
            go_wp2_with (go_at_call 121; refine (is_nil a _).mono ?_; rintro e w7 ⟨rfl, rfl⟩)
            go_roundw
            case rel => exact ⟨k + 1, by omega, by go_num, he.trans (ea.trans (he5.trans he6)), Hr⟩
            case measure => simp [intOf]; omega
      · have hks : k = m := by omega
        subst hks
        have Hr : Hid (allowOk s t l q p n = true) := Lib.hid (by rw [Ha.out]; exact all_end hall.out Hm.out)
        clear hall
        go_wp2
        go_ret
        exact ⟨ret_b Hr.out.symm, E1.out.trans he⟩
  | some y =>
    have hsa : sizeAt s t p = (loadOf s y.ids).length := by unfold sizeAt; rw [hf]
    rw [hsa] at Hsp hsz
    have e1 : findV t adr p = .pointer (some ⟨adr (key y), 0, none⟩) := by unfold findV; rw [hf]
    simp only [e1] at Cf
    have hym := (findIt_some hf).1
    obtain ⟨-, -, u, hb, hu⟩ := hTr.nodes y hym
    have y2 := fun W (e : Ext w1 W) => hb.at_ (i := 2) (u := u) rfl W e
    have Cz := fun W (e : Ext w1 W) => sizeOf_c W hso (hSt.ext e) (hu.ext e) (hfit y hym)
    obtain ⟨Au, cu, rfl, -⟩ := hu
    clear hf hsa e1 hv hqo hpo hni hso hto hfit hg h12 hSt hTr hb hym
    generalize (loadOf s y.ids).length = ll at *
    have hwl : IntKind.i64.wrap (n - (ll : Int)) = n - (ll : Int) := by simp [IntKind.wrap, IntKind.min, IntKind.max, IntKind.signed, IntKind.bits]; omega
    go_wp2_with (first | (go_at_call 117; refine Cq.mono ?_; rintro e w2 ⟨rfl, he2⟩) | (go_at_call 108; refine (Cp _ he2).mono ?_; rintro e w3 ⟨rfl, he3⟩; have z3 := g3 w3 (he2.trans he3)) | (go_at_call 81; refine (Cf _ (he2.trans he3)).mono ?_; rintro e w4 ⟨rfl, he4⟩))
    have E4 := (he2.trans he3).trans he4
    clear Cq Cp Cf he2 he3 he4 z3
    refine wp_region_hold (fun W => W.cell? ⟨g, 2, none⟩ = some (.map (some b)) ∧ W.cell? ⟨adr (key y), 2, none⟩ = some (.slice Au y.ids.length cu)) 11 [(0, true), (1, true), (2, true), (3, true), (4, true), (5, true), (6, true), (7, true), (8, true), (9, true), (10, false)] (by kernel_rfl) (by kernel_rfl) ?_ ?_
    · exact ⟨g2 _ E4.drew, y2 _ E4.drew⟩
    (repeat (first | (apply hw_read (by rfl) (by rfl); (· (intro W hW; (try dsimp only at hW); go_simp; (first | done | rfl | (rw [if_pos] <;> first | omega | rfl)))); (try simp only [Act.put, List.setIfInBounds_toArray, List.set_cons_zero, List.set_cons_succ])) | (refine hw_skip (by rfl) (by rfl) ?_; (try simp only [Act.put, List.setIfInBounds_toArray, List.set_cons_zero, List.set_cons_succ]))))
    refine hw_step (by rfl) ?_
    go_wp2_with (go_at_call 118; refine (Cz _ E4.drew).mono ?_; rintro e w5 ⟨rfl, he5⟩)
    have E5 := E4.drew.trans he5
    refine ⟨⟨g2 _ E5, y2 _ E5⟩, ?_⟩
    (try (repeat (first | (apply hw_read (by rfl) (by rfl); (· (intro W hW; (try dsimp only at hW); go_simp; (first | done | rfl | (rw [if_pos] <;> first | omega | rfl)))); (try simp only [Act.put, List.setIfInBounds_toArray, List.set_cons_zero, List.set_cons_succ])) | (refine hw_skip (by rfl) (by rfl) ?_; (try simp only [Act.put, List.setIfInBounds_toArray, List.set_cons_zero, List.set_cons_succ])))))
    (refine hw_nil ?_; (try simp only [List.drop_succ_cons, List.drop_zero]))
    go_wp2
    refine NoPanic.normal ?_
    (try dsimp only [Exit.then])
    (try go_wp2)
    clear Cz y2
    go_loopw [65] (fun i wr => ∃ k : Nat, k ≤ m ∧ i = .int .i64 k ∧ Ext w1 wr ∧ Hid ((q.take k).all (fun x => !qtNo s t p n x) = true)) (fun i _ => m - (intOf i).toNat)
    case atStart => exact ⟨0, by omega, rfl, E5, Lib.hid rfl⟩
    case round =>
      obtain ⟨k, hk, rfl, he, hall⟩ := hrel
      by_cases hlt : k < m
      · obtain ⟨x, hx⟩ := get_of_lt (l := q) (k := k) (by rw [Hm.out]; exact hlt)
        obtain ⟨b9, o9, rfl, -, -, hps, hmi, hc0, hc1⟩ := Qts.at_ HA.out hx
        have a0 := hc0 wr (E1.out.trans he); have a1 := hc1 wr (E1.out.trans he)
        have ea : Ext wr (wr.alloc (.cells #[.string x.dir, .int .i64 x.most] 164)) := (Ext.refl wr).alloc _
        have hbs := Blk.new wr 164 #[.string x.dir, .int .i64 x.most]
        have s0 := fun W (e : Ext _ W) => hbs.at_ (i := 0) (u := .string x.dir) rfl W e
        have s1 := fun W (e : Ext _ W) => hbs.at_ (i := 1) (u := .int .i64 x.most) rfl W e
        have Cw := PathWithin_c p x.dir _ hp hps (HM.out.ext (E1.out.trans (he.trans ea)))
        rw [Hpo.out, Bool.true_and] at Cw
        have Cx := fun W (e : Ext w1 W) => Cu x.dir hps W e
        have Cc := fun z W (e : Ext w1 W) => check_c (a := a) x.dir x.most z W (HE.out.ext e)
        have G2 := fun W (e : Ext (wr.alloc (.cells #[.string x.dir, .int .i64 x.most] 164)) W) => g2 W (he.trans (ea.trans e))
        have G3 := fun W (e : Ext (wr.alloc (.cells #[.string x.dir, .int .i64 x.most] 164)) W) => g3 W (he.trans (ea.trans e))
        have hul := Hul.out x.dir
        have Hx := Lib.hid hx
        have hno : qtNo s t p n x = (within p x.dir && decide (x.most < (usedBut s t x.dir p : Nat) + n)) := rfl
        clear hc0 hc1 hx hbs
        cases hwi : within p x.dir with
        | false =>
          rw [hwi] at Cw
          have Hr := Lib.hid (all_take hall.out Hx.out (by simp only [hno, hwi]; rfl))
          clear hno hwi hall Cx Cc
          go_wp2_with (go_at_call 119; refine Cw.mono ?_; rintro e w2 ⟨rfl, he2⟩)
          go_roundw
          case rel => exact ⟨k + 1, by omega, by go_num, he.trans (ea.trans he2), Hr⟩
          case measure => simp [intOf]; omega
        | true =>
          rw [hwi] at Cw
          have hsp := Hsp.out x.dir hwi
          have hw : IntKind.i64.wrap ((usedT s t x.dir : Int) + (n - (ll : Int))) = (usedBut s t x.dir p : Int) + n := by
            rw [show (usedT s t x.dir : Int) + (n - (ll : Int)) = (usedBut s t x.dir p : Int) + n from by omega]
            simp [IntKind.wrap, IntKind.min, IntKind.max, IntKind.signed, IntKind.bits]; omega
          generalize usedBut s t x.dir p = u at *
          generalize usedT s t x.dir = ut at *
          have Cd := Cc ((u : Int) + n)
          clear Cc hsp
          by_cases hgt : x.most < (u : Int) + n
          · have Hr : Hid (allowOk s t l q p n = false) := Lib.hid (by rw [Ha.out]; exact all_bad Hx.out (by simp only [hno, hwi]; simp [hgt]))
            simp only [if_pos hgt] at Cd
            clear hno hwi hall
            go_wp2_with (go_at_call 119; refine Cw.mono ?_; rintro e w2 ⟨rfl, he2⟩)
            refine wp_region_hold (fun W => Ext (wr.alloc (.cells #[.string x.dir, .int .i64 x.most] 164)) W) 10 [(0, true), (1, true), (2, true), (3, true), (4, true), (5, true), (6, true), (8, true), (7, false), (9, true)] (by kernel_rfl) (by kernel_rfl) ?_ ?_
            · exact he2.drew
            (repeat (first | (apply hw_read (by rfl) (by rfl); (· (intro W hW; (try dsimp only at hW); go_simp; (first | done | rfl | (rw [if_pos] <;> first | omega | rfl)))); (try simp only [Act.put, List.setIfInBounds_toArray, List.set_cons_zero, List.set_cons_succ])) | (refine hw_skip (by rfl) (by rfl) ?_; (try simp only [Act.put, List.setIfInBounds_toArray, List.set_cons_zero, List.set_cons_succ]))))
            refine hw_step (by rfl) ?_
            go_wp2_with (go_at_call 86; refine (Cx _ (he.trans (ea.trans he2.drew))).mono ?_; rintro e w4 ⟨rfl, he4⟩)
            have he5 := he2.drew.trans he4
            refine ⟨he5, ?_⟩
            (repeat (first | (apply hw_read (by rfl) (by rfl); (· (intro W hW; (try dsimp only at hW); go_simp; (first | done | rfl | (rw [if_pos] <;> first | omega | rfl)))); (try simp only [Act.put, List.setIfInBounds_toArray, List.set_cons_zero, List.set_cons_succ])) | (refine hw_skip (by rfl) (by rfl) ?_; (try simp only [Act.put, List.setIfInBounds_toArray, List.set_cons_zero, List.set_cons_succ]))))
            (refine hw_nil ?_; (try simp only [List.drop_succ_cons, List.drop_zero]))
            go_wp2_with (go_at_call 120; refine (Cd _ (he.trans (ea.trans he5))).mono ?_; rintro e w6 ⟨rfl, he6⟩)
            refine NoPanic.normal ?_
            (try dsimp only [Exit.then])
            have z0 : w6.cell? ⟨0, 0, none⟩ = some (.iface 371 (.pointer (some a))) := HE.out.ext (he.trans (ea.trans (he5.trans he6)))
            go_wp2_with (go_at_call 121; refine (is_same a _).mono ?_; rintro e w7 ⟨rfl, rfl⟩)
            go_ret
            exact ⟨ret_b Hr.out.symm, E1.out.trans (he.trans (ea.trans (he5.trans he6)))⟩
          · have Hr := Lib.hid (all_take hall.out Hx.out (by simp only [hno, hwi]; simp; omega))
            simp only [if_neg hgt] at Cd
            clear hno hwi hall
            go_wp2_with (go_at_call 119; refine Cw.mono ?_; rintro e w2 ⟨rfl, he2⟩)
            refine wp_region_hold (fun W => Ext (wr.alloc (.cells #[.string x.dir, .int .i64 x.most] 164)) W) 10 [(0, true), (1, true), (2, true), (3, true), (4, true), (5, true), (6, true), (8, true), (7, false), (9, true)] (by kernel_rfl) (by kernel_rfl) ?_ ?_
            · exact he2.drew
            (repeat (first | (apply hw_read (by rfl) (by rfl); (· (intro W hW; (try dsimp only at hW); go_simp; (first | done | rfl | (rw [if_pos] <;> first | omega | rfl)))); (try simp only [Act.put, List.setIfInBounds_toArray, List.set_cons_zero, List.set_cons_succ])) | (refine hw_skip (by rfl) (by rfl) ?_; (try simp only [Act.put, List.setIfInBounds_toArray, List.set_cons_zero, List.set_cons_succ]))))
            refine hw_step (by rfl) ?_
            go_wp2_with (go_at_call 86; refine (Cx _ (he.trans (ea.trans he2.drew))).mono ?_; rintro e w4 ⟨rfl, he4⟩)
            have he5 := he2.drew.trans he4
            refine ⟨he5, ?_⟩
            (repeat (first | (apply hw_read (by rfl) (by rfl); (· (intro W hW; (try dsimp only at hW); go_simp; (first | done | rfl | (rw [if_pos] <;> first | omega | rfl)))); (try simp only [Act.put, List.setIfInBounds_toArray, List.set_cons_zero, List.set_cons_succ])) | (refine hw_skip (by rfl) (by rfl) ?_; (try simp only [Act.put, List.setIfInBounds_toArray, List.set_cons_zero, List.set_cons_succ]))))
            (refine hw_nil ?_; (try simp only [List.drop_succ_cons, List.drop_zero]))
            go_wp2_with (go_at_call 120; refine (Cd _ (he.trans (ea.trans he5))).mono ?_; rintro e w6 ⟨rfl, he6⟩)
            refine NoPanic.normal ?_
            (try dsimp only [Exit.then])
            have z0 : w6.cell? ⟨0, 0, none⟩ = some (.iface 371 (.pointer (some a))) := HE.out.ext (he.trans (ea.trans (he5.trans he6)))
            go_wp2_with (go_at_call 121; refine (is_nil a _).mono ?_; rintro e w7 ⟨rfl, rfl⟩)
            go_roundw
            case rel => exact ⟨k + 1, by omega, by go_num, he.trans (ea.trans (he5.trans he6)), Hr⟩
            case measure => simp [intOf]; omega
      · have hks : k = m := by omega
        subst hks
        have Hr : Hid (allowOk s t l q p n = true) := Lib.hid (by rw [Ha.out]; exact all_end hall.out Hm.out)
        clear hall
        go_wp2
        go_ret
        exact ⟨ret_b Hr.out.symm, E1.out.trans he⟩
end Go.Sf
