/- How many bytes only a snapshot has: the reference and the program. -/
import Derived.Test.YtneabdoianmfhaaGreatDoorT112
namespace Go.Sf
open Go Go.RowKit Go.Proofs Go.Maps
/-- a block that only files of a tree have -/
def onlyP (t : List It) (h : Hd) : Nat := if eqb (cntT h.id t : Int) h.uses = true then h.bytes.length else 0
def onlyN (s : List Hd) (t : List It) : Nat := (s.map (onlyP t)).sum
noncomputable def countOn (s : List Hd) (t : List It) (l : List Sn) (p : ByteArray) : Int :=
  if diskOk s t l = true then (match l.find? (snIs p) with | some x => (onlyN s x.tree : Int) | none => -1) else -1
theorem countOn_bad {s : List Hd} {t : List It} {l : List Sn} {p : ByteArray} (h : diskOk s t l = false) : countOn s t l p = -1 := by unfold countOn; rw [h]; rfl
theorem countOn_none {s : List Hd} {t : List It} {l : List Sn} {p : ByteArray} (h : l.find? (snIs p) = none) : countOn s t l p = -1 := by unfold countOn; rw [h]; split <;> rfl
theorem countOn_some {s : List Hd} {t : List It} {l : List Sn} {p : ByteArray} {x : Sn} (hd : diskOk s t l = true) (h : l.find? (snIs p) = some x) : countOn s t l p = (onlyN s x.tree : Int) := by unfold countOn; rw [hd, h]; rfl
theorem snAt_cases (l : List Sn) (p : ByteArray) : (l.find? (snIs p) = none ∧ snAt l p = -1) ∨ ∃ (i : Nat) (x : Sn), l[i]? = some x ∧ l.find? (snIs p) = some x ∧ snAt l p = (i : Int) := by
  rcases atG_find (snIs p) l 0 with h | ⟨i, x, h1, -, h3, h4, -⟩
  · exact .inl h
  · exact .inr ⟨i, x, h1, h3, by unfold snAt; rw [h4]; simp⟩
theorem only_take {s : List Hd} {t : List It} {k : Nat} {x : Hd} (h : s[k]? = some x) : ((s.take (k + 1)).map (onlyP t)).sum = ((s.take k).map (onlyP t)).sum + onlyP t x := by
  rw [List.take_add_one, h, Option.toList_some, List.map_append, List.sum_append]; simp
theorem sum_bd {α : Type} (f : α → Nat) (b : Nat) (l : List α) (h : ∀ x, x ∈ l → f x ≤ b) : (l.map f).sum ≤ l.length * b := by
  induction l with
  | nil => simp
  | cons x l ih =>
    have h1 := h x (by simp)
    have h2 := ih fun y hy => h y (by simp [hy])
    rw [List.map_cons, List.sum_cons, List.length_cons, Nat.succ_mul]
    omega
theorem only_le {s : List Hd} (hs : StoreOk s) (t : List It) (k : Nat) : ((s.take k).map (onlyP t)).sum ≤ 128 := by
  have h1 : ((s.take k).map (onlyP t)).sum ≤ (s.take k).length * 8 := sum_bd (onlyP t) 8 (s.take k) fun h hh => by
    obtain ⟨j, hj⟩ := List.mem_iff_getElem?.1 (List.mem_of_mem_take hh)
    have := (block_len (hd_ok (hs.2 j h hj).1).2.1).2
    unfold onlyP; split <;> omega
  have h2 : (s.take k).length ≤ 16 := Nat.le_trans (List.length_take_le' _ _) hs.1
  omega
set_option maxRecDepth 8000 in
set_option maxHeartbeats 4000000 in
theorem specCountOnly_c {B B' B2 : Nat} {vs vt vn : Value} {s : List Hd} {t : List It} {l : List Sn} (p : ByteArray) (w : World) (hs : Hds B w vs s) (ht : Its B' w vt t) (hn : Sns B2 w vn l) :
    Calls Tryz.prog 12 #[.agg #[vs, vt, vn], .string p] w (Ret (.int .i64 (countOn s t l p)) w) := by
  have HS := Lib.hid hs; have HT := Lib.hid ht; have HN := Lib.hid hn
  obtain ⟨A, c, rfl, hA⟩ := hs
  obtain ⟨A2, c2, rfl, -⟩ := ht
  obtain ⟨A3, c3, rfl, hA3⟩ := hn
  have hl := hA.2.2.1
  have hl3 := hA3.2.2.1
  unfold lim at hl hl3
  have e0 : Ext w (w.alloc (.cells #[.slice A s.length c, .slice A2 t.length c2, .slice A3 l.length c3] 33)) := (Ext.refl w).alloc _
  have hbk := Blk.new w 33 #[.slice A s.length c, .slice A2 t.length c2, .slice A3 l.length c3]
  have d0 := fun W (e : Ext _ W) => hbk.at_ (i := 0) (u := .slice A s.length c) rfl W e
  have d1 := fun W (e : Ext _ W) => hbk.at_ (i := 1) (u := .slice A2 t.length c2) rfl W e
  have d2 := fun W (e : Ext _ W) => hbk.at_ (i := 2) (u := .slice A3 l.length c3) rfl W e
  have Ca := l12At_c p _ (HN.out.ext e0)
  have Cd := fun W (e : Ext (w.alloc (.cells #[.slice A s.length c, .slice A2 t.length c2, .slice A3 l.length c3] 33)) W) => specDiskValid_c W (HS.out.ext (e0.trans e)) (HT.out.ext (e0.trans e)) (HN.out.ext (e0.trans e))
  have HA := Lib.hid hA; have HA3 := Lib.hid hA3
  clear hbk hA hA3
  cases hd : diskOk s t l with
  | false =>
    rw [hd] at Cd
    have Hr : Hid (countOn s t l p = -1) := Lib.hid (countOn_bad hd)
    generalize snAt l p = at_ at *
    clear hd
    go_enter Tryz.func12, Tryz.ntmps12
    go_wp2_with (first | (go_at_call 52; refine Ca.mono ?_; rintro e w1 ⟨rfl, he1⟩; have r0 := d0 w1 he1; have r1 := d1 w1 he1; have r2 := d2 w1 he1) | (go_at_call 53; refine (Cd _ he1).mono ?_; rintro e w2 ⟨rfl, he2⟩))
    go_ret
    exact ⟨ret_i Hr.out.symm, e0.trans (he1.trans he2)⟩
  | true =>
    rw [hd] at Cd
    rcases snAt_cases l p with ⟨hf, hi⟩ | ⟨i, y, hy, hf, hi⟩
    · rw [hi] at Ca
      have Hr : Hid (countOn s t l p = -1) := Lib.hid (countOn_none hf)
      clear hd hf hi
      go_enter Tryz.func12, Tryz.ntmps12
      go_wp2_with (first | (go_at_call 52; refine Ca.mono ?_; rintro e w1 ⟨rfl, he1⟩; have r0 := d0 w1 he1; have r1 := d1 w1 he1; have r2 := d2 w1 he1) | (go_at_call 53; refine (Cd _ he1).mono ?_; rintro e w2 ⟨rfl, he2⟩))
      go_ret
      exact ⟨ret_i Hr.out.symm, e0.trans (he1.trans he2)⟩
    rw [hi] at Ca
    have Hr : Hid (countOn s t l p = (onlyN s y.tree : Int)) := Lib.hid (countOn_some hd hf)
    have Hle := Lib.hid (only_le (disk_parts hd).1 y.tree)
    have hil := lt_of_get hy
    obtain ⟨b3, o3, u3, rfl, -, -, -, hu3, -, hn1⟩ := Sns.at_ HA3.out hy
    have HU := Lib.hid hu3
    obtain ⟨A4, c4, rfl, -⟩ := hu3
    have D0 := d0
    generalize hnn : s.length = n at *
    generalize l.length = nl at *
    have Hn := Lib.hid hnn
    have hi0 : ¬ ((i : Int) < 0) := by omega
    clear hd hf hi hnn hy
    go_enter Tryz.func12, Tryz.ntmps12
    go_wp2_with (first | (go_at_call 52; refine Ca.mono ?_; rintro e w1 ⟨rfl, he1⟩; have r0 := d0 w1 he1; have r1 := d1 w1 he1; have r2 := d2 w1 he1) | (go_at_call 53; refine (Cd _ he1).mono ?_; rintro e w2 ⟨rfl, he2⟩))
    go_loopw [6, 7] (fun o i wr => ∃ k : Nat, k ≤ n ∧ i = .int .i64 k ∧ o = .int .i64 (((s.take k).map (onlyP y.tree)).sum : Nat) ∧ Ext (w.alloc (.cells #[.slice A n c, .slice A2 t.length c2, .slice (some ⟨b3, o3, none⟩) nl c3] 33)) wr) (fun _ i _ => n - (RowKit.intOf i).toNat)
    case atStart => exact ⟨0, by omega, rfl, rfl, he1.trans he2⟩
    case round =>
      clear r0 r1 r2 he1 he2
      obtain ⟨k, hk, rfl, rfl, he⟩ := hrel
      have q0 := D0 wr he
      by_cases hlt : k < n
      · obtain ⟨x, hx⟩ := get_of_lt (l := s) (k := k) (by rw [Hn.out]; exact hlt)
        obtain ⟨b, o, u, rfl, -, -, -, hu, -, hc0, hc1, hc2⟩ := Hds.at_ HA.out hx
        have hul := hu.len
        unfold lim at hul
        obtain ⟨Au, cu, rfl, -⟩ := hu
        have E := e0.trans he
        have a0 := fun W (e : Ext wr W) => hc0 W (E.trans e)
        have a1 := fun W (e : Ext wr W) => hc1 W (E.trans e)
        have a2 := fun W (e : Ext wr W) => hc2 W (E.trans e)
        have z0 := fun W (e : Ext wr W) => d0 W (he.trans e)
        have z2 := fun W (e : Ext wr W) => d2 W (he.trans e)
        have y1 := fun W (e : Ext wr W) => hn1 W (E.trans e)
        have Cc := fun W (e : Ext wr W) => l11Count_c x.id W (HU.out.ext (E.trans e))
        have hst := only_take (t := y.tree) hx
        have hbd := Hle.out k
        generalize ((s.take k).map (onlyP y.tree)).sum = acc at *
        by_cases hce : (cntT x.id y.tree : Int) = x.uses
        · have hb : ((cntT x.id y.tree : Int) == x.uses) = true := by simpa using hce
          have hst2 : onlyP y.tree x = x.bytes.length := by unfold onlyP; rw [if_pos (eqb_true.2 hce)]
          rw [hst2] at hst
          have Hst := Lib.hid hst
          generalize (cntT x.id y.tree : Int) = cc at *
          clear hst hst2 hx hc0 hc1 hc2 hce q0 d0 d2 d1
          go_wp2
          refine wp_region_ext (by kernel_rfl) (by kernel_rfl) ?_
          repeat (first | (apply q_plain rfl; (· intro W eW; go_simp; (first | done | rfl | (rw [if_pos] <;> first | omega | rfl))); (try simp only [Act.put, List.setIfInBounds_toArray, List.set_cons_zero, List.set_cons_succ])) | (refine qg_skip (by rfl) ?_; (try simp only [Act.put, List.setIfInBounds_toArray, List.set_cons_zero, List.set_cons_succ])) | (apply qg_plain (by rfl); (· intro W eW; go_simp; (first | done | rfl | (rw [if_pos] <;> first | omega | rfl))); (try simp only [Act.put, List.setIfInBounds_toArray, List.set_cons_zero, List.set_cons_succ])))
          ((first | apply q_call rfl | apply qg_call (by rfl)); (· intro W eW; go_simp; (first | done | (constructor <;> rfl))); (· intro W eW; exact Cc W eW); (try simp only [Act.put, List.setIfInBounds_toArray, List.set_cons_zero, List.set_cons_succ]))
          repeat (first | (apply q_plain rfl; (· intro W eW; go_simp; (first | done | rfl | (rw [if_pos] <;> first | omega | rfl))); (try simp only [Act.put, List.setIfInBounds_toArray, List.set_cons_zero, List.set_cons_succ])) | (refine qg_skip (by rfl) ?_; (try simp only [Act.put, List.setIfInBounds_toArray, List.set_cons_zero, List.set_cons_succ])) | (apply qg_plain (by rfl); (· intro W eW; go_simp; (first | done | rfl | (rw [if_pos] <;> first | omega | rfl))); (try simp only [Act.put, List.setIfInBounds_toArray, List.set_cons_zero, List.set_cons_succ])))
          refine q_nil ?_
          intro w5 e5
          have f0 := z0 w5 e5; have f1 := a1 w5 e5
          clear z0 z2 a0 a1 a2 y1
          go_wp2
          go_roundw
          case rel => exact ⟨k + 1, by omega, by go_num, by rw [Hst.out]; go_num, he.trans e5⟩
          case measure => simp [RowKit.intOf]; omega
        · have hb : ((cntT x.id y.tree : Int) == x.uses) = false := by simpa using hce
          have hst2 : onlyP y.tree x = 0 := by unfold onlyP; rw [if_neg (by rw [eqb_false.2 hce]; simp)]
          rw [hst2, Nat.add_zero] at hst
          have Hst := Lib.hid hst
          generalize (cntT x.id y.tree : Int) = cc at *
          clear hst hst2 hx hc0 hc1 hc2 hce q0 d0 d2 d1
          go_wp2
          refine wp_region_ext (by kernel_rfl) (by kernel_rfl) ?_
          repeat (first | (apply q_plain rfl; (· intro W eW; go_simp; (first | done | rfl | (rw [if_pos] <;> first | omega | rfl))); (try simp only [Act.put, List.setIfInBounds_toArray, List.set_cons_zero, List.set_cons_succ])) | (refine qg_skip (by rfl) ?_; (try simp only [Act.put, List.setIfInBounds_toArray, List.set_cons_zero, List.set_cons_succ])) | (apply qg_plain (by rfl); (· intro W eW; go_simp; (first | done | rfl | (rw [if_pos] <;> first | omega | rfl))); (try simp only [Act.put, List.setIfInBounds_toArray, List.set_cons_zero, List.set_cons_succ])))
          ((first | apply q_call rfl | apply qg_call (by rfl)); (· intro W eW; go_simp; (first | done | (constructor <;> rfl))); (· intro W eW; exact Cc W eW); (try simp only [Act.put, List.setIfInBounds_toArray, List.set_cons_zero, List.set_cons_succ]))
          repeat (first | (apply q_plain rfl; (· intro W eW; go_simp; (first | done | rfl | (rw [if_pos] <;> first | omega | rfl))); (try simp only [Act.put, List.setIfInBounds_toArray, List.set_cons_zero, List.set_cons_succ])) | (refine qg_skip (by rfl) ?_; (try simp only [Act.put, List.setIfInBounds_toArray, List.set_cons_zero, List.set_cons_succ])) | (apply qg_plain (by rfl); (· intro W eW; go_simp; (first | done | rfl | (rw [if_pos] <;> first | omega | rfl))); (try simp only [Act.put, List.setIfInBounds_toArray, List.set_cons_zero, List.set_cons_succ])))
          refine q_nil ?_
          intro w5 e5
          clear z0 z2 a0 a1 a2 y1
          go_wp2
          go_roundw
          case rel => exact ⟨k + 1, by omega, by go_num, by rw [Hst.out]; try rfl, he.trans e5⟩
          case measure => simp [RowKit.intOf]; omega
      · have hks : k = n := by omega
        subst hks
        have Hf : Hid (((((s.take k).map (onlyP y.tree)).sum : Nat) : Int) = countOn s t l p) := Lib.hid (by rw [Hr.out, List.take_of_length_le (by rw [Hn.out]; exact Nat.le_refl _)]; rfl)
        generalize ((s.take k).map (onlyP y.tree)).sum = acc at *
        go_wp2
        go_ret
        exact ⟨ret_i Hf.out, e0.trans he⟩
/-- what looking for a snapshot leaves -/
def CountSP (B : Nat) (w0 : World) (l : List Sn) (p : ByteArray) (e : Ending) (w' : World) : Prop :=
  Ext w0 w' ∧ ((l.find? (snIs p) = none ∧ ∃ m, e = .returned (.tuple #[.pointer none, .iface 190 (.agg #[.string m])])) ∨
    ∃ x adr kv, l.find? (snIs p) = some x ∧ e = .returned (.tuple #[.pointer (some ⟨adr [], 0, none⟩), .nilIface]) ∧ TreeAt B w' x.tree adr kv ∧ treeOk x.tree = true)
set_option maxRecDepth 4000 in
set_option maxHeartbeats 2000000 in
theorem countSnap_c {B g : Nat} {s : List Hd} {t : List It} {l : List Sn} (p : ByteArray) (w : World) (hD : DiskAt B w g s t l) (h6 : l.length ≤ 6) : Calls Tryz.prog 60 #[.pointer (some ⟨g, 0, none⟩), .string p] w (CountSP B w l p) := by
  obtain ⟨b, adr, kv, v, aq, -, hD, -, -, hO, hSn⟩ := hD
  have g4 := fun W (e : Ext w W) => hD.at_ (i := 4) (u := v) rfl W e
  have hal := hSn.1
  have hsl := hO.sl esp_ok (Nat.le_refl _) (by rw [hal]; unfold lim; omega)
  have Ca := snapAt_c p w (g4 w (Ext.refl w)) hsl
  rw [spAt_sn hSn.names] at Ca
  obtain ⟨A8, c8, rfl, hA8⟩ := hsl
  rw [hal] at g4
  have HSn := Lib.hid hSn; have HA8 := Lib.hid hA8
  rcases snAt_cases l p with ⟨hf, hi⟩ | ⟨i, y, hy, hf, hi⟩
  · rw [hi] at Ca
    have Hf := Lib.hid hf
    clear hf hi hD hO hSn hA8
    go_enter Tryz.func60, Tryz.ntmps60
    go_wp2_with (go_at_call 120; refine Ca.mono ?_; rintro e w1 ⟨rfl, he1⟩)
    go_ret2
    exact ⟨he1, .inl ⟨Hf.out, _, rfl⟩⟩
  · rw [hi] at Ca
    have Hf := Lib.hid hf
    have hil := lt_of_get hy
    obtain ⟨hns, hok, adr2, kv2, has, hT2, -⟩ := HSn.out.2 i y hy
    obtain ⟨b8, o8, rfl, -, hc0, hc1⟩ := Sps.at_ HA8.out has
    simp only at hc0 hc1
    have hi0 : ¬ ((i : Int) < 0) := by omega
    have HT := Lib.hid hT2; have Hok := Lib.hid hok
    clear hf hi hD hO hSn hA8 hT2 hok hc0 has hy
    generalize l.length = nl at *
    go_enter Tryz.func60, Tryz.ntmps60
    go_wp2_with (go_at_call 120; refine Ca.mono ?_; rintro e w1 ⟨rfl, he1⟩; have z4 := g4 w1 he1; have z1 := hc1 w1 he1)
    go_ret2
    exact ⟨he1, .inr ⟨y, adr2, kv2, Hf.out, rfl, HT.out.ext he1, Hok.out⟩⟩
set_option maxRecDepth 8000 in
set_option maxHeartbeats 4000000 in
theorem CountOnly_c {B B' B2 : Nat} {vs vt vn : Value} {s : List Hd} {t : List It} {l : List Sn} (p : ByteArray) (w : World) (hs : Hds B w vs s) (ht : Its B' w vt t) (hn : Sns B2 w vn l) (_hp : p.size < lim) (hm : ML w) (het : ET w) :
    Calls Tryz.prog 14 #[.agg #[vs, vt, vn], .string p] w (Ret (.int .i64 (countOn s t l p)) w) := by
  have HS := Lib.hid hs; have HT := Lib.hid ht; have HN := Lib.hid hn; have HM := Lib.hid hm; have HE := Lib.hid het
  obtain ⟨A, c, rfl, -⟩ := hs
  obtain ⟨A2, c2, rfl, -⟩ := ht
  obtain ⟨A3, c3, rfl, -⟩ := hn
  have e0 : Ext w (w.alloc (.cells #[.slice A s.length c, .slice A2 t.length c2, .slice A3 l.length c3] 33)) := (Ext.refl w).alloc _
  have Cn := countDisk_c _ (HS.out.ext e0) (HT.out.ext e0) (HN.out.ext e0) (HM.out.ext e0)
  have hmk := @run_makeMap Tryz.prog
  clear hm het
  go_enter Tryz.func14, Tryz.ntmps14
  go_wp2_with fail
  refine Cn.mono ?_
  rintro e w1 ⟨he1, ⟨hv, m, rfl⟩ | ⟨hv, g, rfl, hD⟩⟩
  · have Hr : Hid (countOn s t l p = -1) := Lib.hid (countOn_bad hv)
    have Cu := uncounted_hit m w1 (HE.out.ext (e0.trans he1))
    clear hv Cn
    go_wp2_with (go_at_call 59; refine Cu.mono ?_; rintro e w2 ⟨rfl, he2⟩)
    go_ret
    exact ⟨ret_i Hr.out.symm, (e0.trans he1).trans he2⟩
  have HO := Lib.hid (disk_parts hv).1
  have Hv := Lib.hid hv
  have h6 := (disk_parts hv).2.2.2.1
  have E1 := Lib.hid (e0.trans he1)
  have HD := Lib.hid hD
  have Cs := fun W (e : Ext w1 W) => countSnap_c p W (HD.out.ext e) h6
  obtain ⟨b, adr0, kv0, v0, aq0, -, hDb, hSt, -, -, -⟩ := hD
  have HSt := Lib.hid hSt
  have g2 := fun W (e : Ext w1 W) => hDb.at_ (i := 2) (u := .map (some b)) rfl W e
  have Cu := uncounted_nil w1
  clear hv Cn hDb hSt he1 e0
  go_wp2_with (first | (go_at_call 59; refine Cu.mono ?_; clear Cu; rintro e w2 ⟨rfl, he2⟩))
  refine (Cs _ he2).mono ?_
  rintro e w3 ⟨he3, ⟨hf, m, rfl⟩ | ⟨y, adr2, kv2, hf, rfl, hT2, hok⟩⟩
  · have Hr : Hid (countOn s t l p = -1) := Lib.hid (countOn_none hf)
    have Cu2 := uncounted_hit m w3 (HE.out.ext (E1.out.trans (he2.trans he3)))
    clear hf
    go_wp2_with (go_at_call 59; refine Cu2.mono ?_; rintro e w4 ⟨rfl, he4⟩)
    go_ret
    exact ⟨ret_i Hr.out.symm, E1.out.trans ((he2.trans he3).trans he4)⟩
  have Hr : Hid (countOn s t l p = (onlyN s y.tree : Int)) := Lib.hid (countOn_some Hv.out hf)
  have Cu2 := uncounted_nil w3
  have HT2 := Lib.hid hT2; have Hgr := Lib.hid (treeOk_iff'.1 hok)
  have hit4 : Hid (∀ x, x ∈ y.tree → x.ids.length ≤ 4) := Lib.hid fun x hx => by
    have := tree_item hok hx
    unfold itemOk at this
    simp only [Bool.and_eq_true, decide_eq_true_eq] at this
    exact this.2.2
  have e13 := he2.trans he3
  clear hf hT2 hok he2 he3 Cs
  go_wp2_with (go_at_call 59; refine Cu2.mono ?_; clear Cu2; rintro e w4 ⟨rfl, he4⟩)
  clear hmk
  have E4 := e13.trans he4
  have HU0 := Lib.hid (UsesAt.made w4)
  have e5 : Ext w4 (w4.alloc (.map #[] 0)) := (Ext.refl w4).alloc _
  have Cl := list_c (HT2.out.ext (he4.trans e5)) Hgr.out.2 Hgr.out.1
  have hy12 := Hgr.out.1
  refine Cl.mono ?_
  rintro e w6 ⟨v6, rfl, hI6, he6⟩
  obtain ⟨A6, c6, rfl, hA6⟩ := hI6
  have HI6 : Hid (Its 0 w6 (.slice A6 y.tree.length c6) y.tree) := Lib.hid (Its.keep ⟨_, _, rfl, hA6⟩ (Nat.zero_le _) (fun _ _ _ => rfl))
  have HU6 := Lib.hid (HU0.out.ext he6)
  have hex : ∃ ub, ub = w4.heap.size := ⟨_, rfl⟩
  obtain ⟨ub, hub⟩ := hex
  rw [← hub] at HU0 HU6 ⊢
  have hub4 : w1.heap.size ≤ ub := by rw [hub]; exact E4.size
  have E6 := E4.trans (e5.trans he6)
  generalize hnn : y.tree.length = n3 at *
  have Hn3 := Lib.hid hnn
  clear hub hnn hA6 he6 e5 Cl HU0 he4 e13 HT2 E4
  go_wp2
  go_loopw [35] (fun i wr => ∃ j : Nat, j ≤ n3 ∧ i = .int .i64 j ∧ Ext w1 wr ∧ Hid (Its 0 wr (.slice A6 n3 c6) y.tree) ∧ Hid (UsesAt ub (j * 4) (fun i => cntT i (y.tree.take j)) wr) ∧ Hid (∀ i, cntT i (y.tree.take j) ≤ j * 4)) (fun i _ => n3 - (RowKit.intOf i).toNat)
  case atStart => exact ⟨0, by omega, rfl, E6, HI6, Lib.hid ((HU6.out.mono (by omega)).eq (by funext i; simp [cntT])), Lib.hid fun i => by simp [cntT]⟩
  case round =>
    obtain ⟨j, hj, rfl, he, hI, hUs, hUb⟩ := hrel
    by_cases hlt : j < n3
    · obtain ⟨x, hx⟩ := get_of_lt (l := y.tree) (k := j) (by rw [Hn3.out]; exact hlt)
      obtain ⟨A3', c3', hv3, hA3⟩ := hI.out
      rw [Hn3.out] at hv3
      injection hv3 with e1 e2 e3
      subst e1; subst e3
      clear e2
      obtain ⟨b3, o3, u, rfl, -, -, hps, hu, hc0, hc1, hc2⟩ := Its.at_ hA3 hx
      obtain ⟨Ax, cx, rfl, hux⟩ := hu
      have hxi4 : x.ids.length ≤ 4 := hit4.out x (List.mem_of_getElem? hx)
      have Hx2 := Lib.hid hx
      obtain ⟨xp, xd, xi⟩ := x
      simp only at hps hux hc0 hc1 hc2 hxi4
      have r0 := hc0 wr (Ext.refl _); have r1 := hc1 wr (Ext.refl _); have r2 := hc2 wr (Ext.refl _)
      have hbk := Blk.new wr 100 #[.string xp, .bool xd, .slice Ax xi.length cx]
      have d2 := fun W (e : Ext _ W) => hbk.at_ (i := 2) (u := .slice Ax xi.length cx) rfl W e
      have ea : Ext wr (wr.alloc (.cells #[.string xp, .bool xd, .slice Ax xi.length cx] 100)) := (Ext.refl wr).alloc _
      have hIi5 : Hid (Ints 0 (wr.alloc (.cells #[.string xp, .bool xd, .slice Ax xi.length cx] 100)) (.slice Ax xi.length cx) xi) := Lib.hid (Ints.ext (w := wr) ⟨_, _, rfl, hux⟩ ea)
      have hI5 := Lib.hid (hI.out.ext ea)
      have hUs5 := Lib.hid (hUs.out.ext ea)
      generalize hU1 : (fun i => cntT i (y.tree.take j)) = U1 at *
      have HUb1 : Hid (∀ i, U1 i ≤ j * 4) := Lib.hid fun i => by rw [← hU1]; exact hUb.out i
      have Hnext2 : Hid (∀ i, cntT i (y.tree.take (j + 1)) = U1 i + cntI i xi) := Lib.hid fun i => by rw [← hU1, cntT_take Hx2.out]
      generalize hn4 : xi.length = n4 at *
      have Hn4 := Lib.hid hn4
      have E7 := he.trans ea
      clear hU1 hUb hn4 hc0 hc1 hc2 hux hx hbk hA3 hI hUs
      go_wp2
      clear r0 r1 r2 d2 ea
      go_loopw [42] (fun i wr => ∃ m : Nat, m ≤ n4 ∧ i = .int .i64 m ∧ Ext w1 wr ∧ Hid (Its 0 wr (.slice (some ⟨b3, o3, none⟩) n3 c6) y.tree) ∧ Hid (Ints 0 wr (.slice Ax n4 cx) xi) ∧ Hid (UsesAt ub (j * 4 + m) (fun i => U1 i + cntI i (xi.take m)) wr)) (fun i _ => n4 - (RowKit.intOf i).toNat)
      case atStart => exact ⟨0, by omega, rfl, E7, hI5, hIi5, Lib.hid (hUs5.out.eq (by funext i; simp [cntI]))⟩
      case round =>
        obtain ⟨m, hm, rfl, he6, hI6, hIi6, hUs6⟩ := hrel
        by_cases hlt3 : m < n4
        · obtain ⟨z, hz⟩ := get_of_lt (l := xi) (k := m) (by rw [Hn4.out]; exact hlt3)
          obtain ⟨A4', c4', hv4, hA4⟩ := hIi6.out
          rw [Hn4.out] at hv4
          injection hv4 with e1 e2 e3
          subst e1; subst e3
          clear e2
          obtain ⟨b4, o4, rfl, -, -, hyi, hy0⟩ := Ints.at_ hA4 hz
          have s0 := hy0 wr (Ext.refl _)
          have hkey := keyI hyi
          obtain ⟨n6, M6, hn6, hV6, hM6⟩ := hUs6.out
          have hUy := hM6 z
          have hbd : U1 z + cntI z (xi.take m) ≤ j * 4 + m := by
            have h1 := HUb1.out z
            have h2 := cntI_le z (xi.take m)
            rw [List.length_take] at h2
            omega
          have hnm : n6 < maxLen := by unfold maxLen; omega
          have Hyt : Hid ((fun i => (U1 i + cntI i (xi.take m)) + if z = i then 1 else 0) = fun i => U1 i + cntI i (xi.take (m + 1))) := Lib.hid (by funext i; rw [cntI_take hz, Nat.add_assoc])
          have HM6 := Lib.hid hM6; have Hn6 := Lib.hid hn6
          simp only at hUy
          generalize hC : U1 z + cntI z (xi.take m) = C at *
          have HC := Lib.hid hC
          have hw1 : IntKind.i64.wrap ((C : Int) + 1) = (C : Int) + 1 := IntWalk.i64_in _ (by omega)
          clear hz hy0 hUs6 hM6 hC hA4 hn6
          go_wp2_with (first | (at_lookup; refine wp_mlook_get rfl _ _ rfl lawI underUses (zeroInt _) rfl hV6 _ _ rfl hkey hUy ?_) | (at_mapUpdate; refine wp_mput (w0 := w1) rfl _ _ _ rfl lawI underUses he6 hub4 rfl hV6 hnm _ _ _ rfl rfl hkey ?_; intro w7 hV7 he7 hg7))
          have hk7 := map_keepsT hV6 hg7 9
          have hI7 := Lib.hid (hI6.out.keepT hk7 (by decide) (by decide))
          have hIi7 := Lib.hid (hIi6.out.keepT hk7 (by decide))
          have hUs7 := Lib.hid ((uses_put Hn6.out HM6.out (y := z) (by rw [HC.out]; exact hV7)).eq Hyt.out)
          clear hV7 hg7 hk7 hV6
          go_roundw
          case rel => exact ⟨m + 1, by omega, by go_num, he7, hI7, hIi7, hUs7⟩
          case measure => simp [RowKit.intOf]; omega
        · have hmn : m = n4 := by omega
          subst hmn
          have hUs7 : Hid (UsesAt ub ((j + 1) * 4) (fun i => cntT i (y.tree.take (j + 1))) wr) := Lib.hid ((hUs6.out.mono (by omega)).eq (by
            funext i
            rw [Hnext2.out, List.take_of_length_le (by rw [Hn4.out]; exact Nat.le_refl _)]))
          have hUb7 : Hid (∀ i, cntT i (y.tree.take (j + 1)) ≤ (j + 1) * 4) := Lib.hid fun i => by
            rw [Hnext2.out]
            have h1 := HUb1.out i
            have h2 := cntI_le i xi
            rw [Hn4.out] at h2
            omega
          clear hUs6
          go_wp2
          go_roundw
          case rel => exact ⟨j + 1, by omega, by go_num, he6, hI6, hUs7, hUb7⟩
          case measure => simp [RowKit.intOf]; omega
    · have hjn : j = n3 := by omega
      subst hjn
      have hte : y.tree.take j = y.tree := List.take_of_length_le (by rw [Hn3.out]; exact Nat.le_refl _)
      have hUs5 : Hid (∀ W, Ext wr W → UsesAt ub (j * 4) (fun i => cntT i y.tree) W) := Lib.hid fun W e => by
        have := hUs.out
        rw [hte] at this
        exact this.ext e
      have hUb5 : Hid (∀ i, cntT i y.tree ≤ 48) := Lib.hid fun i => by
        have := hUb.out i
        rw [hte] at this
        omega
      have z2 := g2 wr he
      have Ch := storeListP_c wr HO.out (HSt.out.ext he)
      clear hUs hUb hte hI
      go_wp2_with fail
      refine Ch.mono ?_
      rintro e w8 ⟨v8, rfl, hH, he8⟩
      obtain ⟨A9, c9, rfl, hA9⟩ := hH
      have HA9 := Lib.hid hA9
      have h16 := HO.out.1
      have Hle := Lib.hid (only_le HO.out y.tree)
      generalize hns : s.length = ns at *
      have Hns := Lib.hid hns
      have hUs8 : Hid (∀ W, Ext w8 W → UsesAt ub (j * 4) (fun i => cntT i y.tree) W) := Lib.hid fun W e => hUs5.out W (he8.trans e)
      have E8 := Lib.hid (E1.out.trans (he.trans he8))
      clear hns hA9 z2 Ch hUs5 he8 he g2
      go_wp2
      go_loopw [13, 59] (fun o i wr => ∃ k : Nat, k ≤ ns ∧ i = .int .i64 k ∧ o = .int .i64 (((s.take k).map (onlyP y.tree)).sum : Nat) ∧ Ext w8 wr) (fun _ i _ => ns - (RowKit.intOf i).toNat)
      case atStart => exact ⟨0, by omega, rfl, rfl, Ext.refl _⟩
      case round =>
        obtain ⟨k, hk, rfl, rfl, he⟩ := hrel
        by_cases hlt : k < ns
        · obtain ⟨x, hx⟩ := get_of_lt (l := s) (k := k) (by rw [Hns.out]; exact hlt)
          obtain ⟨b9, o9, u, rfl, -, -, hki, hu, -, hc0, hc1, hc2⟩ := Hds.at_ HA9.out hx
          have hul := hu.len
          unfold lim at hul
          obtain ⟨Au, cu, rfl, -⟩ := hu
          have a0 := hc0 wr he; have a1 := hc1 wr he; have a2 := hc2 wr he
          have hst := only_take (t := y.tree) hx
          have hbd := Hle.out k
          generalize ((s.take k).map (onlyP y.tree)).sum = acc at *
          have hkey := keyI hki
          obtain ⟨n9, M9, hn9, hV9, hM9⟩ := hUs8.out wr he
          have hUx := hM9 x.id
          simp only at hUx
          have hV9a := fun W (e : Ext wr W) => hV9.ext e
          generalize hC : cntT x.id y.tree = C at *
          by_cases hce : (C : Int) = x.uses
          · have hb : ((C : Int) == x.uses) = true := by simpa using hce
            have hst2 : onlyP y.tree x = x.bytes.length := by unfold onlyP; rw [hC, if_pos (eqb_true.2 hce)]
            rw [hst2] at hst
            have Hst := Lib.hid hst
            clear hst hst2 hx hc0 hc1 hc2 hC hM9 hV9 hce
            go_wp2_with (at_lookup; refine wp_mlook_get rfl _ _ rfl lawI underUses (zeroInt _) rfl (hV9a _ (by (repeat' (first | exact Ext.refl _ | assumption | refine Ext.alloc ?_ _ | refine Ext.drew ?_ | refine Ext.drewN ?_ _)))) _ _ rfl hkey hUx ?_)
            go_roundw
            case rel => exact ⟨k + 1, by omega, by go_num, by rw [Hst.out]; go_num, he.alloc _⟩
            case measure => simp [RowKit.intOf]; omega
          · have hb : ((C : Int) == x.uses) = false := by simpa using hce
            have hst2 : onlyP y.tree x = 0 := by unfold onlyP; rw [hC, if_neg (by rw [eqb_false.2 hce]; simp)]
            rw [hst2, Nat.add_zero] at hst
            have Hst := Lib.hid hst
            clear hst hst2 hx hc0 hc1 hc2 hC hM9 hV9 hce
            go_wp2_with (at_lookup; refine wp_mlook_get rfl _ _ rfl lawI underUses (zeroInt _) rfl (hV9a _ (by (repeat' (first | exact Ext.refl _ | assumption | refine Ext.alloc ?_ _ | refine Ext.drew ?_ | refine Ext.drewN ?_ _)))) _ _ rfl hkey hUx ?_)
            go_roundw
            case rel => exact ⟨k + 1, by omega, by go_num, by rw [Hst.out]; try rfl, he.alloc _⟩
            case measure => simp [RowKit.intOf]; omega
        · have hks : k = ns := by omega
          subst hks
          have Hf : Hid (((((s.take k).map (onlyP y.tree)).sum : Nat) : Int) = countOn s t l p) := Lib.hid (by rw [Hr.out, List.take_of_length_le (by rw [Hns.out]; exact Nat.le_refl _)]; rfl)
          generalize ((s.take k).map (onlyP y.tree)).sum = acc at *
          go_wp2
          go_ret
          exact ⟨ret_i Hf.out, E8.out.trans he⟩
end Go.Sf
