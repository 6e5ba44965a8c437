/- How many bytes the blocks of a disk have: the reference and the program. -/
import Derived.Test.YtneabdoianmfhaaGreatDoorT114
import Derived.Test.YtneabdoianmfhaaGreatDoorT113
namespace Go.Sf
open Go Go.RowKit Go.Proofs Go.Maps
def ptrAt (ads : List Nat) (i : Nat) : Value := match ads[i]? with | some a => .pointer (some ⟨a, 0, none⟩) | none => .pointer none
set_option maxRecDepth 8000 in
set_option maxHeartbeats 2000000 in
theorem BlockPack_c {B : Nat} {v : Value} {bs : List Int} (w : World) (h : Ints B w v bs) (hok : blockOk bs = true) :
    Calls Tryz.prog 67 #[v] w (RetP (fun r _ => ∃ A c, r = .tuple #[.slice A (2 * runsN bs) c, .bool true]) w) := by
  have HI := Lib.hid h; have Hok := Lib.hid hok
  have Cb := implBlockValid_c w h
  rw [hok] at Cb
  have hr8 := runsK_le bs bs.length (Nat.le_refl _)
  rw [runsK_end (Nat.le_refl _)] at hr8
  have hl8 := (block_len hok).2
  obtain ⟨A, c, rfl, -⟩ := h
  generalize hn : bs.length = n at *
  have Hn := Lib.hid hn
  have hex : ∃ r, runsN bs = r := ⟨_, rfl⟩
  obtain ⟨r, hr⟩ := hex
  rw [hr] at hr8 ⊢
  have Hr := Lib.hid hr
  clear hok hn hr
  go_enter Tryz.func67, Tryz.ntmps67
  go_wp2_with (go_at_call 128; refine Cb.mono ?_; rintro e w1 ⟨rfl, he1⟩)
  have Cr := runsOf_c w1 (HI.out.ext he1) Hok.out
  refine Cr.mono ?_
  rintro e w2 ⟨p2, rfl, ⟨ads, ms, vs, a0, rfl, ha0, hal, hR, hvs⟩, he2⟩
  rw [Hr.out] at hal
  have HR := Lib.hid hR; have Hvs := Lib.hid hvs; have Hal := Lib.hid hal
  have hp0 : Value.pointer (some ⟨a0, 0, none⟩) = ptrAt ads 0 := by unfold ptrAt; rw [ha0]
  have E2 := he1.trans he2
  clear Cb Cr hR hvs hal ha0 he1 he2
  go_wp2
  go_loopw [4, 5] (fun v p wr => ∃ (q : Nat) (L : List Int), q ≤ r ∧ p = ptrAt ads q ∧ Ext w2 wr ∧ OwnS w2.heap.size 3 1 EInt wr v L ∧ Hid (L.length = 2 * q)) (fun v _ _ => 2 * r - (match v with | .slice _ m _ => m | _ => 0))
  case atStart => exact ⟨0, [], by omega, by first | rfl | exact hp0, Ext.refl _, OwnS.nil _ _ _ _ _, Lib.hid rfl⟩
  case round =>
    obtain ⟨q, L, hq, rfl, he, hO, hL⟩ := hrel
    have HO := Lib.hid hO
    obtain ⟨AL, cL, rfl⟩ := hO.form
    by_cases hlt : q < r
    · obtain ⟨a, ha⟩ := get_of_lt (l := ads) (k := q) (by rw [Hal.out]; exact hlt)
      obtain ⟨-, hba, hm0, hm1⟩ := HR.out.1 q a ha
      have hp1 : ptrAt ads q = .pointer (some ⟨a, 0, none⟩) := by unfold ptrAt; rw [ha]
      have hp2 : nextP ads q = ptrAt ads (q + 1) := rfl
      rw [hp2] at hba
      have r0 := fun W (e : Ext wr W) => hba.at_ (i := 0) (u := .int .i64 (ms q)) rfl W (he.trans e)
      have r1 := fun W (e : Ext wr W) => hba.at_ (i := 1) (u := .int .i64 (vs q)) rfl W (he.trans e)
      have r2 := fun W (e : Ext w2 W) => hba.at_ (i := 2) (u := ptrAt ads (q + 1)) rfl W e
      have hvq := Hvs.out q (by rw [Hal.out]; exact hlt)
      have hmq : inI (ms q) := by unfold inI; omega
      generalize hnx : ptrAt ads (q + 1) = nx at *
      have Hnx := Lib.hid hnx
      rw [hp1]
      clear hO hba ha hnx hp1 hp2
      generalize ms q = mq at *
      generalize vs q = vq at *
      go_wp2
      refine wp_region_hold (fun W => W.cell? ⟨a, 0, none⟩ = some (.int .i64 mq) ∧ W.cell? ⟨a, 1, none⟩ = some (.int .i64 vq)) 10 [(0, true), (1, true), (2, true), (3, true), (4, true), (5, true), (6, true), (7, true), (8, true), (9, false)] (by kernel_rfl) (by kernel_rfl) ?_ ?_
      · exact ⟨r0 _ (Ext.refl _).drew, r1 _ (Ext.refl _).drew⟩
      (repeat (first | (apply hw_read (by rfl) (by rfl); (· (intro W hW; (try dsimp only at hW); go_simp; (first | done | rfl | (rw [if_pos] <;> first | omega | rfl)))); (try simp only [Act.put, List.setIfInBounds_toArray, List.set_cons_zero, List.set_cons_succ])) | (refine hw_skip (by rfl) (by rfl) ?_; (try simp only [Act.put, List.setIfInBounds_toArray, List.set_cons_zero, List.set_cons_succ]))))
      refine hw_step (by rfl) ?_
      go_wp2
      refine ⟨⟨r0 _ ((Ext.refl _).drew.alloc _), r1 _ ((Ext.refl _).drew.alloc _)⟩, ?_⟩
      have HO2 := Lib.hid (HO.out.ext eint_ok (Ext.refl wr).drew)
      have he2 := he.drew
      (refine hw_nil ?_; (try simp only [List.drop_succ_cons, List.drop_zero]))
      go_wp2_with (at_builtin; go_must (refine wp_ap1 (w0 := w2) (by rfl) _ _ (by rfl) el_Int eint_ok he2 _ L [mq, vq] (by rfl) HO2.out 2 2 rfl #[.int .i64 mq, .int .i64 vq] _ (by rfl) (by first | rfl | simp) rfl (one_cells rfl) (two_E ⟨rfl, hmq⟩ ⟨rfl, hvq⟩) ?_ ?_))
      · rw [hL.out]; simp; unfold lim; omega
      · intro v' w' hO' he' _
        have HO' := Lib.hid hO'
        obtain ⟨A', c', rfl⟩ := hO'.form
        have z2 := r2 w' he'
        have hlen : (L ++ [mq, vq]).length = 2 * (q + 1) := by rw [List.length_append, hL.out]; show 2 * q + 2 = _; omega
        rw [hlen] at HO' ⊢
        clear hO'
        go_wp2
        refine NoPanic.normal ?_
        (try dsimp only [Exit.then])
        go_wp2
        go_roundw
        case rel => exact ⟨q + 1, L ++ [mq, vq], by omega, Hnx.out.symm, he', HO'.out, Lib.hid hlen⟩
        case measure => simp [hL.out]; omega
    · have hks : q = r := by omega
      subst hks
      have hp1 : ptrAt ads q = .pointer none := by unfold ptrAt; rw [List.getElem?_eq_none (by rw [Hal.out]; exact Nat.le_refl _)]
      rw [hp1, hL.out]
      clear hO
      go_wp2
      go_ret2
      exact ⟨_, rfl, ⟨_, _, rfl⟩, E2.trans he⟩
theorem sum_take3 {α : Type} (f : α → Nat) {l : List α} {k : Nat} {x : α} (h : l[k]? = some x) : ((l.take (k + 1)).map f).sum = ((l.take k).map f).sum + f x := by
  rw [List.take_add_one, h, Option.toList_some, List.map_append, List.sum_append]; simp
/-- bytes that are stored, bytes that files show, numbers of runs -/
def storedF (h : Hd) : Nat := h.bytes.length
def shownF (h : Hd) : Nat := h.uses.toNat * h.bytes.length
def packedF (h : Hd) : Nat := 2 * runsN h.bytes
def sumK (f : Hd → Nat) (s : List Hd) (k : Nat) : Nat := ((s.take k).map f).sum
theorem sumK_succ (f : Hd → Nat) {s : List Hd} {k : Nat} {x : Hd} (h : s[k]? = some x) : sumK f s (k + 1) = sumK f s k + f x := sum_take3 f h
theorem sumK_le {s : List Hd} (hs : StoreOk s) {f : Hd → Nat} (b : Nat) (hf : ∀ h, hdOk h = true → f h ≤ b) (k : Nat) : sumK f s k ≤ 16 * b := by
  have h1 := sum_bd f b (s.take k) fun h hh => by
    obtain ⟨j, hj⟩ := List.mem_iff_getElem?.1 (List.mem_of_mem_take hh)
    exact hf h (hs.2 j h hj).1
  have h2 : (s.take k).length ≤ 16 := Nat.le_trans (List.length_take_le' _ _) hs.1
  have h3 := Nat.mul_le_mul_right b h2
  exact Nat.le_trans h1 h3
theorem stored_bd {h : Hd} (hh : hdOk h = true) : storedF h ≤ 8 := (block_len (hd_ok hh).2.1).2
theorem shown_bd {h : Hd} (hh : hdOk h = true) : shownF h ≤ 7992 := by
  have h1 := (block_len (hd_ok hh).2.1).2
  have h2 : h.uses.toNat ≤ 999 := by have := (hd_ok hh).2.2; omega
  exact Nat.mul_le_mul h2 h1
theorem packed_bd {h : Hd} (hh : hdOk h = true) : packedF h ≤ 16 := by
  have h1 := (block_len (hd_ok hh).2.1).2
  have h2 := runsK_le h.bytes h.bytes.length (Nat.le_refl _)
  rw [runsK_end (Nat.le_refl _)] at h2
  unfold packedF; omega
theorem shown_int {h : Hd} (hh : hdOk h = true) : h.uses * (h.bytes.length : Int) = (shownF h : Nat) := by
  have := (hd_ok hh).2.2
  unfold shownF
  rw [Int.natCast_mul, Int.toNat_of_nonneg (by omega)]
noncomputable def countB (s : List Hd) (t : List It) (l : List Sn) (f : Hd → Nat) : Nat := if diskOk s t l = true then sumK f s s.length else 0
set_option maxRecDepth 8000 in
set_option maxHeartbeats 4000000 in
theorem specCountBytes_c {B B' B2 : Nat} {vs vt vn : Value} {s : List Hd} {t : List It} {l : List Sn} (w : World) (hs : Hds B w vs s) (ht : Its B' w vt t) (hn : Sns B2 w vn l) :
    Calls Tryz.prog 16 #[.agg #[vs, vt, vn]] w (Ret (.tuple #[.int .i64 (countB s t l storedF : Nat), .int .i64 (countB s t l shownF : Nat), .int .i64 (countB s t l packedF : Nat)]) w) := by
  have HS := Lib.hid hs; have HT := Lib.hid ht; have HN := Lib.hid hn
  obtain ⟨A, c, rfl, hA⟩ := hs
  obtain ⟨A2, c2, rfl, -⟩ := ht
  obtain ⟨A3, c3, rfl, -⟩ := hn
  have hl := hA.2.2.1
  unfold lim at hl
  have e0 : Ext w (w.alloc (.cells #[.slice A s.length c, .slice A2 t.length c2, .slice A3 l.length c3] 33)) := (Ext.refl w).alloc _
  have hbk := Blk.new w 33 #[.slice A s.length c, .slice A2 t.length c2, .slice A3 l.length c3]
  have d0 := fun W (e : Ext _ W) => hbk.at_ (i := 0) (u := .slice A s.length c) rfl W e
  have d1 := fun W (e : Ext _ W) => hbk.at_ (i := 1) (u := .slice A2 t.length c2) rfl W e
  have d2 := fun W (e : Ext _ W) => hbk.at_ (i := 2) (u := .slice A3 l.length c3) rfl W e
  have Cd := fun W (e : Ext (w.alloc (.cells #[.slice A s.length c, .slice A2 t.length c2, .slice A3 l.length c3] 33)) W) => specDiskValid_c W (HS.out.ext (e0.trans e)) (HT.out.ext (e0.trans e)) (HN.out.ext (e0.trans e))
  have HA := Lib.hid hA
  clear hbk hA
  generalize hnn : s.length = n at *
  have Hn := Lib.hid hnn; clear hnn
  cases hd : diskOk s t l with
  | false =>
    rw [hd] at Cd
    have Hr : Hid (∀ f, countB s t l f = 0) := Lib.hid fun f => by unfold countB; rw [hd]; rfl
    clear hd
    rw [Hr.out, Hr.out, Hr.out]
    go_enter Tryz.func16, Tryz.ntmps16
    go_wp2
    go_loopw [5, 6, 7, 8] (fun o1 o2 o3 i wr => i = .int .i64 0 ∧ o1 = .int .i64 0 ∧ o2 = .int .i64 0 ∧ o3 = .int .i64 0 ∧ Ext (w.alloc (.cells #[.slice A n c, .slice A2 t.length c2, .slice A3 l.length c3] 33)) wr) (fun _ _ _ i _ => n - (RowKit.intOf i).toNat)
    case atStart => exact ⟨rfl, rfl, rfl, rfl, Ext.refl _⟩
    case round =>
      obtain ⟨rfl, rfl, rfl, rfl, he⟩ := hrel
      have q0 := d0 wr he; have q1 := d1 wr he; have q2 := d2 wr he
      by_cases h0 : 0 < n
      · have h0' : (0 : Int) < (n : Int) := by omega
        go_wp2_with (go_at_call 53; refine (Cd _ he).mono ?_; rintro e w2 ⟨rfl, he2⟩)
        go_ret3
        exact ⟨rfl, e0.trans (he.trans he2)⟩
      · have h0' : ¬ (0 : Int) < (n : Int) := by omega
        go_wp2
        go_ret3
        exact ⟨rfl, e0.trans he⟩
  | true =>
    rw [hd] at Cd
    have HO := Lib.hid (disk_parts hd).1
    have Hr : Hid (∀ f, countB s t l f = sumK f s n) := Lib.hid fun f => by unfold countB; rw [hd, ← Hn.out]; rfl
    have h16 : n ≤ 16 := by rw [← Hn.out]; exact HO.out.1
    rw [Hr.out, Hr.out, Hr.out]
    clear hd
    go_enter Tryz.func16, Tryz.ntmps16
    go_wp2
    go_loopw [5, 6, 7, 8] (fun o1 o2 o3 i wr => ∃ k : Nat, k ≤ n ∧ i = .int .i64 k ∧ o1 = .int .i64 (sumK storedF s k : Nat) ∧ o2 = .int .i64 (sumK shownF s k : Nat) ∧ o3 = .int .i64 (sumK packedF s k : Nat) ∧ Ext (w.alloc (.cells #[.slice A n c, .slice A2 t.length c2, .slice A3 l.length c3] 33)) wr) (fun _ _ _ i _ => n - (RowKit.intOf i).toNat)
    case atStart => exact ⟨0, by omega, rfl, rfl, rfl, rfl, Ext.refl _⟩
    case round =>
      obtain ⟨k, hk, rfl, rfl, rfl, rfl, he⟩ := hrel
      have q0 := d0 wr he; have q1 := d1 wr he; have q2 := d2 wr he
      by_cases hlt : k < n
      · obtain ⟨x, hx⟩ := get_of_lt (l := s) (k := k) (by rw [Hn.out]; exact hlt)
        obtain ⟨b, o, u, rfl, -, -, -, hu, -, hc0, hc1, hc2⟩ := Hds.at_ HA.out hx
        have hok := (HO.out.2 k x hx).1
        have HU := Lib.hid hu
        have E := e0.trans he
        obtain ⟨Au, cu, rfl, -⟩ := hu
        have a1 := fun W (e : Ext wr W) => hc1 W (E.trans e)
        have a2 := fun W (e : Ext wr W) => hc2 W (E.trans e)
        have z0 := fun W (e : Ext wr W) => d0 W (he.trans e)
        have s1 := sumK_succ storedF hx; have s2 := sumK_succ shownF hx; have s3 := sumK_succ packedF hx
        have b1 := sumK_le HO.out 8 (fun h hh => stored_bd hh) k; have b2 := sumK_le HO.out 7992 (fun h hh => shown_bd hh) k; have b3 := sumK_le HO.out 16 (fun h hh => packed_bd hh) k
        have c1 := stored_bd hok; have c2' := shown_bd hok; have c3' := packed_bd hok
        have hmul := shown_int hok
        have Cp := fun W (e : Ext wr W) => l2Pack_c W (HU.out.ext (E.trans e)) (hd_ok hok).2.1
        have hx1 : storedF x = x.bytes.length := rfl
        have hx3 : 2 * runsN x.bytes = packedF x := rfl
        rw [hx3] at Cp
        rw [hx1] at s1 c1
        have hwm : IntKind.i64.wrap (x.uses * (x.bytes.length : Int)) = (shownF x : Nat) := by rw [hmul]; exact IntWalk.i64_in _ (by omega)
        have S1 := Lib.hid s1; have S2 := Lib.hid s2; have S3 := Lib.hid s3
        generalize sumK storedF s k = n1 at *
        generalize sumK shownF s k = n2 at *
        generalize sumK packedF s k = n3 at *
        generalize shownF x = y2 at *
        generalize packedF x = y3 at *
        generalize x.bytes.length = y1 at *
        have hkn : (k : Int) < (n : Int) := by omega
        have HW2 : Hid (IntKind.i64.wrap ((n2 : Int) + (y2 : Int)) = ((n2 + y2 : Nat) : Int)) := Lib.hid (by rw [IntWalk.i64_in _ (by omega)]; omega)
        clear s1 s2 s3 hx hc0 hc1 hc2 hok hx1 hx3 hmul
        go_wp2_with (go_at_call 53; refine (Cd _ he).mono ?_; rintro e w2 ⟨rfl, he2⟩; have r0 := z0 w2 he2; have r1 := a1 w2 he2)
        have Z0 := fun W (e : Ext w2 W) => z0 W (he2.trans e)
        have Z1 := fun W (e : Ext w2 W) => a1 W (he2.trans e)
        have Z2 := fun W (e : Ext w2 W) => a2 W (he2.trans e)
        clear r0 r1
        refine wp_region_ext (by kernel_rfl) (by kernel_rfl) ?_
        repeat (first | (apply q_plain rfl; (· intro W eW; go_simp; (first | done | rfl | (rw [if_pos] <;> first | omega | rfl))); (try simp only [Act.put, List.setIfInBounds_toArray, List.set_cons_zero, List.set_cons_succ])) | (refine qg_skip (by rfl) ?_; (try simp only [Act.put, List.setIfInBounds_toArray, List.set_cons_zero, List.set_cons_succ])) | (apply qg_plain (by rfl); (· intro W eW; go_simp; (first | done | rfl | (rw [if_pos] <;> first | omega | rfl))); (try simp only [Act.put, List.setIfInBounds_toArray, List.set_cons_zero, List.set_cons_succ])))
        refine q_nil ?_
        intro w3 e3
        have he3 := he2.trans e3
        have t0 := z0 w3 he3; have t1 := a1 w3 he3
        clear Z0 Z1 Z2
        go_wp2_with (go_at_call 66; refine (Cp _ he3).mono ?_; rintro e w4 ⟨v4, rfl, ⟨A4, c4, rfl⟩, he4⟩)
        go_roundw
        case rel => exact ⟨k + 1, by omega, by go_num, by rw [S1.out]; go_num, by rw [S2.out, HW2.out], by rw [S3.out]; go_num, he.trans (he3.trans he4)⟩
        case measure => simp [RowKit.intOf]; omega
      · have hks : k = n := by omega
        subst hks
        generalize sumK storedF s k = n1 at *
        generalize sumK shownF s k = n2 at *
        generalize sumK packedF s k = n3 at *
        go_wp2
        go_ret3
        exact ⟨rfl, e0.trans he⟩
set_option maxRecDepth 8000 in
set_option maxHeartbeats 4000000 in
theorem CountBytes_c {B B' B2 : Nat} {vs vt vn : Value} {s : List Hd} {t : List It} {l : List Sn} (w : World) (hs : Hds B w vs s) (ht : Its B' w vt t) (hn : Sns B2 w vn l) (hm : ML w) (het : ET w) :
    Calls Tryz.prog 17 #[.agg #[vs, vt, vn]] w (Ret (.tuple #[.int .i64 (countB s t l storedF : Nat), .int .i64 (countB s t l shownF : Nat), .int .i64 (countB s t l packedF : Nat)]) w) := by
  have HS := Lib.hid hs; have HT := Lib.hid ht; have HN := Lib.hid hn; have HM := Lib.hid hm; have HE := Lib.hid het
  obtain ⟨A, c, rfl, -⟩ := hs
  obtain ⟨A2, c2, rfl, -⟩ := ht
  obtain ⟨A3, c3, rfl, -⟩ := hn
  have e0 : Ext w (w.alloc (.cells #[.slice A s.length c, .slice A2 t.length c2, .slice A3 l.length c3] 33)) := (Ext.refl w).alloc _
  have Cn := countDisk_c _ (HS.out.ext e0) (HT.out.ext e0) (HN.out.ext e0) (HM.out.ext e0)
  clear hm het
  cases hd : diskOk s t l with
  | false =>
    have Hr : Hid (∀ f, countB s t l f = 0) := Lib.hid fun f => by unfold countB; rw [hd]; rfl
    rw [Hr.out, Hr.out, Hr.out]
    go_enter Tryz.func17, Tryz.ntmps17
    go_wp2_with fail
    refine Cn.mono ?_
    rintro e w1 ⟨he1, ⟨hv, m, rfl⟩ | ⟨hv, -⟩⟩
    · have Cu := uncounted_hit m w1 (HE.out.ext (e0.trans he1))
      clear hv Cn hd
      go_wp2_with (go_at_call 59; refine Cu.mono ?_; rintro e w2 ⟨rfl, he2⟩)
      go_ret3
      exact ⟨rfl, (e0.trans he1).trans he2⟩
    · rw [hd] at hv; cases hv
  | true =>
    have HO := Lib.hid (disk_parts hd).1
    have h16 := HO.out.1
    have Hr : Hid (∀ f, countB s t l f = sumK f s s.length) := Lib.hid fun f => by unfold countB; rw [hd]; rfl
    rw [Hr.out, Hr.out, Hr.out]
    go_enter Tryz.func17, Tryz.ntmps17
    go_wp2_with fail
    refine Cn.mono ?_
    rintro e w1 ⟨he1, ⟨hv, -⟩ | ⟨-, g, rfl, b, adr, kv, v, aq, -, hD, hSt, -, -, -⟩⟩
    · rw [hd] at hv; cases hv
    have g2 := fun W (e : Ext w1 W) => hD.at_ (i := 2) (u := .map (some b)) rfl W e
    have Cu := uncounted_nil w1
    have HSt := Lib.hid hSt
    have E1 := Lib.hid (e0.trans he1)
    clear Cn hD hSt hd
    go_wp2_with (go_at_call 59; refine Cu.mono ?_; rintro e w2 ⟨rfl, he2⟩; have z2 := g2 w2 he2)
    refine (storeListP_c _ HO.out (HSt.out.ext he2)).mono ?_
    rintro e w3 ⟨v3, rfl, hH, he3⟩
    obtain ⟨A4, c4, rfl, hA⟩ := hH
    have HA := Lib.hid hA
    generalize hnn : s.length = n at *
    have Hn := Lib.hid hnn; have E3 := Lib.hid (E1.out.trans (he2.trans he3))
    clear hnn hA g2 z2 Cu he2 he3
    go_wp2
    go_loopw [7, 8, 9, 28] (fun o1 o2 o3 i wr => ∃ k : Nat, k ≤ n ∧ i = .int .i64 k ∧ o1 = .int .i64 (sumK storedF s k : Nat) ∧ o2 = .int .i64 (sumK shownF s k : Nat) ∧ o3 = .int .i64 (sumK packedF s k : Nat) ∧ Ext w3 wr) (fun _ _ _ i _ => n - (RowKit.intOf i).toNat)
    case atStart => exact ⟨0, by omega, rfl, rfl, rfl, rfl, Ext.refl _⟩
    case round =>
      obtain ⟨k, hk, rfl, rfl, rfl, rfl, he⟩ := hrel
      by_cases hlt : k < n
      · obtain ⟨x, hx⟩ := get_of_lt (l := s) (k := k) (by rw [Hn.out]; exact hlt)
        obtain ⟨b, o, u, rfl, -, -, -, hu, -, hc0, hc1, hc2⟩ := Hds.at_ HA.out hx
        have hok := (HO.out.2 k x hx).1
        have HU := Lib.hid hu
        obtain ⟨Au, cu, rfl, -⟩ := hu
        have a0 := hc0 wr he; have a1 := hc1 wr he; have a2 := hc2 wr he
        have hbk := Blk.new wr 84 #[.int .i64 x.id, .slice Au x.bytes.length cu, .int .i64 x.uses]
        have ea : Ext wr (wr.alloc (.cells #[.int .i64 x.id, .slice Au x.bytes.length cu, .int .i64 x.uses] 84)) := (Ext.refl wr).alloc _
        have s1 := sumK_succ storedF hx; have s2 := sumK_succ shownF hx; have s3 := sumK_succ packedF hx
        have b1 := sumK_le HO.out 8 (fun h hh => stored_bd hh) k; have b2 := sumK_le HO.out 7992 (fun h hh => shown_bd hh) k; have b3 := sumK_le HO.out 16 (fun h hh => packed_bd hh) k
        have c1 := stored_bd hok; have c2' := shown_bd hok; have c3' := packed_bd hok
        have hmul := shown_int hok
        have Cp := BlockPack_c _ (HU.out.ext (he.trans ea)) (hd_ok hok).2.1
        have hx1 : storedF x = x.bytes.length := rfl
        have hx3 : 2 * runsN x.bytes = packedF x := rfl
        rw [hx3] at Cp
        rw [hx1] at s1 c1
        have hwm : IntKind.i64.wrap ((x.bytes.length : Int) * x.uses) = (shownF x : Nat) := by rw [Int.mul_comm, hmul]; exact IntWalk.i64_in _ (by omega)
        have S1 := Lib.hid s1; have S2 := Lib.hid s2; have S3 := Lib.hid s3
        generalize sumK storedF s k = n1 at *
        generalize sumK shownF s k = n2 at *
        generalize sumK packedF s k = n3 at *
        generalize shownF x = y2 at *
        generalize packedF x = y3 at *
        generalize x.bytes.length = y1 at *
        clear s1 s2 s3 hx hc0 hc1 hc2 hok hx1 hx3 hmul hbk
        go_wp2_with (go_at_call 67; refine Cp.mono ?_; rintro e w4 ⟨v4, rfl, ⟨A5, c5, rfl⟩, he4⟩)
        go_roundw
        case rel => exact ⟨k + 1, by omega, by go_num, by rw [S1.out]; go_num, by rw [S2.out]; go_num, by rw [S3.out]; go_num, he.trans (ea.trans he4)⟩
        case measure => simp [RowKit.intOf]; omega
      · have hks : k = n := by omega
        subst hks
        generalize sumK storedF s k = n1 at *
        generalize sumK shownF s k = n2 at *
        generalize sumK packedF s k = n3 at *
        go_wp2
        go_ret3
        exact ⟨rfl, E3.out.trans he⟩
end Go.Sf
