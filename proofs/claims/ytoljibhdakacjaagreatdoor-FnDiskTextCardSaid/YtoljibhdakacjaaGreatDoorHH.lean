/- Arguments that are volumes; the exact law of VolumeValid. -/
import Derived.Test.YtoljibhdakacjaaGreatDoorGQ
import Derived.Test.YtoljibhdakacjaaGreatDoorHG
import Derived.Test.YtoljibhdakacjaaGreatDoorShelfJ
import Derived.Test.YtoljibhdakacjaaGreatDoorGD
import Derived.LaidEql
import Derived.Stop.Asserts
import Derived.RowKitTokens
/-! Arguments that are volumes; the exact law of VolumeValid. -/
namespace Go.Sf
open Go Go.RowKit Go.Proofs
theorem HdsU.keepT {B : Nat} {t : TypeId} {w w' : World} {v : Value} {lu : List (Hd × Value)} (h : HdsU B w v lu) (hk : KeepsT t w w') (h1 : 110 ≠ t) (h2 : 3 ≠ t) : HdsU B w' v lu := SlOf.keepT h hk h1 fun _ _ _ h => h.keepT hk h2
theorem ItsU.keepT {B : Nat} {t : TypeId} {w w' : World} {v : Value} {lu : List (It × Value)} (h : ItsU B w v lu) (hk : KeepsT t w w') (h1 : 57 ≠ t) (h2 : 3 ≠ t) : ItsU B w' v lu := SlOf.keepT h hk h1 fun _ _ _ h => h.keepT hk h2
/-- a copy of a volume: its blocks lie ahead of m, its items behind -/
def VolU (B : Nat) (w : World) (r : Value) (s : List Hd) (t : List It) : Prop :=
  ∃ u1 u2 lh li m, r = .agg #[u1, u2] ∧ lh.map Prod.fst = s ∧ HdsU B w u1 lh ∧ Sep lh ∧ (∀ b, FootHd u1 lh b → b < m) ∧ li.map Prod.fst = t ∧ ItsU m w u2 li ∧ Sep li ∧ B ≤ m
theorem VolU.ext {B : Nat} {w w' : World} {r : Value} {s : List Hd} {t : List It} (h : VolU B w r s t) (e : Ext w w') : VolU B w' r s t :=
  let ⟨u1, u2, lh, li, m, a1, a2, a3, a4, a5, a6, a7, a8, a9⟩ := h; ⟨u1, u2, lh, li, m, a1, a2, a3.ext e, a4, a5, a6, a7.ext e, a8, a9⟩
theorem VolU.plain {B : Nat} {w : World} {r : Value} {s : List Hd} {t : List It} (h : VolU B w r s t) : ∃ u1 u2, r = .agg #[u1, u2] ∧ Hds 0 w u1 s ∧ Its 0 w u2 t := by
  obtain ⟨u1, u2, lh, li, m, a1, a2, a3, -, -, a6, a7, -, -⟩ := h
  refine ⟨u1, u2, a1, ?_, ?_⟩
  · have := a3.plain; rw [a2] at this; exact this.keep (Nat.zero_le _) (fun _ _ _ => rfl)
  · have := a7.its; rw [a6] at this; exact this.keep (Nat.zero_le _) (fun _ _ _ => rfl)
end Go.Sf

/-! The blocks of a store are listed, in the order of their ids. -/
namespace Go.Sf
open Go Go.RowKit Go.Proofs Go.Maps Go.Sort
theorem StoreOk.idIn {s : List Hd} (hs : StoreOk s) {k : Nat} {x : Hd} (hx : s[k]? = some x) : inI x.id := by
  have := (hd_ok (hs.2 k x hx).1).1
  unfold inI; omega
theorem ids_asc {s : List Hd} (hs : StoreOk s) : (s.map (·.id)).Pairwise (· < ·) := by
  rw [List.pairwise_iff_getElem]
  intro i j hi hj hij
  rw [List.length_map] at hi hj
  simp only [List.getElem_map]
  have h1 : s[i]? = some s[i] := by simp [hi]
  have h2 : s[i + 1 + (j - i - 1)]? = some s[j] := by rw [show i + 1 + (j - i - 1) = j by omega]; simp [hj]
  exact hs.asc (j - i - 1) i _ _ h1 h2
theorem ids_sort {s : List Hd} (hs : StoreOk s) : (s.map (·.id)).mergeSort leI = s.map (·.id) :=
  List.mergeSort_of_pairwise ((ids_asc hs).imp fun h => decide_eq_true (Int.le_of_lt h))
theorem store_keys {B b n : Nat} {s : List Hd} {w : World} (hs : StoreOk s) (h : StoreAt B b n s w) : ∃ D : DataW Value, w.ownsMap Tryz.prog 3 rV b n D ∧ (s.map (·.id)).Perm (intKeys D) ∧ Maps.size D = s.length := by
  obtain ⟨M, ⟨D, h1, h2⟩, h3⟩ := h
  refine ⟨D, h1, ?_⟩
  obtain ⟨es, hD, hp⟩ := h1.tidy lawI
  obtain ⟨es', hD', hk⟩ := h1.keysOf
  rw [hD] at hD'
  cases hD'
  have hks : ∀ p ∈ es, ∃ x, p.1 = .int .i64 x := fun p hp' => by
    obtain ⟨key, hkey⟩ := hk p hp'
    obtain ⟨x, -, hx, -⟩ := Maps.keyOf_i64 Tryz.underlying3 hkey
    exact ⟨x, hx⟩
  have hperm : (s.map (·.id)).Perm (intKeys D) := by
    rw [hD]
    refine perm_intKeys hp hks ((ids_asc hs).imp fun h => Int.ne_of_lt h) fun x => ?_
    rw [← hD, (h2 (.int .i64 x) (by simp [WideAt.IsKeyLit])).1]
    have h4 := h3 x
    have e : kI x = .int .i64 x := rfl
    rw [e] at h4
    constructor
    · intro hx
      obtain ⟨y, hy, rfl⟩ := List.mem_map.1 hx
      obtain ⟨k, hk⟩ := List.mem_iff_getElem?.1 hy
      obtain ⟨u, hu, -⟩ := h4.2 y (hs.find hk)
      rw [hu]; rfl
    · intro hx
      cases hf : findH s x with
      | none => rw [h4.1 hf] at hx; cases hx
      | some y =>
        obtain ⟨k1, k2⟩ := findH_some hf
        exact List.mem_map.2 ⟨y, k1, k2⟩
  refine ⟨hperm, ?_⟩
  have e1 := hperm.length_eq
  rw [hD] at e1 ⊢
  simpa [intKeys, Maps.size] using e1.symm
/-- slices.Sorted of the ids -/
theorem SortedI_c {B b n : Nat} {s : List Hd} {w : World} (hs : StoreOk s) (h : StoreAt B b n s w) :
    Calls Tryz.prog 157 #[.func (.func 190) #[] #[.pointer (some ⟨w.heap.size, 0, none⟩)]] (w.alloc (.cells #[.map (some b)] 80))
      (RetP (fun v w' => Ints w.heap.size w' v (s.map (·.id))) (w.alloc (.cells #[.map (some b)] 80))) := by
  obtain ⟨D, h1, h2, h3⟩ := store_keys hs h
  have h16 := hs.1
  refine (Tryz.slices_Sorted_I b n D rV w h1 (by rw [h3]; unfold maxLen; omega) (by rw [h3]; omega)).mono ?_
  rintro e w' ⟨v, ss, rfl, hp, hrow, -, hb⟩
  have e1 : ss.mergeSort leI = s.map (·.id) := by rw [mergeSort_of_perm_i (hp.trans h2.symm), ids_sort hs]
  have e2 : (ss.mergeSort fun x y => decide (x ≤ y)) = s.map (·.id) := e1
  have e3 : ss.length = (s.map (·.id)).length := by
    have := congrArg List.length e1
    simpa using this
  rw [e2, e3] at hrow
  refine ⟨v, rfl, ?_, hb⟩
  refine SlOf.of_own (E := EInt) hrow (by simp) (by rw [List.length_map]; unfold lim; omega) fun k x cs hx hj => ?_
  have hx' := hx
  rw [List.getElem?_map, Option.map_eq_some_iff] at hx
  obtain ⟨y, hy, rfl⟩ := hx
  have := hj 0 (by omega)
  simp only [Nat.mul_one, Nat.add_zero, List.getElem?_map, hy, Option.map_some] at this
  exact ⟨by rw [Nat.mul_one]; exact this, hs.idIn hy⟩
/-- `make([]T, 0, n)` -/
theorem run_mk0 {P : Program} {T t : TypeId} {sz : Nat} (el : Elem P T t sz) (n : Nat) (hn : n ≤ lim) : ∃ cs : Array Value, cs.size = n * sz ∧
    ∀ W, (Instr.makeSlice T (.int .i64 0) (.int .i64 n)).run P W = .ok (.slice (some ⟨W.heap.size, 0, none⟩) 0 n) (W.alloc (.cells cs t)) := by
  obtain ⟨i, z, by_, hi, hz, hsz, hby, hb128, hzs⟩ := el.info
  refine ⟨madeCells z.cells (n * i.size), by rw [size_madeCells, hsz], fun W => ?_⟩
  have hm : by_ * n ≤ 128 * n := Nat.mul_le_mul_right _ hb128
  unfold lim at hn
  have := run_make (P := P) W T t i z el.under hi hz .i64 .i64 0 n (by omega) (by omega) (by rw [hby]; rw [← Int.natCast_mul]; omega) (by omega)
  simpa using this
theorem OwnS.made0 {α : Type} {B n : Nat} (t : TypeId) (sz : Nat) (E : World → Array Value → Nat → α → Prop) (w : World) (cs : Array Value) (hcs : cs.size = n * sz) (hB : B ≤ w.heap.size) (hn : n ≤ maxLen) :
    OwnS B t sz E (w.alloc (.cells cs t)) (.slice (some ⟨w.heap.size, 0, none⟩) 0 n) [] :=
  ⟨[], World.ownsRow_made w _ n hB hn hcs, fun k x h => by simp at h⟩
theorem ehdU_of {B : Nat} {w : World} {x : Hd} {u : Value} (h1 : inI x.id) (h2 : Ints B w u x.bytes) (h3 : inI x.uses) : EHdU B w #[.int .i64 x.id, u, .int .i64 x.uses] 0 (x, u) := ⟨rfl, h1, rfl, rfl, h3, h2⟩
theorem oneHd {i j : Int} {u : Value} (h : u.oneCell' = true) : ∀ c ∈ (#[.int .i64 i, u, .int .i64 j] : Array Value).toList, c.oneCell' = true := by
  intro c hc
  simp at hc
  rcases hc with rfl | rfl | rfl
  · rfl
  · exact h
  · rfl
set_option maxRecDepth 4000 in
set_option maxHeartbeats 2000000 in
theorem storeList_c {B b n : Nat} {s : List Hd} (w : World) (hs : StoreOk s) (h : StoreAt B b n s w) :
    Calls Tryz.prog 124 #[.map (some b)] w (RetP (fun v w' => ∃ lu, lu.map Prod.fst = s ∧ OwnS w.heap.size 110 3 (EHdU w.heap.size) w' v lu ∧ Sep lu ∧ Within w w' lu) w) := by
  have h16 := hs.1
  have HS := Lib.hid hs
  have Cs := fun W (e : Ext w W) => SortedI_c hs (h.ext e)
  obtain ⟨D, hO, -, hD⟩ := store_keys hs h
  obtain ⟨M, hV, hM⟩ := h
  have HV : Hid (∀ W, Ext w W → MapV Tryz.prog 3 b n M W) := Lib.hid fun W e => hV.ext e
  have HM : Hid (∀ W, Ext w W → MapHd B W s M) := Lib.hid fun W e => hM.ext e
  generalize hq : s.length = q at *
  have Hq := Lib.hid hq
  obtain ⟨cs0, hcs, hmk⟩ := run_mk0 el_Hd q (by unfold lim; omega)
  have HO0 := Lib.hid (OwnS.made0 110 3 (EHdU w.heap.size) w cs0 hcs (Nat.le_refl _) (by unfold maxLen; omega))
  have e0 : Ext w (w.alloc (.cells cs0 110)) := (Ext.refl w).alloc _
  clear hV hM hq hs hcs
  go_enter Tryz.func124, Tryz.ntmps124
  go_wp2_with (at_len; refine wpList_len_own _ rfl _ _ rfl 3 110 underStore rV b n D rfl hO ?_; rw [hD])
  clear hmk hO hD
  refine (Tryz.maps_Keys_I (some b) _).mono ?_
  rintro e w1 ⟨rfl, rfl⟩
  go_wp2_with fail
  have Cs0 := Cs _ e0
  rw [World.size_alloc] at Cs0
  refine Cs0.mono ?_
  rintro e w2 ⟨vk, rfl, hK, he2⟩
  obtain ⟨Ak, ck, rfl, hAk⟩ := hK
  have HAk : Hid (Ints 0 w2 (.slice Ak (s.map (·.id)).length ck) (s.map (·.id))) := Lib.hid (Ints.keep ⟨_, _, rfl, hAk⟩ (Nat.zero_le _) (fun _ _ _ => rfl))
  rw [List.length_map, Hq.out] at HAk ⊢
  have e2 : Ext (w.alloc (.cells cs0 110)) w2 := ((Ext.refl _).alloc _).trans he2
  have HO2 := Lib.hid (HO0.out.ext (EHdU_ok _) e2)
  have E2 := e0.trans e2
  clear Cs Cs0 hAk he2 e2 HO0 e0
  go_wp2
  go_loopw [3, 14] (fun v i wr => ∃ (j : Nat) (lu : List (Hd × Value)), j ≤ q ∧ i = .int .i64 j ∧ Ext w wr ∧ Hid (Ints 0 wr (.slice Ak q ck) (s.map (·.id))) ∧ OwnS w.heap.size 110 3 (EHdU w.heap.size) wr v lu ∧ Hid (lu.map Prod.fst = s.take j) ∧ Hid (Sep lu ∧ Within w wr lu)) (fun _ i _ => q - (RowKit.intOf i).toNat)
  case atStart => exact ⟨0, [], by omega, rfl, E2, HAk, HO2.out, Lib.hid rfl, Lib.hid ⟨List.Pairwise.nil, fun q hq => by simp at hq⟩⟩
  case round =>
    obtain ⟨j, L, hj, rfl, he, hIk, hO, hLm, hSW⟩ := hrel
    by_cases hlt : j < q
    · obtain ⟨x, hx⟩ := get_of_lt (l := s) (k := j) (by rw [Hq.out]; exact hlt)
      have hx' : (s.map (·.id))[j]? = some x.id := by rw [List.getElem?_map, hx]; rfl
      obtain ⟨Ak', ck', hvk, hAk⟩ := hIk.out
      rw [List.length_map, Hq.out] at hvk
      injection hvk with ek1 ek2 ek3
      subst ek1; subst ek3
      clear ek2
      obtain ⟨b2, o2, rfl, -, -, hxi, hc0⟩ := Ints.at_ hAk hx'
      have q0 := hc0 wr (Ext.refl _)
      obtain ⟨u, hr, hu⟩ := (HM.out wr he x.id).2 x (HS.out.find hx)
      have hku : inI x.uses := by
        have := (hd_ok (HS.out.2 j x hx).1).2.2
        unfold inI; omega
      have hLl : L.length = j := by
        have := congrArg List.length hLm.out
        rw [List.length_map, List.length_take] at this
        have := Hq.out
        omega
      obtain ⟨Ax, cx, rfl, hux⟩ := hu
      have Htk := Lib.hid (take_succ_get hx)
      obtain ⟨xk, xb, xu⟩ := x
      simp only at hxi hku hux hr Htk hc0 q0
      have hkey := keyI hxi
      have hVr := HV.out wr he
      have HO := Lib.hid hO
      have HI : Hid (∀ W, Ext wr W → Ints B W (.slice Ax xb.length cx) xb) := Lib.hid fun W e => Ints.ext (w := wr) ⟨_, _, rfl, hux⟩ e
      have hbk := Blk.new wr 110 #[.int .i64 xk, .slice Ax xb.length cx, .int .i64 xu]
      have d1 := fun W (e : Ext _ W) => hbk.at_ (i := 1) (u := .slice Ax xb.length cx) rfl W e
      have d2 := fun W (e : Ext _ W) => hbk.at_ (i := 2) (u := .int .i64 xu) rfl W e
      have ea : Ext wr (wr.alloc (.cells #[.int .i64 xk, .slice Ax xb.length cx, .int .i64 xu] 110)) := (Ext.refl wr).alloc _
      clear hc0 hx hx' hbk hux hO hAk
      go_wp2_with (at_lookup; refine wp_mlook_some rfl _ _ rfl lawI underStore (zeroHd _) rfl hVr _ _ rfl hkey hr ?_)
      refine wp_region_hold (fun W => W.cell? ⟨wr.heap.size, 1, none⟩ = some (.slice Ax xb.length cx) ∧ W.cell? ⟨wr.heap.size, 2, none⟩ = some (.int .i64 xu)) 9 [(0, true), (1, true), (2, true), (3, true), (5, true), (6, true), (4, false), (7, true), (8, false)] (by kernel_rfl) (by kernel_rfl) ?_ ?_
      · exact ⟨d1 _ (Ext.refl _).drew, d2 _ (Ext.refl _).drew⟩
      (repeat (first | (apply hw_read (by rfl) (by rfl); (· (intro W hW; (try dsimp only at hW); go_simp; (first | done | rfl | (rw [if_pos] <;> first | omega | rfl)))); (try simp only [Act.put, List.setIfInBounds_toArray, List.set_cons_zero, List.set_cons_succ])) | (refine hw_skip (by rfl) (by rfl) ?_; (try simp only [Act.put, List.setIfInBounds_toArray, List.set_cons_zero, List.set_cons_succ]))))
      refine hw_step (by rfl) ?_
      go_wp2_with (go_at_call 115; refine (Clone_intN_c (xs := xb) _ (HI.out _ (ea.drew))).mono ?_; rintro e w4 ⟨u9, rfl, ⟨⟨A9, c9, rfl, hu9⟩, hnw⟩, he9⟩)
      have he5 := ea.drew.trans he9
      have he6 := he.trans he5
      have he4 := (Ext.refl (wr.alloc (.cells #[.int .i64 xk, .slice Ax xb.length cx, .int .i64 xu] 110))).drew.trans he9
      have Hu9 : Hid (Ints w.heap.size w4 (.slice A9 xb.length c9) xb) := Lib.hid (Ints.keep ⟨_, _, rfl, hu9⟩ (he.trans ea.drew).size (fun _ _ _ => rfl))
      have HO6 := Lib.hid (HO.out.ext (EHdU_ok _) he5)
      have HI6 := Lib.hid (hIk.out.ext he5)
      have hsz5 : wr.heap.size ≤ (wr.alloc (.cells #[.int .i64 xk, .slice Ax xb.length cx, .int .i64 xu] 110)).drew.heap.size := ea.drew.size
      have HSW1 : Hid (Sep (L ++ [((⟨xk, xb, xu⟩ : Hd), .slice A9 xb.length c9)]) ∧ Within w w4 (L ++ [((⟨xk, xb, xu⟩ : Hd), .slice A9 xb.length c9)])) := Lib.hid (by
        have hW1 : Within (wr.alloc (.cells #[.int .i64 xk, .slice Ax xb.length cx, .int .i64 xu] 110)).drew w4 [((⟨xk, xb, xu⟩ : Hd), Value.slice A9 xb.length c9)] := fun q hq b hb => by rw [List.mem_singleton] at hq; subst hq; exact hnw b hb
        exact ⟨hSW.out.1.append (List.pairwise_singleton _ _) hSW.out.2 hW1 hsz5, (hSW.out.2.mono (Nat.le_refl _) he5.size).append (hW1.mono (Nat.le_trans he.size hsz5) (Nat.le_refl _))⟩)
      clear he9 hu9 hnw hsz5 hSW
      refine ⟨⟨d1 _ he4, d2 _ he4⟩, ?_⟩
      (repeat (first | (apply hw_read (by rfl) (by rfl); (· (intro W hW; (try dsimp only at hW); go_simp; (first | done | rfl | (rw [if_pos] <;> first | omega | rfl)))); (try simp only [Act.put, List.setIfInBounds_toArray, List.set_cons_zero, List.set_cons_succ])) | (refine hw_skip (by rfl) (by rfl) ?_; (try simp only [Act.put, List.setIfInBounds_toArray, List.set_cons_zero, List.set_cons_succ]))))
      refine hw_step (by rfl) ?_
      go_wp2
      refine ⟨⟨d1 _ (he4.alloc _), d2 _ (he4.alloc _)⟩, ?_⟩
      (refine hw_nil ?_; (try simp only [List.drop_succ_cons, List.drop_zero]))
      go_wp2_with (at_builtin; go_must (refine wp_ap1G (B := w.heap.size) (by rfl) _ _ (by rfl) el_Hd (EHdU_ok _) he6.size _ L [(⟨xk, xb, xu⟩, .slice A9 xb.length c9)] (by rfl) HO6.out 1 1 rfl #[.int .i64 xk, .slice A9 xb.length c9, .int .i64 xu] _ (by rfl) (by first | rfl | simp) rfl (oneHd rfl) (one_E (ehdU_of (x := ⟨xk, xb, xu⟩) hxi Hu9.out hku)) ?_ ?_))
      · rw [hLl]; simp; unfold lim; omega
      · intro v' w' hO' hgr hk'
        have he' : Ext w w' := OwnS.grown_ext (HO6.out.ext (EHdU_ok _) ((Ext.refl _).alloc _)) (he6.alloc _) hgr
        have HI7 := Lib.hid (HI6.out.keepT hk' (by decide))
        have HO' := Lib.hid hO'
        have HSW2 := Lib.hid (And.intro HSW1.out.1 (HSW1.out.2.mono (Nat.le_refl _) (show w4.heap.size ≤ w'.heap.size from by have := hgr.size; simp at this; omega)))
        clear hgr hO' HSW1 hk' HI6
        go_wp2
        refine NoPanic.normal ?_
        (try dsimp only [Exit.then])
        (try go_wp2)
        go_roundw
        case rel => exact ⟨j + 1, _, by omega, by go_num, he', HI7, HO'.out, Lib.hid (by rw [Htk.out, ← hLm.out]; simp), HSW2⟩
        case measure => simp [RowKit.intOf]; omega
    · have hjs : j = q := by omega
      subst hjs
      have hm : L.map Prod.fst = s := by rw [hLm.out]; exact List.take_of_length_le (by rw [Hq.out]; exact Nat.le_refl _)
      have HO := Lib.hid hO; have Hm := Lib.hid hm
      obtain ⟨A', c', rfl⟩ := hO.form
      clear hO hm
      go_wp2
      go_ret
      exact ⟨_, rfl, ⟨L, Hm.out, HO.out, hSW.out.1, hSW.out.2⟩, he⟩
theorem storeListU_c {B b n : Nat} {s : List Hd} (w : World) (hs : StoreOk s) (h : StoreAt B b n s w) :
    Calls Tryz.prog 124 #[.map (some b)] w (RetP (fun v w' => ∃ lu, lu.map Prod.fst = s ∧ HdsU w.heap.size w' v lu ∧ Sep lu ∧ Within w w' lu) w) :=
  (storeList_c w hs h).mono fun _ _ ⟨v, h1, ⟨lu, h2, h3, h4, h5⟩, h6⟩ => ⟨v, h1, ⟨lu, h2, h3.sl (EHdU_ok _) (Nat.le_refl _) (by have := congrArg List.length h2; rw [List.length_map] at this; have := hs.1; unfold lim; omega), h4, h5⟩, h6⟩
end Go.Sf

/-! errors.As at a struct of the program's own: nil, or that struct. -/
namespace Go.Sf
open Go Go.RowKit Go.Proofs Go.Extern.Stop Go.Stop Go.Extern
end Go.Sf
