/- The program puts blocks into a store. -/
import Derived.Test.YtoljibhdakacjaaGreatDoorGU
import Derived.Test.YtoljibhdakacjaaGreatDoorHH
import Derived.Test.YtoljibhdakacjaaGreatDoorP35
namespace Go.Sf
open Go Go.RowKit Go.Proofs Go.Maps
def likeId (l : List Hd) (bs : List Int) : Int := (l.find? (likeIs bs)).elim 0 (·.id)
theorem likeId_some {l : List Hd} (h : StoreOk l) {bs : List Int} {x : Hd} (hf : findH l x.id = some x) (hb : x.bytes = bs) : likeId l bs = x.id := by
  obtain ⟨hm, -⟩ := findH_some hf
  obtain ⟨k, hk⟩ := List.mem_iff_getElem?.1 hm
  unfold likeId
  cases hl : l.find? (likeIs bs) with
  | none => exact absurd (likeIs_iff.2 hb) (List.find?_eq_none.1 hl x hm)
  | some y =>
    have hyb := likeIs_iff.1 (List.find?_some hl)
    obtain ⟨j, hj⟩ := List.mem_iff_getElem?.1 (List.mem_of_find?_eq_some hl)
    have : j = k := by
      rcases Nat.lt_trichotomy j k with hjk | hjk | hjk
      · exact absurd (hyb.trans hb.symm) ((h.2 k x hk).2.2 j y hjk hj)
      · exact hjk
      · exact absurd (hb.trans hyb.symm) ((h.2 j y hj).2.2 k x hjk hk)
    subst this
    rw [hj] at hk
    cases hk
    rfl
theorem likeId_none {l : List Hd} (h : StoreOk l) {bs : List Int} (hn : ∀ x, findH l x.id = some x → x.bytes ≠ bs) : likeId l bs = 0 := by
  unfold likeId
  cases hl : l.find? (likeIs bs) with
  | none => rfl
  | some y =>
    obtain ⟨j, hj⟩ := List.mem_iff_getElem?.1 (List.mem_of_find?_eq_some hl)
    exact absurd (likeIs_iff.1 (List.find?_some hl)) (hn y (h.find hj))
theorem ranges_ext {P : Program} {k : TypeId} {R : Value → Option (DataW Value × List MemPlace)} {b r n : Nat} {D : DataW Value} {left : Lit → Bool} {cnt : Nat} {w W : World} (h : w.ranges P k R b r n D left cnt) (e : Ext w W) : W.ranges P k R b r n D left cnt := by
  obtain ⟨es, clock, since, seen, c0, h1, h2, h3, h4, h5, h6⟩ := h
  exact ⟨es, clock, since, seen, c0, (e.block (Array.getElem?_eq_some_iff.1 h1).1).trans h1, h2, h3, h4, (e.block (Array.getElem?_eq_some_iff.1 h5).1).trans h5, h6⟩
set_option maxRecDepth 4000 in
set_option maxHeartbeats 4000000 in
theorem bsFind_c {B B' b n : Nat} {v : Value} {s : List Hd} {bs : List Int} (w : World) (hs : StoreOk s) (h : StoreAt B b n s w) (hi : Ints B' w v bs) :
    Calls Tryz.prog 186 #[.map (some b), v] w (Ret (.int .i64 (likeId s bs)) w) := by
  have HS := Lib.hid hs; have HB := Lib.hid hi
  obtain ⟨Ab, cb, rfl, -⟩ := hi
  obtain ⟨M, ⟨D, hO, hD⟩, hM⟩ := h
  have HD := Lib.hid hD; have HM := Lib.hid hM
  clear hs hD hM
  go_enter Tryz.func186, Tryz.ntmps186
  go_wp2_with (at_range; refine wpList_range_own _ rfl _ 80 rfl 3 110 lawI underStore rV b n D rfl hO ?_; intro w8 hrg8 hg8 hs8)
  go_frame
  have e8 : Ext w w8 := Below.grown (Ext.refl w) hg8 (Ext.refl w).size (fun j hj => by cases hj)
  have HL : Hid (∀ h, findH s h.id = some h → Maps.has D (kI h.id) = false → h.bytes ≠ bs) := Lib.hid fun h hf hh => by
    obtain ⟨u, h1, -⟩ := (HM.out h.id).2 h hf
    have := (HD.out (kI h.id) (by simp [kI, WideAt.IsKeyLit])).1
    rw [hh, h1] at this
    cases this
  have hex : ∃ r, r = w.heap.size := ⟨_, rfl⟩
  obtain ⟨r, hr⟩ := hex
  rw [← hr] at hrg8 ⊢
  have hrw : w.heap.size ≤ r := Nat.le_of_eq hr.symm
  have hex : ∃ wa, wa = w := ⟨_, rfl⟩
  obtain ⟨wa, hwa⟩ := hex
  rw [← hwa] at e8 HM hrw HB
  have Hwa := Lib.hid hwa
  clear hO hr hg8 hs8 hwa
  obtain ⟨m2, hm2⟩ : ∃ m, bs.length = m := ⟨_, rfl⟩
  have HB2 : Hid (Ints B' wa (.slice Ab m2 cb) bs) := Lib.hid (by rw [← hm2]; exact HB.out)
  rw [hm2]
  clear hm2
  go_loopw [5] (fun _ wr => ∃ (left : Lit → Bool) (cnt : Nat), wr.ranges Tryz.prog 3 rV b r n D left cnt ∧ Ext wa wr ∧ Hid (∀ h, findH s h.id = some h → left (kI h.id) = false → h.bytes ≠ bs)) (fun _ wr => wr.rangeLeft b r)
  case atStart => exact ⟨_, _, hrg8, e8, HL⟩
  case round =>
    obtain ⟨left, cnt, hrg, he9, hdone⟩ := hrel
    go_wp2_with (at_next; refine wp_next_hd rfl _ rfl rfl hrg HD.out HM.out ?_ ?_)
    · intro hl0
      have Hr : Hid (likeId s bs = 0) := Lib.hid (likeId_none HS.out fun x hf => hdone.out x hf (hl0 _))
      clear hdone
      go_wp2
      go_ret
      exact ⟨by rw [Hr.out]; rfl, by rw [← Hwa.out]; exact he9⟩
    · intro x u w1 cnt1 hf hxi hu hrg1 hlt1 hg1 hen
      obtain ⟨Ah, ch, rfl, -⟩ := id hu
      have e1 : Ext wa w1 := Below.grown he9 hg1 he9.size (fun j hj => by cases hj; exact hrw)
      have Hf := Lib.hid hf
      have HU := Lib.hid hu
      have CE := fun W (e : Ext wa W) => slices_Equal_int_c W (HU.out.ext e) (HB2.out.ext e)
      have hbk := Blk.new w1 110 #[.int .i64 x.id, .slice Ah x.bytes.length ch, .int .i64 x.uses]
      have d1 := fun W (e : Ext _ W) => hbk.at_ (i := 1) (u := .slice Ah x.bytes.length ch) rfl W e
      have ea := (Ext.refl w1).alloc (.cells #[.int .i64 x.id, .slice Ah x.bytes.length ch, .int .i64 x.uses] 110)
      obtain ⟨m1, hm1⟩ : ∃ m, x.bytes.length = m := ⟨_, rfl⟩
      obtain ⟨bb, hbb⟩ : ∃ bb, eqb x.bytes bs = bb := ⟨_, rfl⟩
      simp only [hbb] at CE
      rw [hm1] at CE
      rw [hm1] at hbk d1 ea hen ⊢
      have Hbb := Lib.hid hbb
      clear hf hu hbk hm1 hbb
      cases bb with
      | true =>
        have Hr := Lib.hid (likeId_some HS.out Hf.out (eqb_true.1 Hbb.out))
        clear hdone
        go_wp2_with (go_at_call 148; refine (CE _ (by first | exact e1.trans ea | (repeat' (first | exact Ext.refl _ | assumption | refine Ext.alloc ?_ _ | refine Ext.drew ?_ | refine Ext.drewN ?_ _)))).mono ?_; rintro e w4 ⟨rfl, he4⟩)
        go_ret
        exact ⟨by rw [Hr.out]; rfl, by rw [← Hwa.out]; exact (e1.trans ea).trans he4⟩
      | false =>
        have Hd9 : Hid (∀ h, findH s h.id = some h → (left (kI h.id) && !(kI h.id).sameKey (kI x.id)) = false → h.bytes ≠ bs) := Lib.hid fun h hh hl => by
          rw [sameK] at hl
          by_cases e : h.id = x.id
          · have h1 := Hf.out
            rw [e, h1] at hh
            cases hh
            exact eqb_false.1 Hbb.out
          · exact hdone.out h hh (by simpa [e] using hl)
        clear hdone
        go_wp2_with (go_at_call 148; refine (CE _ (by first | exact e1.trans ea | (repeat' (first | exact Ext.refl _ | assumption | refine Ext.alloc ?_ _ | refine Ext.drew ?_ | refine Ext.drewN ?_ _)))).mono ?_; rintro e w4 ⟨rfl, he4⟩)
        go_roundw
        case rel => exact ⟨_, cnt1, ranges_ext hrg1 (ea.trans he4), (e1.trans ea).trans he4, Hd9⟩
        case measure => rw [(ranges_ext hrg1 (ea.trans he4)).left_eq, hrg.left_eq]; exact hlt1
/-- where the rows of a store lie -/
def RowsOk (P : Nat → Prop) (M : Lit → Option Value) : Prop := ∀ i a u c, M (kI i) = some (.agg #[a, u, c]) → ∀ g, u.ownBlock = some g → P g
theorem RowsOk.upd {P : Nat → Prop} {M : Lit → Option Value} {k : Int} {a u c : Value} (h : RowsOk P M) (hu : ∀ g, u.ownBlock = some g → P g) : RowsOk P (updM M (kI k) (some (.agg #[a, u, c]))) := fun i a' u' c' hi g hg => by
  by_cases e : i = k
  · subst e
    rw [updM_same] at hi
    injection hi with hi
    injection hi with hi
    simp at hi
    obtain ⟨-, rfl, -⟩ := hi
    exact hu g hg
  · rw [updM_other (kI_ne e)] at hi
    exact h i a' u' c' hi g hg
/-- a map that holds a store -/
def StoreM (B b n : Nat) (M : Lit → Option Value) (l : List Hd) (w : World) : Prop := MapV Tryz.prog 3 b n M w ∧ MapHd B w l M
theorem StoreM.at_ {B b n : Nat} {M : Lit → Option Value} {l : List Hd} {w : World} (h : StoreM B b n M l w) : StoreAt B b n l w := ⟨M, h⟩
theorem StoreM.ext {B b n : Nat} {M : Lit → Option Value} {l : List Hd} {w w' : World} (h : StoreM B b n M l w) (e : Ext w w') : StoreM B b n M l w' := ⟨h.1.ext e, h.2.ext e⟩
theorem rows_lt {B b n : Nat} {M : Lit → Option Value} {l : List Hd} {w : World} (hs : StoreOk l) (h : StoreM B b n M l w) : RowsOk (fun g => g < w.heap.size) M := fun i a u c hi g hg => by
  cases hf : findH l i with
  | none => rw [(h.2 i).1 hf] at hi; cases hi
  | some y =>
    obtain ⟨u', h1, h2⟩ := (h.2 i).2 y hf
    rw [h1] at hi
    injection hi with hi
    injection hi with hi
    simp at hi
    obtain ⟨-, rfl, -⟩ := hi
    obtain ⟨A, c', rfl, hA⟩ := h2
    have h8 : 1 ≤ y.bytes.length := by
      obtain ⟨q1, -⟩ := findH_some hf
      obtain ⟨j, hj⟩ := List.mem_iff_getElem?.1 q1
      exact (block_len (hd_ok (hs.2 j y hj).1).2.1).1
    obtain ⟨x, hx⟩ := get_of_lt (l := y.bytes) (k := 0) (by omega)
    obtain ⟨b2, o2, rfl, -, hlt, -⟩ := Ints.at_ hA hx
    simp only [Value.ownBlock, Option.some.injEq] at hg
    omega
def KeepMP (w0 w : World) (B b n : Nat) (M : Lit → Option Value) (s : List Hd) (k : Nat) (y : Hd) (e : Ending) (w' : World) : Prop :=
  Ext w0 w' ∧ KeepsC w w' ∧ ((999 ≤ y.uses ∧ e = .returned (.bool false)) ∨ (y.uses < 999 ∧ e = .returned (.bool true) ∧ ∃ M', StoreM B b n M' (s.set k (moreOne y)) w' ∧ ∀ P, RowsOk P M → RowsOk P M'))
set_option maxRecDepth 4000 in
set_option maxHeartbeats 2000000 in
theorem bsKeep_c {B b n k : Nat} {M : Lit → Option Value} {s : List Hd} {y : Hd} {w0 w : World} (hs : StoreOk s) (h : StoreM B b n M s w) (hn : n < maxLen) (h0 : Ext w0 w) (hb : w0.heap.size ≤ b) (hy : s[k]? = some y) :
    Calls Tryz.prog 187 #[.map (some b), .int .i64 y.id] w (KeepMP w0 w B b (n + 1) M s k y) := by
  have hok := hd_ok (hs.2 k y hy).1
  have hfd := fun i => find_more hs hy i
  have hf := hs.find hy
  obtain ⟨hV, hM⟩ := h
  obtain ⟨u, hr, hu⟩ := (hM y.id).2 y hf
  have HP : Hid (∀ P, RowsOk P M → ∀ g, u.ownBlock = some g → P g) := Lib.hid fun P h g hg => h _ _ _ _ hr g hg
  obtain ⟨Au, cu, rfl, hAu⟩ := hu
  have hin : inI y.id := by unfold inI; omega
  have hkey := keyI hin
  have HV := Lib.hid hV; have HM := Lib.hid hM; have HF := Lib.hid hfd; have H0 := Lib.hid h0
  have HU : Hid (Ints B w (.slice Au y.bytes.length cu) y.bytes) := Lib.hid ⟨_, _, rfl, hAu⟩
  obtain ⟨yk, yb, yu⟩ := y
  simp only at *
  have hwr : IntKind.i64.wrap (yu + 1) = yu + 1 := IntWalk.i64_in _ (by omega)
  have ea : Ext w (w.alloc (.cells #[.int .i64 yk, .slice Au yb.length cu, .int .i64 yu] 110)) := (Ext.refl w).alloc _
  clear hM hAu hs hy hf hfd h0
  by_cases hu9 : 999 ≤ yu
  · go_enter Tryz.func187, Tryz.ntmps187
    go_wp2_with (at_lookup; refine wp_mlook_ok_some rfl _ _ rfl lawI underStore (zeroHd _) rfl hV _ _ rfl hkey hr ?_)
    go_ret
    exact ⟨H0.out.trans ea, ea.keepsC, .inl ⟨hu9, rfl⟩⟩
  · have hu9' : yu < 999 := by omega
    have eb : Ext w (w.alloc (.cells #[.int .i64 yk, .slice Au yb.length cu, .int .i64 (yu + 1)] 110)) := (Ext.refl w).alloc _
    go_enter Tryz.func187, Tryz.ntmps187
    go_wp2_with (first | (at_lookup; refine wp_mlook_ok_some rfl _ _ rfl lawI underStore (zeroHd _) rfl hV _ _ rfl hkey hr ?_) | (at_mapUpdate; (refine wp_mput (w0 := w0) rfl _ _ _ rfl lawI underStore (H0.out.trans eb) hb rfl (HV.out.ext eb) hn _ _ _ rfl rfl hkey ?_; intro w6 hM6 he6 hg6)))
    have hK := map_keepsC (HV.out.ext eb) hg6
    go_ret
    refine ⟨he6, eb.keepsC.trans hK, .inr ⟨hu9', rfl, _, ⟨hM6, fun i => ?_⟩, fun P h => h.upd (HP.out P h)⟩⟩
    have hfi := HF.out i
    by_cases e : i = yk
    · subst e
      rw [if_pos rfl] at hfi
      rw [hfi, updM_same]
      refine ⟨fun h => (by cases h), fun z hz => ?_⟩
      injection hz with hz
      subst hz
      exact ⟨_, rfl, (HU.out.ext eb).keepT (hK.t 9) (by decide)⟩
    · rw [if_neg e] at hfi
      rw [hfi, updM_other (kI_ne e)]
      exact ((HM.out.ext eb).keepT (hK.t 9) (by decide)) i
/-- what putting a block leaves -/
def PutBP (w0 w : World) (B b n : Nat) (M : Lit → Option Value) (o : Option (List Hd × Int)) (e : Ending) (w' : World) : Prop :=
  Ext w0 w' ∧ KeepsC w w' ∧ ((o = none ∧ ∃ i, e = .returned (.tuple #[.int .i64 i, .bool false])) ∨ (∃ s' i, o = some (s', i) ∧ e = .returned (.tuple #[.int .i64 i, .bool true]) ∧ ∃ M', StoreM B b n M' s' w' ∧ ∀ P, RowsOk P M → (∀ g, w.heap.size ≤ g → P g) → RowsOk P M'))
theorem freeGo_at {l : List Hd} (h : StoreOk l) {i : Int} (h1 : 1 ≤ i) (hi : i ≤ freeId l) : (i = freeId l ∧ findH l i = none) ∨ (i < freeId l ∧ ∃ y, findH l i = some y) := by
  rcases Int.lt_or_eq_of_le hi with hlt | rfl
  · refine .inr ⟨hlt, ?_⟩
    obtain ⟨x, hx, rfl⟩ := hAt_in ((freeGo_low 100 1).2 i h1 hlt)
    obtain ⟨k, hk⟩ := List.mem_iff_getElem?.1 hx
    exact ⟨x, h.find hk⟩
  · exact .inl ⟨rfl, free_none h⟩
theorem fresh_row {w0 w w' : World} {v : Value} {bs : List Int} (h : Ints w.heap.size w' v bs) (e : w0.heap.size ≤ w.heap.size) (hb : 0 < bs.length) : ∀ g, v.ownBlock = some g → w0.heap.size ≤ g := fun g hg => by
  obtain ⟨A, c, rfl, hA⟩ := h
  obtain ⟨x, hx⟩ := get_of_lt (l := bs) (k := 0) hb
  obtain ⟨b2, o2, rfl, hB, -⟩ := Ints.at_ hA hx
  simp only [Value.ownBlock, Option.some.injEq] at hg
  omega
set_option maxRecDepth 4000 in
set_option maxHeartbeats 4000000 in
theorem bsPut_c {B B' b n : Nat} {M : Lit → Option Value} {v : Value} {s : List Hd} {bs : List Int} {w0 w : World} (hs : StoreOk s) (h : StoreM B b n M s w) (hi : Ints B' w v bs) (hok : blockOk bs = true) (hn : n < maxLen) (h0 : Ext w0 w) (hb : w0.heap.size ≤ b) (hB : B ≤ w.heap.size) :
    Calls Tryz.prog 154 #[.map (some b), v] w (PutBP w0 w B b (n + 1) M (storePut s bs)) := by
  have Cf := bsFind_c w hs h.at_ hi
  have HSt := Lib.hid h; have HB := Lib.hid hi; have HS := Lib.hid hs; have H0 := Lib.hid h0
  have Hbs : Hid (0 < bs.length) := Lib.hid (by have := (block_len hok).1; omega)
  obtain ⟨Ab, cb, rfl, -⟩ := hi
  obtain ⟨m, hm⟩ : ∃ m, bs.length = m := ⟨_, rfl⟩
  rw [hm] at HB ⊢
  have Hm := Lib.hid hm
  rw [hm] at Cf
  clear hm h h0
  rcases storePut_cases hs hok with ⟨k, y, hy, hyb, hcase⟩ | ⟨hne, hcase⟩
  · have hli : likeId s bs = y.id := likeId_some hs (hs.find hy) hyb
    rw [hli] at Cf
    have hid := (hd_ok (hs.2 k y hy).1).1
    have hid0 : (y.id != 0) = true := by simp; omega
    have Ck := fun W (e : Ext w W) => bsKeep_c (w0 := w0) hs (HSt.out.ext e) hn (H0.out.trans e) hb hy
    have Hcase := Lib.hid hcase
    generalize storePut s bs = o at *
    clear hs hy hyb hcase hli
    go_enter Tryz.func154, Tryz.ntmps154
    go_wp2_with fail
    refine Cf.mono ?_
    rintro e w1 ⟨rfl, he1⟩
    have Ck1 := Ck w1 he1
    go_wp2_with fail
    refine Ck1.mono ?_
    rintro e w2 ⟨he2, hK2, ⟨hu, rfl⟩ | ⟨hu, rfl, hSt2⟩⟩
    · have Hr : Hid (o = none) := Lib.hid (by
        rcases Hcase.out with ⟨h1, -⟩ | ⟨-, h2⟩
        · omega
        · exact h2)
      have HK := Lib.hid (he1.keepsC.trans hK2)
      clear hK2 Ck1
      go_wp2
      go_ret2
      exact ⟨he2, HK.out, .inl ⟨Hr.out, _, rfl⟩⟩
    · have Hr : Hid (o = some (s.set k (moreOne y), y.id)) := Lib.hid (by
        rcases Hcase.out with ⟨-, h2⟩ | ⟨h1, -⟩
        · exact h2
        · omega)
      have HK := Lib.hid (he1.keepsC.trans hK2); have HSt2 := Lib.hid hSt2
      clear hK2 Ck1 hSt2
      go_wp2
      go_ret2
      obtain ⟨M', g1, g2⟩ := HSt2.out
      exact ⟨he2, HK.out, .inr ⟨_, _, Hr.out, rfl, M', g1, fun P h _ => g2 P h⟩⟩
  · have hli : likeId s bs = 0 := likeId_none hs fun x hf => hne x (findH_some hf).1
    rw [hli] at Cf
    have h17 := free_17 hs
    have Hne := Lib.hid hne; have Hcase := Lib.hid hcase
    clear hs hli hne hcase
    go_enter Tryz.func154, Tryz.ntmps154
    go_wp2_with fail
    refine Cf.mono ?_
    rintro e w1 ⟨rfl, he1⟩
    have hSt1 := HSt.out.ext he1
    obtain ⟨D, hO, -, hD⟩ := store_keys HS.out hSt1.at_
    have HSt1 := Lib.hid hSt1
    obtain ⟨sl, hsl⟩ : ∃ n, s.length = n := ⟨_, rfl⟩
    rw [hsl] at hD
    have Hsl := Lib.hid hsl
    clear hSt1 hsl Cf
    by_cases h16 : 16 ≤ sl
    · have h16' : (16 : Int) ≤ (sl : Int) := by omega
      have Hr : Hid (storePut s bs = none) := Lib.hid (by
        rcases Hcase.out with ⟨h1, -⟩ | ⟨-, h2⟩
        · rw [Hsl.out] at h1; omega
        · exact h2)
      go_wp2_with (at_len; refine wpList_len_own _ rfl _ _ rfl 3 110 underStore rV b n D rfl hO ?_; rw [hD])
      go_ret2
      exact ⟨H0.out.trans he1, he1.keepsC, .inl ⟨Hr.out, _, rfl⟩⟩
    · have h16' : ¬ (16 : Int) ≤ (sl : Int) := by omega
      have Hr : Hid (storePut s bs = some (withHd ⟨freeId s, bs, 1⟩ s, freeId s)) := Lib.hid (by
        rcases Hcase.out with ⟨-, h2⟩ | ⟨h1, -⟩
        · exact h2
        · rw [Hsl.out] at h1; omega)
      go_wp2_with (at_len; refine wpList_len_own _ rfl _ _ rfl 3 110 underStore rV b n D rfl hO ?_; rw [hD])
      clear hO hD
      obtain ⟨fr, hfr⟩ : ∃ fr, freeId s = fr := ⟨_, rfl⟩
      have Hfr := Lib.hid hfr
      rw [hfr] at h17
      clear hfr
      go_loopw [7] (fun i wr => ∃ k : Int, i = .int .i64 k ∧ 1 ≤ k ∧ k ≤ fr ∧ Ext w1 wr) (fun i _ => 100 - (RowKit.intOf i).toNat)
      case atStart => exact ⟨1, rfl, by omega, by omega, Ext.refl _⟩
      case round =>
        obtain ⟨k, rfl, hk1, hkf, he⟩ := hrel
        obtain ⟨hV, hM⟩ := HSt1.out.ext he
        have HV := Lib.hid hV; have HM := Lib.hid hM
        have hki : inI k := by unfold inI; omega
        have hkey := keyI hki
        rcases freeGo_at HS.out hk1 (by rw [Hfr.out]; exact hkf) with ⟨hke, hfn⟩ | ⟨hlt, y, hfy⟩
        · have hr := (hM k).1 hfn
          rw [Hfr.out] at hke
          have Hke := Lib.hid hke
          clear hke
          have Hfn := Lib.hid hfn
          have hfd : ∀ W : World, (Instr.field 110 (.agg #[.int .i64 0, .slice none 0 0, .int .i64 0]) 2).run Tryz.prog W = .ok (.int .i64 0) W := fun _ => by kernel_rfl
          have e1r := he1.trans he
          have CC := Clone_int_c wr (HB.out.ext e1r)
          (try rw [Hm.out] at CC)
          clear hM hfn hk1 hkf
          go_wp2_with (first | (at_lookup; refine wp_mlook_none rfl _ _ rfl lawI underStore (zeroHd _) rfl hV _ _ rfl hkey hr ?_) | (go_at_call 115; refine CC.mono ?_; rintro e w4 ⟨u9, rfl, hu9', he9⟩; have HP9 := Lib.hid (fresh_row hu9' e1r.size Hbs.out); obtain ⟨A9, c9, rfl, hu9⟩ := hu9'; have HU9 : Hid (Ints B w4 (.slice A9 bs.length c9) bs) := Lib.hid (Ints.keep ⟨_, _, rfl, hu9⟩ (Nat.le_trans hB e1r.size) (fun _ _ _ => rfl)); clear hu9) | (at_mapUpdate; (refine wp_mput (w0 := w0) rfl _ _ _ rfl lawI underStore (H0.out.trans (e1r.trans he9)) hb rfl (HV.out.ext he9) hn _ _ _ rfl rfl hkey ?_; intro w6 hM6 he6 hg6)))
          have hK := map_keepsC (HV.out.ext he9) hg6
          go_ret2
          refine ⟨he6, (e1r.trans he9).keepsC.trans hK, .inr ⟨_, k, by rw [Hr.out, Hfr.out, Hke.out], rfl, _, ⟨hM6, fun i => ?_⟩, fun P h hf => h.upd fun g hg => hf g (HP9.out g hg)⟩⟩
          rw [← Hke.out, find_with (x := ⟨k, bs, 1⟩) Hfn.out]
          by_cases e : i = k
          · subst e
            rw [if_pos rfl, updM_same]
            refine ⟨fun h => (by cases h), fun z hz => ?_⟩
            injection hz with hz
            subst hz
            exact ⟨_, rfl, HU9.out.keepT (hK.t 9) (by decide)⟩
          · rw [if_neg e, updM_other (kI_ne e)]
            exact ((HM.out.ext he9).keepT (hK.t 9) (by decide)) i
        · obtain ⟨u, hr, hu⟩ := (hM k).2 y hfy
          obtain ⟨Ay, cy, rfl, -⟩ := hu
          obtain ⟨hym, -⟩ := findH_some hfy
          obtain ⟨j, hj⟩ := List.mem_iff_getElem?.1 hym
          have hu1 := (hd_ok (HS.out.2 j y hj).1).2.2
          obtain ⟨yk, yb, yu⟩ := y
          simp only at hr hu1
          rw [Hfr.out] at hlt
          have hub : (yu != 0) = true := by simp; omega
          have hwr : IntKind.i64.wrap (k + 1) = k + 1 := IntWalk.i64_in _ (by omega)
          have hfd : ∀ W : World, (Instr.field 110 (.agg #[.int .i64 yk, .slice Ay yb.length cy, .int .i64 yu]) 2).run Tryz.prog W = .ok (.int .i64 yu) W := fun _ => by kernel_rfl
          clear hM hfy hym hj
          go_wp2_with (at_lookup; refine wp_mlook_some rfl _ _ rfl lawI underStore (zeroHd _) rfl hV _ _ rfl hkey hr ?_)
          go_roundw
          case rel => exact ⟨k + 1, by first | rfl | go_num, by omega, by omega, he⟩
          case measure => simp [RowKit.intOf]; omega
end Go.Sf
