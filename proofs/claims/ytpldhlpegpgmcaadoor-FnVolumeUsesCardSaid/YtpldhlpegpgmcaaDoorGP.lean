/- The program's blocks and stores. -/
import Derived.Test.YtpldhlpegpgmcaaDoorGO
import Derived.Test.YtpldhlpegpgmcaaDoorGF
import Derived.Test.YtpldhlpegpgmcaaDoorHE
/-! The program's blocks and stores. -/
namespace Go.Sf
open Go Go.RowKit Go.Proofs Go.Maps
set_option maxHeartbeats 1000000 in
theorem bytesValid_c {B : Nat} {v : Value} {bs : List Int} (w : World) (h : Ints B w v bs) : Calls Tryd.prog 28 #[v] w (Ret (.bool (bs.all byteOk)) w) := by
  obtain ⟨A, c, rfl, hA⟩ := h
  have hl := hA.2.2.1
  unfold lim at hl
  generalize hn : bs.length = n at *
  have Hn := Lib.hid hn; clear hn
  have HA := Lib.hid hA; clear hA
  go_enter Tryd.func28, Tryd.ntmps28
  go_wp2
  go_loopw [7] (fun i wr => ∃ k : Nat, k ≤ n ∧ i = .int .i64 k ∧ Ext w wr ∧ Hid ((bs.take k).all byteOk = true)) (fun i _ => n - (RowKit.intOf i).toNat)
  case atStart => exact ⟨0, by omega, rfl, Ext.refl _, Lib.hid rfl⟩
  case round =>
    obtain ⟨k, hk, rfl, he, hall⟩ := hrel
    by_cases hlt : k < n
    · obtain ⟨x, hx⟩ := get_of_lt (l := bs) (k := k) (by rw [Hn.out]; exact hlt)
      obtain ⟨b, o, rfl, -, -, -, hc⟩ := Ints.at_ HA.out hx
      have a0 := hc wr he
      have Hx := Lib.hid hx
      clear hc hx
      by_cases h0 : x < 0
      · have Hr : Hid (bs.all byteOk = false) := Lib.hid (all_bad Hx.out (by rw [byteOk, Bool.eq_false_iff]; intro h; rw [inB_iff] at h; omega))
        clear hall
        go_wp2
        go_ret
        exact ⟨ret_b Hr.out.symm, he⟩
      by_cases h1 : 255 < x
      · have Hr : Hid (bs.all byteOk = false) := Lib.hid (all_bad Hx.out (by rw [byteOk, Bool.eq_false_iff]; intro h; rw [inB_iff] at h; omega))
        clear hall
        go_wp2
        go_ret
        exact ⟨ret_b Hr.out.symm, he⟩
      have Hr := Lib.hid (all_take hall.out Hx.out (by rw [byteOk, inB_iff]; omega))
      clear hall
      go_wp2
      go_roundw
      case rel => exact ⟨k + 1, by omega, by go_num, he, Hr⟩
      case measure => simp [RowKit.intOf]; omega
    · have hks : k = n := by omega
      subst hks
      have Hr := Lib.hid (all_end hall.out Hn.out)
      clear hall
      go_wp2
      go_ret
      exact ⟨ret_b Hr.out.symm, he⟩
set_option maxHeartbeats 1000000 in
theorem implBlockValid_c {B : Nat} {v : Value} {bs : List Int} (w : World) (h : Ints B w v bs) : Calls Tryd.prog 16 #[v] w (Ret (.bool (blockOk bs)) w) := by
  have Cb := fun W (e : Ext w W) => bytesValid_c W (h.ext e)
  obtain ⟨A, c, rfl, -⟩ := h
  generalize hn : bs.length = n at *
  have Hn := Lib.hid hn; clear hn
  by_cases h1 : 1 ≤ n
  · have h1' : (1 : Int) ≤ n := by omega
    by_cases h8 : n ≤ 8
    · have h8' : (n : Int) ≤ 8 := by omega
      have Hr : Hid (bs.all byteOk = blockOk bs) := Lib.hid (by unfold blockOk; rw [Hn.out, inB_iff.2 ⟨h1', h8'⟩, Bool.and_true])
      go_enter Tryd.func16, Tryd.ntmps16
      go_wp2_with (go_at_call 28; refine (Cb _ (Ext.refl _)).mono ?_; rintro e w2 ⟨rfl, he2⟩)
      go_ret
      exact ⟨ret_b Hr.out, he2⟩
    · have h8' : ¬ (n : Int) ≤ 8 := by omega
      have Hr : Hid (blockOk bs = false) := Lib.hid (by rw [Bool.eq_false_iff]; intro hb; have := block_len hb; have := Hn.out; omega)
      clear Cb
      go_enter Tryd.func16, Tryd.ntmps16
      go_wp2
      go_ret
      exact ⟨ret_b Hr.out.symm, Ext.refl _⟩
  · have h1' : ¬ (1 : Int) ≤ n := by omega
    have Hr : Hid (blockOk bs = false) := Lib.hid (by rw [Bool.eq_false_iff]; intro hb; have := block_len hb; have := Hn.out; omega)
    clear Cb
    go_enter Tryd.func16, Tryd.ntmps16
    go_wp2
    go_ret
    exact ⟨ret_b Hr.out.symm, Ext.refl _⟩
/-- the id ahead of k -/
def lastId (l : List Hd) : Nat → Int
  | 0 => 0
  | k + 1 => ((l[k]?).map (·.id)).getD 0
set_option maxRecDepth 4000 in
set_option maxHeartbeats 4000000 in
theorem implStoreValid_c {B : Nat} {v : Value} {l : List Hd} (w : World) (h : Hds B w v l) : Calls Tryd.prog 8 #[v] w (Ret (.bool (storeOk l)) w) := by
  obtain ⟨A, c, rfl, hA⟩ := h
  have hl := hA.2.2.1
  have hlc := hA.1
  unfold lim at hl
  generalize hn : l.length = n at *
  have Hn := Lib.hid hn; clear hn
  have HA := Lib.hid hA; clear hA
  by_cases h16 : 16 < n
  · have h16' : (16 : Int) < n := by omega
    have Hr : Hid (storeOk l = false) := Lib.hid (storeOk_false.2 fun h => by have := h.1; have := Hn.out; omega)
    go_enter Tryd.func8, Tryd.ntmps8
    go_wp2
    go_ret
    exact ⟨ret_b Hr.out.symm, Ext.refl _⟩
  have h16' : ¬ (16 : Int) < n := by omega
  go_enter Tryd.func8, Tryd.ntmps8
  go_wp2
  go_loopw [3, 13] (fun q i wr => ∃ k : Nat, k ≤ n ∧ i = .int .i64 k ∧ q = .int .i64 (lastId l k) ∧ Ext w wr ∧ Hid (∀ j h, j < k → l[j]? = some h → HdAt l j h)) (fun _ i _ => n - (RowKit.intOf i).toNat)
  case atStart => exact ⟨0, by omega, rfl, rfl, Ext.refl _, Lib.hid fun j h hj => absurd hj (by omega)⟩
  case round =>
    obtain ⟨k, hk, rfl, rfl, he, hall⟩ := hrel
    by_cases hlt : k < n
    · obtain ⟨x, hx⟩ := get_of_lt (l := l) (k := k) (by rw [Hn.out]; exact hlt)
      obtain ⟨b, o, u1, rfl, -, -, hki, hu, hku, hc0, hc1, hc2⟩ := Hds.at_ HA.out hx
      obtain ⟨Ax, cx, rfl, hux⟩ := hu
      have Hx := Lib.hid hx
      have Hlast : Hid ((k = 0 ∧ lastId l k = 0) ∨ ∃ j y, k = j + 1 ∧ l[j]? = some y ∧ lastId l k = y.id ∧ 1 ≤ y.id) := Lib.hid (by
        cases k with
        | zero => exact .inl ⟨rfl, rfl⟩
        | succ j =>
          obtain ⟨y, hy⟩ := get_of_lt (l := l) (k := j) (by rw [Hn.out]; omega)
          exact .inr ⟨j, y, rfl, hy, by rw [lastId, hy]; rfl, (hd_ok (hall.out j y (by omega) hy).1).1.1⟩)
      have Hnext : Hid (lastId l (k + 1) = x.id) := Lib.hid (by rw [lastId, hx]; rfl)
      obtain ⟨xk, xb, xu⟩ := x
      simp only at hki hku hux hc0 hc1 hc2 Hnext
      have q0 := hc0 wr he; have q1 := hc1 wr he; have q2 := hc2 wr he
      have HI : Hid (∀ W, Ext wr W → Ints B W (.slice Ax xb.length cx) xb) := Lib.hid fun W e => Ints.ext (w := w) ⟨_, _, rfl, hux⟩ (he.trans e)
      have hbk := Blk.new wr 31 #[.int .i64 xk, .slice Ax xb.length cx, .int .i64 xu]
      have d0 := fun W (e : Ext _ W) => hbk.at_ (i := 0) (u := .int .i64 xk) rfl W e
      have d1 := fun W (e : Ext _ W) => hbk.at_ (i := 1) (u := .slice Ax xb.length cx) rfl W e
      have ea : Ext wr (wr.alloc (.cells #[.int .i64 xk, .slice Ax xb.length cx, .int .i64 xu] 31)) := (Ext.refl wr).alloc _
      have Cb := implBlockValid_c _ (HI.out _ ea)
      have Hbad : Hid (hdOk ⟨xk, xb, xu⟩ = false → storeOk l = false) := Lib.hid fun h => store_bad Hx.out (hd_bad h)
      have Hbad2 : Hid (xk ≤ lastId l k → storeOk l = false) := Lib.hid fun h => by
        rcases Hlast.out with ⟨h1, h2⟩ | ⟨j, y, h1, h2, h3, h4⟩
        · refine store_bad Hx.out (hd_bad ?_)
          rw [Bool.eq_false_iff]; intro hh
          have := (hd_ok hh).1.1
          simp only at this
          omega
        · refine store_bad Hx.out fun hh => ?_
          have := hh.2.1 j y h1 h2
          simp only at this
          omega
      generalize hL : lastId l k = L at *
      clear hc0 hc1 hc2 hx hux hbk
      by_cases g1 : xk ≤ L
      · have Hr := Lib.hid (Hbad2.out g1)
        clear hall Cb
        go_wp2
        go_ret
        exact ⟨ret_b Hr.out.symm, he.trans ea⟩
      by_cases g2 : 99 < xk
      · have Hr := Lib.hid (Hbad.out (by rw [Bool.eq_false_iff]; intro hh; have := (hd_ok hh).1.2; simp only at this; omega))
        clear hall Cb
        go_wp2
        go_ret
        exact ⟨ret_b Hr.out.symm, he.trans ea⟩
      by_cases g3 : xu < 1
      · have Hr := Lib.hid (Hbad.out (by rw [Bool.eq_false_iff]; intro hh; have := (hd_ok hh).2.2.1; simp only at this; omega))
        clear hall Cb
        go_wp2
        go_ret
        exact ⟨ret_b Hr.out.symm, he.trans ea⟩
      by_cases g4 : 999 < xu
      · have Hr := Lib.hid (Hbad.out (by rw [Bool.eq_false_iff]; intro hh; have := (hd_ok hh).2.2.2; simp only at this; omega))
        clear hall Cb
        go_wp2
        go_ret
        exact ⟨ret_b Hr.out.symm, he.trans ea⟩
      cases g5 : blockOk xb with
      | false =>
        have Hr := Lib.hid (Hbad.out (by simp [hdOk, g5]))
        rw [g5] at Cb
        clear hall g5
        go_wp2_with (go_at_call 16; refine Cb.mono ?_; rintro e w2 ⟨rfl, he2⟩)
        go_ret
        exact ⟨ret_b Hr.out.symm, he.trans (ea.trans he2)⟩
      | true =>
      have Hok : Hid (hdOk ⟨xk, xb, xu⟩ = true ∧ ∀ j y, k = j + 1 → l[j]? = some y → y.id < xk) := Lib.hid (by
        have h1 : 1 ≤ xk := by
          rcases Hlast.out with ⟨_, h2⟩ | ⟨j, y, _, _, h3, h4⟩
          · omega
          · omega
        refine ⟨by unfold hdOk; simp only; rw [inB_iff.2 ⟨h1, by omega⟩, g5, inB_iff.2 ⟨by omega, by omega⟩]; rfl, fun j y hj hy => ?_⟩
        rcases Hlast.out with ⟨h2, _⟩ | ⟨j', y', h2, h3, h4, _⟩
        · omega
        · obtain rfl : j' = j := by omega
          rw [h3] at hy
          cases hy; omega)
      rw [g5] at Cb
      have hkc : k ≤ c := by omega
      have hkc' : (k : Int) ≤ (c : Int) := by omega
      clear g5
      go_wp2_with (go_at_call 16; refine Cb.mono ?_; rintro e w2 ⟨rfl, he2⟩)
      have e3 := ea.trans he2
      have D0 := fun W (e : Ext w2 W) => d0 W (he2.trans e)
      have D1 := fun W (e : Ext w2 W) => d1 W (he2.trans e)
      clear q0 q1 q2 d0 d1 Cb
      go_loopw [47] (fun i wr' => ∃ m : Nat, m ≤ k ∧ i = .int .i64 m ∧ Ext w2 wr' ∧ Hid (∀ i z, i < m → l[i]? = some z → z.bytes ≠ xb)) (fun i _ => k - (RowKit.intOf i).toNat)
      case atStart => exact ⟨0, by omega, rfl, Ext.refl _, Lib.hid fun i z h => absurd h (by omega)⟩
      case round =>
        obtain ⟨m, hm, rfl, he5, hdif⟩ := hrel
        by_cases hml : m < k
        · obtain ⟨z, hz⟩ := get_of_lt (l := l) (k := m) (by rw [Hn.out]; omega)
          obtain ⟨b', o', u', e', -, -, -, hzi, -, hz0, hz1, hz2⟩ := Hds.at_ HA.out hz
          simp only [Option.some.injEq, Addr.mk.injEq, and_true] at e'
          obtain ⟨rfl, rfl⟩ := e'
          obtain ⟨Az, cz, rfl, hzI⟩ := hzi
          have Hz := Lib.hid hz
          obtain ⟨zk, zb, zu⟩ := z
          simp only at hz0 hz1 hz2 hzI
          have e6 := he.trans (e3.trans he5)
          have z0 := hz0 wr e6; have z1 := hz1 wr e6; have z2 := hz2 wr e6
          have e7 : Ext wr (wr.alloc (.cells #[.int .i64 zk, .slice Az zb.length cz, .int .i64 zu] 31)) := (Ext.refl wr).alloc _
          have r1 := D1 _ (he5.trans e7)
          have Cs := slices_Equal_int_c _ (Ints.ext (w := w) ⟨_, _, rfl, hzI⟩ (e6.trans e7)) (HI.out _ (e3.trans (he5.trans e7)))
          clear hz0 hz1 hz2 hz hzI
          cases hs : eqb zb xb with
          | true =>
            have Hr := Lib.hid (store_bad Hx.out (fun hh => hh.2.2 m ⟨zk, zb, zu⟩ hml Hz.out (eqb_true.1 hs)))
            rw [hs] at Cs
            clear hs hdif hall
            go_wp2_with (go_at_call 17; refine Cs.mono ?_; rintro e w8 ⟨rfl, he8⟩)
            go_ret
            exact ⟨ret_b Hr.out.symm, e6.trans (e7.trans he8)⟩
          | false =>
            have Hr : Hid (∀ i z, i < m + 1 → l[i]? = some z → z.bytes ≠ xb) := Lib.hid fun i z hi hz => by
              rcases Nat.lt_or_ge i m with h | h
              · exact hdif.out i z h hz
              · obtain rfl : i = m := by omega
                rw [Hz.out] at hz
                cases hz; exact eqb_false.1 hs
            rw [hs] at Cs
            clear hs hdif
            go_wp2_with (go_at_call 17; refine Cs.mono ?_; rintro e w8 ⟨rfl, he8⟩)
            go_roundw
            case rel => exact ⟨m + 1, by omega, by go_num, he5.trans (e7.trans he8), Hr⟩
            case measure => simp [RowKit.intOf]; omega
        · have hmk : m = k := by omega
          subst hmk
          have Hn' : Hid (∀ i h, i < m + 1 → l[i]? = some h → HdAt l i h) := Lib.hid fun i h hi hh => by
            rcases Nat.lt_or_ge i m with h' | h'
            · exact hall.out i h h' hh
            · obtain rfl : i = m := by omega
              rw [Hx.out] at hh
              cases hh
              exact ⟨Hok.out.1, Hok.out.2, hdif.out⟩
          have r0 := D0 wr he5
          clear hdif
          go_wp2
          go_roundw
          case rel => exact ⟨m + 1, by omega, by go_num, by rw [Hnext.out], he.trans (e3.trans he5), Hn'⟩
          case measure => simp [RowKit.intOf]; omega
    · have hks : k = n := by omega
      subst hks
      have Hr : Hid (storeOk l = true) := Lib.hid (storeOk_iff.2 ⟨by have := Hn.out; omega, fun j y hy => hall.out j y (by have := lt_of_get hy; have := Hn.out; omega) hy⟩)
      clear hall
      go_wp2
      go_ret
      exact ⟨ret_b Hr.out.symm, he⟩
end Go.Sf

/-! The program opens a store: a map of blocks by their ids. -/
namespace Go.Sf
open Go Go.RowKit Go.Proofs Go.Maps
def kI (i : Int) : Lit := .int .i64 i
theorem kI_ne {i j : Int} (h : i ≠ j) : kI i ≠ kI j := fun e => h (by unfold kI at e; injection e)
theorem lawI : Keyed Tryd.prog 3 := int_keyed Tryd.underlying3
theorem keyI {i : Int} (h : inI i) : keyOf Tryd.prog 3 (.int .i64 i) = some (kI i) := keyOf_int_mk Tryd.underlying3 (by unfold inI at h; simp [Lit.wf, IntKind.min, IntKind.max, IntKind.signed, IntKind.bits]; omega)
theorem zeroHd (w : World) : (zeroValue 31).run Tryd.prog w = .ok (.agg #[.int .i64 0, .slice none 0 0, .int .i64 0]) w := by kernel_rfl
theorem underStore : Tryd.prog.underlying 40 = some (.map 3 31) := Tryd.underlying40
/-- what stands at the ids of a store -/
def MapHd (B : Nat) (w : World) (l : List Hd) (M : Lit → Option Value) : Prop :=
  ∀ i, (findH l i = none → M (kI i) = none) ∧ ∀ h, findH l i = some h → ∃ u, M (kI i) = some (.agg #[.int .i64 h.id, u, .int .i64 h.uses]) ∧ Ints B w u h.bytes
/-- block b is a map that holds the blocks l by their ids -/
def StoreAt (B b n : Nat) (l : List Hd) (w : World) : Prop := ∃ M, MapV Tryd.prog 3 b n M w ∧ MapHd B w l M
theorem MapHd.ext {B : Nat} {w w' : World} {l : List Hd} {M : Lit → Option Value} (h : MapHd B w l M) (e : Ext w w') : MapHd B w' l M := fun i =>
  ⟨(h i).1, fun y hy => let ⟨u, h1, h2⟩ := (h i).2 y hy; ⟨u, h1, h2.ext e⟩⟩
theorem MapHd.keepT {B : Nat} {t : TypeId} {w w' : World} {l : List Hd} {M : Lit → Option Value} (h : MapHd B w l M) (e : KeepsT t w w') (ht : 3 ≠ t) : MapHd B w' l M := fun i =>
  ⟨(h i).1, fun y hy => let ⟨u, h1, h2⟩ := (h i).2 y hy; ⟨u, h1, h2.keepT e ht⟩⟩
theorem StoreAt.ext {B b n : Nat} {w w' : World} {l : List Hd} (h : StoreAt B b n l w) (e : Ext w w') : StoreAt B b n l w' := let ⟨M, h1, h2⟩ := h; ⟨M, h1.ext e, h2.ext e⟩
theorem StoreAt.mono {B b n n' : Nat} {w : World} {l : List Hd} (h : StoreAt B b n l w) (e : n ≤ n') : StoreAt B b n' l w := let ⟨M, h1, h2⟩ := h; ⟨M, h1.mono e, h2⟩
theorem StoreAt.made (B : Nat) (w : World) : StoreAt B w.heap.size 0 [] (w.alloc (.map #[] 0)) := ⟨_, MapV.made w, fun i => ⟨(fun _ => rfl), (fun y hy => by cases hy)⟩⟩
/-- a map is written: all cells stay -/
theorem map_keepsT {P : Program} {k : TypeId} {b n : Nat} {M : Lit → Option Value} {w w' : World} (h : MapV P k b n M w) (hg : w.grownBy w' (some b)) (t : TypeId) : KeepsT t w w' := by
  intro b' t' cs _ hb
  refine (hg.block b' hb.lt fun e => ?_).trans hb
  cases e
  obtain ⟨D, ⟨es, cl, h1, -⟩, -⟩ := h
  unfold Blk at hb
  rw [h1] at hb
  cases hb
theorem put_hd {B b n : Nat} {w w' : World} {l : List Hd} {M : Lit → Option Value} {k : Nat} {x : Hd} {u : Value} (hl : StoreOk l) (hx : l[k]? = some x) (hV : MapV Tryd.prog 3 b n M w) (h2 : MapHd B w (l.take k) M) (hu : Ints B w u x.bytes)
    (hg : w.grownBy w' (some b)) (h : MapV Tryd.prog 3 b (n + 1) (updM M (kI x.id) (some (.agg #[.int .i64 x.id, u, .int .i64 x.uses]))) w') : StoreAt B b (n + 1) (l.take (k + 1)) w' := by
  have hk := map_keepsT hV hg 9
  refine ⟨_, h, fun i => ?_⟩
  rw [findH_take hl hx]
  by_cases e : i = x.id
  · subst e
    rw [if_pos rfl, updM_same]
    exact ⟨(fun h => by cases h), (fun y hy => by cases hy; exact ⟨u, rfl, hu.keepT hk (by decide)⟩)⟩
  · rw [if_neg e, updM_other (kI_ne e)]
    exact (h2.keepT hk (by decide)) i
/-- what opening a store leaves -/
def OpenSP (w0 : World) (l : List Hd) (e : Ending) (w' : World) : Prop :=
  Ext w0 w' ∧ ((storeOk l = false ∧ e = .returned (.tuple #[.map none, .bool false])) ∨ (storeOk l = true ∧ ∃ b, e = .returned (.tuple #[.map (some b), .bool true]) ∧ StoreAt w0.heap.size b 16 l w' ∧ w0.heap.size ≤ b))
set_option maxRecDepth 4000 in
set_option maxHeartbeats 2000000 in
theorem openStore_c {B : Nat} {v : Value} {l : List Hd} (w : World) (h : Hds B w v l) : Calls Tryd.prog 35 #[v] w (OpenSP w l) := by
  have Cv := implStoreValid_c w h
  obtain ⟨A, c, rfl, hA⟩ := h
  cases hs : storeOk l with
  | false =>
    rw [hs] at Cv
    have Hs := Lib.hid hs
    clear hs hA
    go_enter Tryd.func35, Tryd.ntmps35
    go_wp2_with (go_at_call 8; refine Cv.mono ?_; rintro e w2 ⟨rfl, he2⟩)
    go_ret2
    exact ⟨he2, .inl ⟨Hs.out, rfl⟩⟩
  | true =>
  rw [hs] at Cv
  have Hok := Lib.hid (storeOk_iff.1 hs)
  have hl16 : l.length ≤ 16 := Hok.out.1
  have Hs := Lib.hid hs
  generalize hn : l.length = n at *
  have Hn := Lib.hid hn; clear hn
  have HA := Lib.hid hA; clear hA hs
  have hmk := @run_makeMap Tryd.prog
  go_enter Tryd.func35, Tryd.ntmps35
  go_wp2_with fail
  refine Cv.mono ?_
  rintro e w1 ⟨rfl, he1⟩
  have HMp := Lib.hid (StoreAt.made w.heap.size w1)
  have hb : w.heap.size ≤ w1.heap.size := he1.size
  have HE2 := Lib.hid (Ext.alloc he1 (.map #[] 0))
  clear Cv he1
  go_wp2
  clear hmk
  have hex : ∃ mb, mb = w1.heap.size := ⟨_, rfl⟩
  obtain ⟨mb, hmb⟩ := hex
  rw [← hmb] at hb HMp ⊢
  clear hmb
  go_loopw [13] (fun i wr => ∃ k : Nat, k ≤ n ∧ i = .int .i64 k ∧ Ext w wr ∧ Hid (StoreAt w.heap.size mb k (l.take k) wr)) (fun i _ => n - (RowKit.intOf i).toNat)
  case atStart => exact ⟨0, by omega, rfl, HE2.out, HMp⟩
  case round =>
    obtain ⟨k, hk, rfl, he, hMI⟩ := hrel
    by_cases hlt : k < n
    · obtain ⟨x, hx⟩ := get_of_lt (l := l) (k := k) (by rw [Hn.out]; exact hlt)
      obtain ⟨b, o, u, rfl, -, -, hki, hu, hku, hc0, hc1, hc2⟩ := Hds.at_ HA.out hx
      obtain ⟨Ax, cx, rfl, hux⟩ := hu
      obtain ⟨M, hV, h2⟩ := hMI.out
      have HV : Hid (∀ W, Ext wr W → MapV Tryd.prog 3 mb k M W) := Lib.hid fun W e => hV.ext e
      have H2 : Hid (∀ W, Ext wr W → MapHd w.heap.size W (l.take k) M) := Lib.hid fun W e => h2.ext e
      have Hx := Lib.hid hx
      have hkm : k < maxLen := by unfold maxLen; omega
      have hkey := keyI hki
      obtain ⟨xk, xb, xu⟩ := x
      simp only at hki hku hux hc0 hc1 hc2 hkey
      have q0 := hc0 wr he; have q1 := hc1 wr he; have q2 := hc2 wr he
      have HI : Hid (∀ W, Ext wr W → Ints B W (.slice Ax xb.length cx) xb) := Lib.hid fun W e => Ints.ext (w := w) ⟨_, _, rfl, hux⟩ (he.trans e)
      have hbk := Blk.new wr 31 #[.int .i64 xk, .slice Ax xb.length cx, .int .i64 xu]
      have d0 := fun W (e : Ext _ W) => hbk.at_ (i := 0) (u := .int .i64 xk) rfl W e
      have d1 := fun W (e : Ext _ W) => hbk.at_ (i := 1) (u := .slice Ax xb.length cx) rfl W e
      have d2 := fun W (e : Ext _ W) => hbk.at_ (i := 2) (u := .int .i64 xu) rfl W e
      have ea : Ext wr (wr.alloc (.cells #[.int .i64 xk, .slice Ax xb.length cx, .int .i64 xu] 31)) := (Ext.refl wr).alloc _
      clear hc0 hc1 hc2 hV h2 hx hMI hbk hux
      go_wp2
      refine wp_region_hold (fun W => W.cell? ⟨wr.heap.size, 0, none⟩ = some (.int .i64 xk) ∧ W.cell? ⟨wr.heap.size, 1, none⟩ = some (.slice Ax xb.length cx) ∧ W.cell? ⟨wr.heap.size, 2, none⟩ = some (.int .i64 xu)) 11 [(0, true), (1, true), (2, true), (3, true), (4, true), (5, true), (6, true), (8, true), (9, true), (7, false), (10, true)] (by kernel_rfl) (by kernel_rfl) ?_ ?_
      · exact ⟨d0 _ (Ext.refl _).drew, d1 _ (Ext.refl _).drew, d2 _ (Ext.refl _).drew⟩
      (repeat (first | (apply hw_read (by rfl) (by rfl); (· (intro W hW; (try dsimp only at hW); go_simp; (first | done | rfl | (rw [if_pos] <;> first | omega | rfl)))); (try simp only [Act.put, List.setIfInBounds_toArray, List.set_cons_zero, List.set_cons_succ])) | (refine hw_skip (by rfl) (by rfl) ?_; (try simp only [Act.put, List.setIfInBounds_toArray, List.set_cons_zero, List.set_cons_succ]))))
      refine hw_step (by rfl) ?_
      go_wp2_with (go_at_call 49; refine (Clone_int_c (xs := xb) _ (HI.out _ (ea.drew))).mono ?_; rintro e w4 ⟨u9, rfl, ⟨A9, c9, rfl, hu9⟩, he9⟩)
      have he5 := ea.drew.trans he9
      have he4 := (Ext.refl (wr.alloc (.cells #[.int .i64 xk, .slice Ax xb.length cx, .int .i64 xu] 31))).drew.trans he9
      have Hu9 : Hid (Ints w.heap.size w4 (.slice A9 xb.length c9) xb) := Lib.hid (Ints.keep ⟨_, _, rfl, hu9⟩ (he.trans ea.drew).size (fun _ _ _ => rfl))
      clear he9 hu9
      refine ⟨⟨d0 _ he4, d1 _ he4, d2 _ he4⟩, ?_⟩
      (repeat (first | (apply hw_read (by rfl) (by rfl); (· (intro W hW; (try dsimp only at hW); go_simp; (first | done | rfl | (rw [if_pos] <;> first | omega | rfl)))); (try simp only [Act.put, List.setIfInBounds_toArray, List.set_cons_zero, List.set_cons_succ])) | (refine hw_skip (by rfl) (by rfl) ?_; (try simp only [Act.put, List.setIfInBounds_toArray, List.set_cons_zero, List.set_cons_succ]))))
      (refine hw_nil ?_; (try simp only [List.drop_succ_cons, List.drop_zero]))
      go_wp2_with (at_mapUpdate; refine wp_mput (w0 := w) rfl _ _ _ rfl lawI underStore (he.trans he5) hb rfl (HV.out _ he5) hkm _ _ _ rfl rfl hkey ?_; intro w6 hM6 he6 hg6)
      have HF := Lib.hid (put_hd (x := ⟨xk, xb, xu⟩) Hok.out Hx.out (HV.out _ he5) (H2.out _ he5) Hu9.out hg6 hM6)
      clear hM6 hg6
      refine NoPanic.normal ?_
      (try dsimp only [Exit.then])
      (try go_wp2)
      go_roundw
      case rel => exact ⟨k + 1, by omega, by go_num, he6, HF⟩
      case measure => simp [RowKit.intOf]; omega
    · have hks : k = n := by omega
      subst hks
      have HF : Hid (StoreAt w.heap.size mb 16 l wr) := Lib.hid (by
        have := hMI.out
        rw [List.take_of_length_le (by rw [Hn.out]; exact Nat.le_refl _)] at this
        exact this.mono hl16)
      clear hMI
      go_wp2
      go_ret2
      exact ⟨he, .inr ⟨Hs.out, mb, rfl, HF.out, hb⟩⟩
set_option maxRecDepth 4000 in
set_option maxHeartbeats 2000000 in
theorem fileIds_c {B B' b n : Nat} {v : Value} {l : List Hd} {ids : List Int} (w : World) (hs : StoreOk l) (h : StoreAt B b n l w) (hi : Ints B' w v ids) : Calls Tryd.prog 38 #[.map (some b), v] w (Ret (.bool (idsFit l ids)) w) := by
  obtain ⟨A2, c2, rfl, hA2⟩ := hi
  have hl2 := hA2.2.2.1
  unfold lim at hl2
  obtain ⟨M, hV, hM⟩ := h
  have HV : Hid (∀ W, Ext w W → MapV Tryd.prog 3 b n M W) := Lib.hid fun W e => hV.ext e
  have HMd := Lib.hid hM
  have HS := Lib.hid hs
  generalize hn : ids.length = m at *
  have Hn := Lib.hid hn; clear hn
  have HA2 := Lib.hid hA2; clear hA2 hV hM hs
  by_cases h4 : 4 < m
  · have h4' : (4 : Int) < m := by omega
    have Hr : Hid (idsFit l ids = false) := Lib.hid (idsFit_false.2 fun h => by have := h.1; have := Hn.out; omega)
    go_enter Tryd.func38, Tryd.ntmps38
    go_wp2
    go_ret
    exact ⟨ret_b Hr.out.symm, Ext.refl _⟩
  have h4' : ¬ (4 : Int) < m := by omega
  go_enter Tryd.func38, Tryd.ntmps38
  go_wp2
  go_loopw [14] (fun i wr => ∃ k : Nat, k ≤ m ∧ i = .int .i64 k ∧ Ext w wr ∧ Hid (∀ j i, j < k → ids[j]? = some i → ∃ h, findH l i = some h ∧ (j + 1 < m → 8 ≤ h.bytes.length))) (fun i _ => m - (RowKit.intOf i).toNat)
  case atStart => exact ⟨0, by omega, rfl, Ext.refl _, Lib.hid fun j i hj => absurd hj (by omega)⟩
  case round =>
    obtain ⟨k, hk, rfl, he, hall⟩ := hrel
    by_cases hlt : k < m
    · obtain ⟨x, hx⟩ := get_of_lt (l := ids) (k := k) (by rw [Hn.out]; exact hlt)
      obtain ⟨b2, o, rfl, -, -, hxi, hc⟩ := Ints.at_ HA2.out hx
      have a0 := hc wr he
      have Hx := Lib.hid hx
      have hkey := keyI hxi
      have hVr := HV.out wr he
      clear hc hx
      cases hf : findH l x with
      | none =>
        have hr := (HMd.out x).1 hf
        have Hr := Lib.hid (fit_bad (l := l) Hx.out fun h hh => by rw [hf] at hh; cases hh)
        clear hf hall
        go_wp2_with (at_lookup; refine wp_mlook_ok_none rfl _ _ rfl lawI underStore (zeroHd _) rfl hVr _ _ rfl hkey hr ?_)
        go_ret
        exact ⟨ret_b Hr.out.symm, he.trans (by (repeat' (first | exact Ext.refl _ | assumption | refine Ext.alloc ?_ _ | refine Ext.drew ?_ | refine Ext.drewN ?_ _)))⟩
      | some y =>
        obtain ⟨u, hr, hu⟩ := (HMd.out x).2 y hf
        obtain ⟨Ay, cy, rfl, -⟩ := hu
        have Hf := Lib.hid hf
        have hb8 : 1 ≤ y.bytes.length ∧ y.bytes.length ≤ 8 := by
          obtain ⟨h1, h2⟩ := findH_some hf
          obtain ⟨j, hj⟩ := List.mem_iff_getElem?.1 h1
          exact block_len (hd_ok (HS.out.2 j y hj).1).2.1
        obtain ⟨yk, yb, yu⟩ := y
        simp only at hr hb8
        clear hf
        have hw1 : IntKind.i64.wrap ((m : Int) - 1) = (m : Int) - 1 := IntWalk.i64_in _ (by omega)
        by_cases hk1 : k + 1 < m
        · have hk1' : (k : Int) < (m : Int) - 1 := by omega
          by_cases h8 : yb.length = 8
          · have hb1 : (((yb.length : Nat) : Int) != 8) = false := by simp [h8]
            have Hr : Hid (∀ j i, j < k + 1 → ids[j]? = some i → ∃ h, findH l i = some h ∧ (j + 1 < m → 8 ≤ h.bytes.length)) := Lib.hid fun j i hj hi => by
              rcases Nat.lt_or_ge j k with h | h
              · exact hall.out j i h hi
              · obtain rfl : j = k := by omega
                rw [Hx.out] at hi
                cases hi
                exact ⟨_, Hf.out, fun _ => by simp only; omega⟩
            clear hall
            go_wp2_with (at_lookup; refine wp_mlook_ok_some rfl _ _ rfl lawI underStore (zeroHd _) rfl hVr _ _ rfl hkey hr ?_)
            go_roundw
            case rel => exact ⟨k + 1, by omega, by go_num, he.alloc _, Hr⟩
            case measure => simp [RowKit.intOf]; omega
          · have hb1 : (((yb.length : Nat) : Int) != 8) = true := by simp; omega
            have Hr := Lib.hid (fit_bad (l := l) Hx.out fun h hh => by
              rw [Hf.out] at hh
              cases hh
              exact ⟨by rw [Hn.out]; exact hk1, by simp only; omega⟩)
            clear hall
            go_wp2_with (at_lookup; refine wp_mlook_ok_some rfl _ _ rfl lawI underStore (zeroHd _) rfl hVr _ _ rfl hkey hr ?_)
            go_ret
            exact ⟨ret_b Hr.out.symm, he.trans (by (repeat' (first | exact Ext.refl _ | assumption | refine Ext.alloc ?_ _ | refine Ext.drew ?_ | refine Ext.drewN ?_ _)))⟩
        · have hk1' : ¬ (k : Int) < (m : Int) - 1 := by omega
          have Hr : Hid (∀ j i, j < k + 1 → ids[j]? = some i → ∃ h, findH l i = some h ∧ (j + 1 < m → 8 ≤ h.bytes.length)) := Lib.hid fun j i hj hi => by
            rcases Nat.lt_or_ge j k with h | h
            · exact hall.out j i h hi
            · obtain rfl : j = k := by omega
              rw [Hx.out] at hi
              cases hi
              exact ⟨_, Hf.out, fun h => absurd h hk1⟩
          clear hall
          go_wp2_with (at_lookup; refine wp_mlook_ok_some rfl _ _ rfl lawI underStore (zeroHd _) rfl hVr _ _ rfl hkey hr ?_)
          go_roundw
          case rel => exact ⟨k + 1, by omega, by go_num, he.alloc _, Hr⟩
          case measure => simp [RowKit.intOf]; omega
    · have hks : k = m := by omega
      subst hks
      have Hr : Hid (idsFit l ids = true) := Lib.hid (idsFit_iff.2 ⟨by have := Hn.out; omega, fun j i hi => by
        obtain ⟨y, h1, h2⟩ := hall.out j i (by have := lt_of_get hi; have := Hn.out; omega) hi
        exact ⟨y, h1, fun hj => h2 (by have := Hn.out; omega)⟩⟩)
      clear hall
      go_wp2
      go_ret
      exact ⟨ret_b Hr.out.symm, he⟩
end Go.Sf
