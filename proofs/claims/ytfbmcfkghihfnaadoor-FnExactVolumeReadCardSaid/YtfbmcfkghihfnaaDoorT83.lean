/- The program's blocks and stores. -/
import Derived.Test.YtfbmcfkghihfnaaDoorT82
import Derived.Test.YtfbmcfkghihfnaaDoorGF
import Derived.Test.YtfbmcfkghihfnaaDoorM0
namespace Go.Sf
open Go Go.RowKit Go.Proofs Go.Maps
set_option maxHeartbeats 1000000 in
theorem bytesValid_c {B : Nat} {v : Value} {bs : List Int} (w : World) (h : Ints B w v bs) : Calls Tryd.prog 100 #[v] w (Ret (.bool (bs.all byteOk)) w) := by
  obtain ⟨A, c, rfl, hA⟩ := h
  have hl := hA.2.2.1
  unfold lim at hl
  generalize hn : bs.length = n at *
  have Hn := Lib.hid hn; clear hn
  have HA := Lib.hid hA; clear hA
  go_enter Tryd.func100, Tryd.ntmps100
  go_wp2
  go_loopw [7] (fun i wr => ∃ k : Nat, k ≤ n ∧ i = .int .i64 k ∧ Ext w wr ∧ Hid ((bs.take k).all byteOk = true)) (fun i _ => n - (intOf i).toNat)
  case atStart => exact ⟨0, by omega, rfl, Ext.refl _, Lib.hid rfl⟩
  case round =>
    obtain ⟨k, hk, rfl, he, hall⟩ := hrel
    by_cases hlt : k < n
    · obtain ⟨x, hx⟩ := get_of_lt (l := bs) (k := k) (by rw [Hn.out]; exact hlt)
      obtain ⟨b, o, rfl, -, -, -, hc⟩ := Ints.at_ HA.out hx
      have a0 := hc wr he
      have Hx := Lib.hid hx
      clear hc hx
      by_cases h0 : x < 0
      · have Hr : Hid (bs.all byteOk = false) := Lib.hid (all_bad Hx.out (by rw [byteOk, Bool.eq_false_iff]; intro h; rw [inB_iff] at h; omega))
        clear hall
        go_wp2
        go_ret
        exact ⟨ret_b Hr.out.symm, he⟩
      by_cases h1 : 255 < x
      · have Hr : Hid (bs.all byteOk = false) := Lib.hid (all_bad Hx.out (by rw [byteOk, Bool.eq_false_iff]; intro h; rw [inB_iff] at h; omega))
        clear hall
        go_wp2
        go_ret
        exact ⟨ret_b Hr.out.symm, he⟩
      have Hr := Lib.hid (all_take hall.out Hx.out (by rw [byteOk, inB_iff]; omega))
      clear hall
      go_wp2
      go_roundw
      case rel => exact ⟨k + 1, by omega, by go_num, he, Hr⟩
      case measure => simp [intOf]; omega
    · have hks : k = n := by omega
      subst hks
      have Hr := Lib.hid (all_end hall.out Hn.out)
      clear hall
      go_wp2
      go_ret
      exact ⟨ret_b Hr.out.symm, he⟩
set_option maxHeartbeats 1000000 in
theorem implBlockValid_c {B : Nat} {v : Value} {bs : List Int} (w : World) (h : Ints B w v bs) : Calls Tryd.prog 91 #[v] w (Ret (.bool (blockOk bs)) w) := by
  have Cb := fun W (e : Ext w W) => bytesValid_c W (h.ext e)
  obtain ⟨A, c, rfl, -⟩ := h
  generalize hn : bs.length = n at *
  have Hn := Lib.hid hn; clear hn
  by_cases h1 : 1 ≤ n
  · have h1' : (1 : Int) ≤ n := by omega
    by_cases h8 : n ≤ 8
    · have h8' : (n : Int) ≤ 8 := by omega
      have Hr : Hid (bs.all byteOk = blockOk bs) := Lib.hid (by unfold blockOk; rw [Hn.out, inB_iff.2 ⟨h1', h8'⟩, Bool.and_true])
      go_enter Tryd.func91, Tryd.ntmps91
      go_wp2_with (go_at_call 100; refine (Cb _ (Ext.refl _)).mono ?_; rintro e w2 ⟨rfl, he2⟩)
      go_ret
      exact ⟨ret_b Hr.out, he2⟩
    · have h8' : ¬ (n : Int) ≤ 8 := by omega
      have Hr : Hid (blockOk bs = false) := Lib.hid (by rw [Bool.eq_false_iff]; intro hb; have := block_len hb; have := Hn.out; omega)
      clear Cb
      go_enter Tryd.func91, Tryd.ntmps91
      go_wp2
      go_ret
      exact ⟨ret_b Hr.out.symm, Ext.refl _⟩
  · have h1' : ¬ (1 : Int) ≤ n := by omega
    have Hr : Hid (blockOk bs = false) := Lib.hid (by rw [Bool.eq_false_iff]; intro hb; have := block_len hb; have := Hn.out; omega)
    clear Cb
    go_enter Tryd.func91, Tryd.ntmps91
    go_wp2
    go_ret
    exact ⟨ret_b Hr.out.symm, Ext.refl _⟩
/-- the id ahead of k -/
def lastId (l : List Hd) : Nat → Int
  | 0 => 0
  | k + 1 => ((l[k]?).map (·.id)).getD 0
set_option maxRecDepth 4000 in
set_option maxHeartbeats 4000000 in
theorem implStoreValid_c {B : Nat} {v : Value} {l : List Hd} (w : World) (h : Hds B w v l) : Calls Tryd.prog 84 #[v] w (Ret (.bool (storeOk l)) w) := by
  obtain ⟨A, c, rfl, hA⟩ := h
  have hl := hA.2.2.1
  have hlc := hA.1
  unfold lim at hl
  generalize hn : l.length = n at *
  have Hn := Lib.hid hn; clear hn
  have HA := Lib.hid hA; clear hA
  by_cases h16 : 16 < n
  · have h16' : (16 : Int) < n := by omega
    have Hr : Hid (storeOk l = false) := Lib.hid (storeOk_false.2 fun h => by have := h.1; have := Hn.out; omega)
    go_enter Tryd.func84, Tryd.ntmps84
    go_wp2
    go_ret
    exact ⟨ret_b Hr.out.symm, Ext.refl _⟩
  have h16' : ¬ (16 : Int) < n := by omega
  go_enter Tryd.func84, Tryd.ntmps84
  go_wp2
  go_loopw [3, 13] (fun q i wr => ∃ k : Nat, k ≤ n ∧ i = .int .i64 k ∧ q = .int .i64 (lastId l k) ∧ Ext w wr ∧ Hid (∀ j h, j < k → l[j]? = some h → HdAt l j h)) (fun _ i _ => n - (intOf i).toNat)
  case atStart => exact ⟨0, by omega, rfl, rfl, Ext.refl _, Lib.hid fun j h hj => absurd hj (by omega)⟩
  case round =>
    obtain ⟨k, hk, rfl, rfl, he, hall⟩ := hrel
    by_cases hlt : k < n
    · obtain ⟨x, hx⟩ := get_of_lt (l := l) (k := k) (by rw [Hn.out]; exact hlt)
      obtain ⟨b, o, u1, rfl, -, -, hki, hu, hku, hc0, hc1, hc2⟩ := Hds.at_ HA.out hx
      obtain ⟨Ax, cx, rfl, hux⟩ := hu
      have Hx := Lib.hid hx
      have Hlast : Hid ((k = 0 ∧ lastId l k = 0) ∨ ∃ j y, k = j + 1 ∧ l[j]? = some y ∧ lastId l k = y.id ∧ 1 ≤ y.id) := Lib.hid (by
        cases k with
        | zero => exact .inl ⟨rfl, rfl⟩
        | succ j =>
          obtain ⟨y, hy⟩ := get_of_lt (l := l) (k := j) (by rw [Hn.out]; omega)
          exact .inr ⟨j, y, rfl, hy, by rw [lastId, hy]; rfl, (hd_ok (hall.out j y (by omega) hy).1).1.1⟩)
      have Hnext : Hid (lastId l (k + 1) = x.id) := Lib.hid (by rw [lastId, hx]; rfl)
      obtain ⟨xk, xb, xu⟩ := x
      simp only at hki hku hux hc0 hc1 hc2 Hnext
      have q0 := hc0 wr he; have q1 := hc1 wr he; have q2 := hc2 wr he
      have HI : Hid (∀ W, Ext wr W → Ints B W (.slice Ax xb.length cx) xb) := Lib.hid fun W e => Ints.ext (w := w) ⟨_, _, rfl, hux⟩ (he.trans e)
      have hbk := Blk.new wr 60 #[.int .i64 xk, .slice Ax xb.length cx, .int .i64 xu]
      have d0 := fun W (e : Ext _ W) => hbk.at_ (i := 0) (u := .int .i64 xk) rfl W e
      have d1 := fun W (e : Ext _ W) => hbk.at_ (i := 1) (u := .slice Ax xb.length cx) rfl W e
      have ea : Ext wr (wr.alloc (.cells #[.int .i64 xk, .slice Ax xb.length cx, .int .i64 xu] 60)) := (Ext.refl wr).alloc _
      have Cb := implBlockValid_c _ (HI.out _ ea)
      have Hbad : Hid (hdOk ⟨xk, xb, xu⟩ = false → storeOk l = false) := Lib.hid fun h => store_bad Hx.out (hd_bad h)
      have Hbad2 : Hid (xk ≤ lastId l k → storeOk l = false) := Lib.hid fun h => by
        rcases Hlast.out with ⟨h1, h2⟩ | ⟨j, y, h1, h2, h3, h4⟩
        · refine store_bad Hx.out (hd_bad ?_)
          rw [Bool.eq_false_iff]; intro hh
          have := (hd_ok hh).1.1
          simp only at this
          omega
        · refine store_bad Hx.out fun hh => ?_
          have := hh.2.1 j y h1 h2
          simp only at this
          omega
      generalize hL : lastId l k = L at *
      clear hc0 hc1 hc2 hx hux hbk
      by_cases g1 : xk ≤ L
      · have Hr := Lib.hid (Hbad2.out g1)
        clear hall Cb
        go_wp2
        go_ret
        exact ⟨ret_b Hr.out.symm, he.trans ea⟩
      by_cases g2 : 99 < xk
      · have Hr := Lib.hid (Hbad.out (by rw [Bool.eq_false_iff]; intro hh; have := (hd_ok hh).1.2; simp only at this; omega))
        clear hall Cb
        go_wp2
        go_ret
        exact ⟨ret_b Hr.out.symm, he.trans ea⟩
      by_cases g3 : xu < 1
      · have Hr := Lib.hid (Hbad.out (by rw [Bool.eq_false_iff]; intro hh; have := (hd_ok hh).2.2.1; simp only at this; omega))
        clear hall Cb
        go_wp2
        go_ret
        exact ⟨ret_b Hr.out.symm, he.trans ea⟩
      by_cases g4 : 999 < xu
      · have Hr := Lib.hid (Hbad.out (by rw [Bool.eq_false_iff]; intro hh; have := (hd_ok hh).2.2.2; simp only at this; omega))
        clear hall Cb
        go_wp2
        go_ret
        exact ⟨ret_b Hr.out.symm, he.trans ea⟩
      cases g5 : blockOk xb with
      | false =>
        have Hr := Lib.hid (Hbad.out (by simp [hdOk, g5]))
        rw [g5] at Cb
        clear hall g5
        go_wp2_with (go_at_call 91; refine Cb.mono ?_; rintro e w2 ⟨rfl, he2⟩)
        go_ret
        exact ⟨ret_b Hr.out.symm, he.trans (ea.trans he2)⟩
      | true =>
      have Hok : Hid (hdOk ⟨xk, xb, xu⟩ = true ∧ ∀ j y, k = j + 1 → l[j]? = some y → y.id < xk) := Lib.hid (by
        have h1 : 1 ≤ xk := by
          rcases Hlast.out with ⟨_, h2⟩ | ⟨j, y, _, _, h3, h4⟩
          · omega
          · omega
        refine ⟨by unfold hdOk; simp only; rw [inB_iff.2 ⟨h1, by omega⟩, g5, inB_iff.2 ⟨by omega, by omega⟩]; rfl, fun j y hj hy => ?_⟩
        rcases Hlast.out with ⟨h2, _⟩ | ⟨j', y', h2, h3, h4, _⟩
        · omega
        · obtain rfl : j' = j := by omega
          rw [h3] at hy
          cases hy; omega)
      rw [g5] at Cb
      have hkc : k ≤ c := by omega
      have hkc' : (k : Int) ≤ (c : Int) := by omega
      clear g5
      go_wp2_with (go_at_call 91; refine Cb.mono ?_; rintro e w2 ⟨rfl, he2⟩)
      have e3 := ea.trans he2
      have D0 := fun W (e : Ext w2 W) => d0 W (he2.trans e)
      have D1 := fun W (e : Ext w2 W) => d1 W (he2.trans e)
      clear q0 q1 q2 d0 d1 Cb
      go_loopw [47] (fun i wr' => ∃ m : Nat, m ≤ k ∧ i = .int .i64 m ∧ Ext w2 wr' ∧ Hid (∀ i z, i < m → l[i]? = some z → z.bytes ≠ xb)) (fun i _ => k - (intOf i).toNat)
      case atStart => exact ⟨0, by omega, rfl, Ext.refl _, Lib.hid fun i z h => absurd h (by omega)⟩
      case round =>
        obtain ⟨m, hm, rfl, he5, hdif⟩ := hrel
        by_cases hml : m < k
        · obtain ⟨z, hz⟩ := get_of_lt (l := l) (k := m) (by rw [Hn.out]; omega)
          obtain ⟨b', o', u', e', -, -, -, hzi, -, hz0, hz1, hz2⟩ := Hds.at_ HA.out hz
          simp only [Option.some.injEq, Addr.mk.injEq, and_true] at e'
          obtain ⟨rfl, rfl⟩ := e'
          obtain ⟨Az, cz, rfl, hzI⟩ := hzi
          have Hz := Lib.hid hz
          obtain ⟨zk, zb, zu⟩ := z
          simp only at hz0 hz1 hz2 hzI
          have e6 := he.trans (e3.trans he5)
          have z0 := hz0 wr e6; have z1 := hz1 wr e6; have z2 := hz2 wr e6
          have e7 : Ext wr (wr.alloc (.cells #[.int .i64 zk, .slice Az zb.length cz, .int .i64 zu] 60)) := (Ext.refl wr).alloc _
          have r1 := D1 _ (he5.trans e7)
          have Cs := slices_Equal_int_c _ (Ints.ext (w := w) ⟨_, _, rfl, hzI⟩ (e6.trans e7)) (HI.out _ (e3.trans (he5.trans e7)))
          clear hz0 hz1 hz2 hz hzI
          cases hs : eqb zb xb with
          | true =>
            have Hr := Lib.hid (store_bad Hx.out (fun hh => hh.2.2 m ⟨zk, zb, zu⟩ hml Hz.out (eqb_true.1 hs)))
            rw [hs] at Cs
            clear hs hdif hall
            go_wp2_with (go_at_call 92; refine Cs.mono ?_; rintro e w8 ⟨rfl, he8⟩)
            go_ret
            exact ⟨ret_b Hr.out.symm, e6.trans (e7.trans he8)⟩
          | false =>
            have Hr : Hid (∀ i z, i < m + 1 → l[i]? = some z → z.bytes ≠ xb) := Lib.hid fun i z hi hz => by
              rcases Nat.lt_or_ge i m with h | h
              · exact hdif.out i z h hz
              · obtain rfl : i = m := by omega
                rw [Hz.out] at hz
                cases hz; exact eqb_false.1 hs
            rw [hs] at Cs
            clear hs hdif
            go_wp2_with (go_at_call 92; refine Cs.mono ?_; rintro e w8 ⟨rfl, he8⟩)
            go_roundw
            case rel => exact ⟨m + 1, by omega, by go_num, he5.trans (e7.trans he8), Hr⟩
            case measure => simp [intOf]; omega
        · have hmk : m = k := by omega
          subst hmk
          have Hn' : Hid (∀ i h, i < m + 1 → l[i]? = some h → HdAt l i h) := Lib.hid fun i h hi hh => by
            rcases Nat.lt_or_ge i m with h' | h'
            · exact hall.out i h h' hh
            · obtain rfl : i = m := by omega
              rw [Hx.out] at hh
              cases hh
              exact ⟨Hok.out.1, Hok.out.2, hdif.out⟩
          have r0 := D0 wr he5
          clear hdif
          go_wp2
          go_roundw
          case rel => exact ⟨m + 1, by omega, by go_num, by rw [Hnext.out], he.trans (e3.trans he5), Hn'⟩
          case measure => simp [intOf]; omega
    · have hks : k = n := by omega
      subst hks
      have Hr : Hid (storeOk l = true) := Lib.hid (storeOk_iff.2 ⟨by have := Hn.out; omega, fun j y hy => hall.out j y (by have := lt_of_get hy; have := Hn.out; omega) hy⟩)
      clear hall
      go_wp2
      go_ret
      exact ⟨ret_b Hr.out.symm, he⟩
end Go.Sf
