/- Arguments that are quotas: how large they are; copies of them. -/
import Derived.Test.YtneabdoianmfhaaGreatDoorGL
import Derived.Test.YtneabdoianmfhaaGreatDoorGL
import Derived.Test.YtneabdoianmfhaaGreatDoorX8
import Derived.Test.YtneabdoianmfhaaGreatDoorT103
namespace Go.Sf
open Go Go.RowKit Go.Proofs
def AQt (w : World) (b p : Nat) (x : Qt) : Prop := w.cell? ⟨b, p, none⟩ = some (.string x.dir) ∧ x.dir.size ≤ maxLen ∧ w.cell? ⟨b, p + 1, none⟩ = some (.int .i64 x.most) ∧ inI x.most
def AQts (w : World) (v : Value) (l : List Qt) : Prop := ASl 2 AQt w v l
theorem AQts.ext {w w' : World} {v : Value} {l : List Qt} (h : AQts w v l) (e : Ext w w') : AQts w' v l := ASl.ext h fun _ _ _ ⟨h1, h2, h3, h4⟩ => ⟨e.cell h1, h2, e.cell h3, h4⟩
/-- a quota by value -/
def AQtV (v : Value) (x : Qt) : Prop := v = .agg #[.string x.dir, .int .i64 x.most] ∧ x.dir.size ≤ maxLen ∧ inI x.most
def bkQt (x : Qt) : Nat := x.dir.size
def bkQts (l : List Qt) : Nat := l.length + (l.map bkQt).sum
set_option maxHeartbeats 1000000 in
theorem szQuota_c {v : Value} {x : Qt} {left : Int} (w : World) (h : AQtV v x) (h0 : 0 ≤ left) (h1 : left ≤ 1048576) : Calls Tryz.prog 87 #[v, .int .i64 left] w (Ret (.int .i64 (dec left (bkQt x))) w) := by
  obtain ⟨xn, xm⟩ := x
  obtain ⟨rfl, hps, -⟩ := h
  simp only at hps ⊢
  unfold maxLen at hps
  have e0 : Ext w (w.alloc (.cells #[.string xn, .int .i64 xm] 157)) := (Ext.refl w).alloc _
  by_cases h2 : left < xn.size
  · have h3 : left - (xn.size : Int) < 0 := by omega
    go_enter Tryz.func87, Tryz.ntmps87
    go_wp2
    go_ret
    exact ⟨ret_v (by rw [bkQt, dec_neg h2]; rfl), e0⟩
  · have h3 : ¬ left - (xn.size : Int) < 0 := by omega
    go_enter Tryz.func87, Tryz.ntmps87
    go_wp2
    go_ret
    have h4 : ¬ left < (xn.size : Int) := by omega
    exact ⟨ret_v (by rw [bkQt, dec_pos h4]; rfl), e0⟩
theorem bkq_take {l : List Qt} {k : Nat} {x : Qt} (h : l[k]? = some x) : ((l.take (k + 1)).map bkQt).sum = ((l.take k).map bkQt).sum + bkQt x := by
  rw [List.take_add_one, h]; simp
theorem bkq_take_le (l : List Qt) (k : Nat) : ((l.take k).map bkQt).sum ≤ (l.map bkQt).sum := by
  conv => rhs; rw [← List.take_append_drop k l]
  rw [List.map_append, List.sum_append]; omega
set_option maxRecDepth 4000 in
set_option maxHeartbeats 1000000 in
theorem szQuotaS_c {v : Value} {l : List Qt} {left : Int} (w : World) (h : AQts w v l) (h0 : 0 ≤ left) (h1 : left ≤ 1048576) : Calls Tryz.prog 29 #[v, .int .i64 left] w (Ret (.int .i64 (dec left (bkQts l))) w) := by
  obtain ⟨A, c, rfl, hlc, ⟨hcm, hA⟩, hel⟩ := h
  have hmn : l.length ≤ maxLen := Nat.le_trans hlc hcm
  unfold maxLen at hmn
  have hex : ∃ n, l.length = n := ⟨_, rfl⟩
  obtain ⟨n, hn⟩ := hex
  rw [hn] at hmn ⊢
  have Hn := Lib.hid hn
  have HE := Lib.hid hel
  clear hel hlc hcm hA hn
  by_cases h2 : left < n
  · have h3 : left - (n : Int) < 0 := by omega
    go_enter Tryz.func29, Tryz.ntmps29
    go_wp2
    go_ret
    exact ⟨ret_v (by rw [bkQts, Hn.out, dec_more h2]; rfl), Ext.refl w⟩
  · have h3 : ¬ left - (n : Int) < 0 := by omega
    go_enter Tryz.func29, Tryz.ntmps29
    go_wp2
    go_loopw [1, 5] (fun d i wr => ∃ (k : Nat) (D : Int), k ≤ n ∧ i = .int .i64 k ∧ d = .int .i64 D ∧ Ext w wr ∧ 0 ≤ D ∧ D ≤ 1048576 ∧ Hid (D = left - n - ((l.take k).map bkQt).sum)) (fun _ i _ => n - (intOf i).toNat)
    case atStart => exact ⟨0, left - n, by omega, rfl, rfl, Ext.refl w, by omega, by omega, Lib.hid (by simp)⟩
    case round =>
      obtain ⟨k, D, hk, rfl, rfl, he, hD0, hD1, hD⟩ := hrel
      by_cases hlt : k < n
      · obtain ⟨x, hx⟩ := get_of_lt (l := l) (k := k) (by rw [Hn.out]; exact hlt)
        obtain ⟨b, o, rfl, hc0, hps, hc1, hin⟩ := HE.out k x hx
        have aa0 := he.cell hc0; have aa1 := he.cell hc1
        have hs := szQuota_c (x := x) (left := D) wr ⟨rfl, hps, hin⟩ hD0 hD1
        have Hs := Lib.hid hs
        have Hx := Lib.hid (bkq_take hx)
        have Hb := Lib.hid (bkq_take_le l (k + 1))
        have hle := dec_le (n := bkQt x) hD0 hD1
        have hd : Hid ((D < bkQt x ∧ dec D (bkQt x) = -1) ∨ (¬ D < bkQt x ∧ dec D (bkQt x) = D - bkQt x ∧ 0 ≤ D - bkQt x)) := Lib.hid (by
          by_cases h : D < bkQt x
          · exact .inl ⟨h, dec_neg h⟩
          · exact .inr ⟨h, dec_pos h, by omega⟩)
        clear hc0 hc1 hx hs hps hin
        generalize hM : bkQt x = M at *
        have HM := Lib.hid hM; clear hM
        generalize hR : dec D M = R at *
        have HR := Lib.hid hR; clear hR
        by_cases h5 : R < 0
        · go_wp2_with (go_at_call 87; refine Hs.out.mono ?_; rintro e w1 ⟨rfl, he1⟩)
          go_ret
          have hv : Value.int .i64 (-1) = .int .i64 (dec left (bkQts l)) := by
            rcases hd.out with ⟨ha, hb⟩ | ⟨ha, hb, hc⟩
            · rw [bkQts, dec_neg (by have := hD.out; have := Hx.out; have := Hb.out; have := Hn.out; omega)]
            · omega
          exact ⟨ret_v hv, he.trans he1⟩
        · go_wp2_with (go_at_call 87; refine Hs.out.mono ?_; rintro e w1 ⟨rfl, he1⟩)
          go_roundw
          case rel =>
            refine ⟨k + 1, R, by omega, by go_num, rfl, he.trans he1, by omega, hle, Lib.hid ?_⟩
            rcases hd.out with ⟨ha, hb⟩ | ⟨ha, hb, hc⟩
            · omega
            · rw [Hx.out, hb]; have := hD.out; omega
          case measure => simp [intOf]; omega
      · have hks : k = n := by omega
        subst hks
        have e : l.take k = l := List.take_of_length_le (by rw [Hn.out]; omega)
        rw [e] at hD
        go_wp2
        go_ret
        have hv : Value.int .i64 D = .int .i64 (dec left (bkQts l)) := by
          rw [bkQts, Hn.out, dec_pos (by have := hD.out; omega)]; have := hD.out; congr 1; omega
        exact ⟨ret_v hv, he⟩
set_option maxRecDepth 4000 in
set_option maxHeartbeats 1000000 in
theorem toQuota_c {v : Value} {x : Qt} (w : World) (h : AQtV v x) : Calls Tryz.prog 90 #[v] w (Ret (.agg #[.string x.dir, .int .i64 x.most]) w) := by
  obtain ⟨xn, xm⟩ := x
  obtain ⟨rfl, hps, -⟩ := h
  simp only at hps ⊢
  go_enter Tryz.func90, Tryz.ntmps90
  go_wp2
  have hb := (Blk.new (w.alloc (.cells #[.string xn, .int .i64 xm] 157)) 160 #[.string xn, .int .i64 xm]).alloc (.cells #[.string xn, .int .i64 xm] 160)
  have z0 := hb.cell 0; have z1 := hb.cell 1
  simp at z0 z1
  exact bodyPost_ret (v := .agg #[.string xn, .int .i64 xm]) (by simp [results, Tryz.results90, go_sem, z0, z1]) rfl ⟨rfl, by (repeat' (first | exact Ext.refl _ | assumption | refine Ext.alloc ?_ _ | refine Ext.drew ?_ | refine Ext.drewN ?_ _))⟩
/-- quotas of the call's own -/
def QtsU (B : Nat) (w : World) (v : Value) (l : List Qt) : Prop :=
  ∃ (g c : Nat) (cs : Array Value), v = .slice (some ⟨g, 0, none⟩) l.length c ∧ B ≤ g ∧ l.length ≤ c ∧ c ≤ maxLen ∧ l.length ≤ lim ∧ Blk w g 160 cs ∧
    ∀ (i : Nat) (x : Qt), l[i]? = some x → cs[i * 2]? = some (.string x.dir) ∧ cs[i * 2 + 1]? = some (.int .i64 x.most) ∧ x.dir.size < lim ∧ inI x.most
theorem QtsU.plain {B : Nat} {w : World} {v : Value} {l : List Qt} (h : QtsU B w v l) : Qts B w v l := by
  obtain ⟨g, c, cs, rfl, h2, h3, h4, h5, h6, h7⟩ := h
  refine ⟨_, c, rfl, h3, ⟨h4, fun e => by cases e⟩, h5, fun k x hx => ?_⟩
  obtain ⟨a, b, d, e⟩ := h7 k x hx
  refine ⟨g, 0, cs, rfl, h2, h6, ?_⟩
  rw [Nat.zero_add]
  exact ⟨a, d, b, e⟩
/-- a row of quotas of the call's own at g: the first k are there -/
def RowQt (w : World) (g n : Nat) (l : List Qt) (k : Nat) : Prop := ∃ cs : Array Value, Blk w g 160 cs ∧ cs.size = n * 2 ∧ ∀ (i : Nat) (x : Qt), i < k → l[i]? = some x → cs[i * 2]? = some (.string x.dir) ∧ cs[i * 2 + 1]? = some (.int .i64 x.most)
theorem RowQt.put {w W : World} {g n k : Nat} {l : List Qt} {x : Qt} (h : RowQt w g n l k) (e : Ext w W) (hx : l[k]? = some x) (hk : k < n) :
    RowQt ((W.setCell ⟨g, k * 2, none⟩ (.string x.dir)).setCell ⟨g, k * 2 + 1, none⟩ (.int .i64 x.most)) g n l (k + 1) := by
  obtain ⟨cs, h3, h4, h5⟩ := h
  have B0 := h3.ext e
  have B1 := B0.set_ (k * 2) (.string x.dir)
  have B2 := B1.set_ (k * 2 + 1) (.int .i64 x.most)
  have cell : ∀ j, ((cs.setIfInBounds (k * 2) (.string x.dir)).setIfInBounds (k * 2 + 1) (.int .i64 x.most))[j]? = if j = k * 2 + 1 then some (.int .i64 x.most) else if j = k * 2 then some (.string x.dir) else cs[j]? := fun j => by
    simp only [Array.getElem?_setIfInBounds, Array.size_setIfInBounds]
    by_cases q1 : j = k * 2 + 1
    · subst q1; rw [if_pos rfl, if_pos (by omega), if_pos rfl]
    · rw [if_neg (fun h => q1 h.symm), if_neg q1]
      by_cases q0 : j = k * 2
      · subst q0; rw [if_pos rfl, if_pos (by omega), if_pos rfl]
      · rw [if_neg (fun h => q0 h.symm), if_neg q0]
  refine ⟨_, B2, by simpa using h4, fun i y hi hy => ?_⟩
  rcases Nat.lt_or_ge i k with hik | hik
  · obtain ⟨a, b⟩ := h5 i y hik hy
    exact ⟨by rw [cell, if_neg (by omega), if_neg (by omega)]; exact a, by rw [cell, if_neg (by omega), if_neg (by omega)]; exact b⟩
  · have hik' : i = k := by omega
    subst hik'
    rw [hx] at hy
    cases hy
    exact ⟨by rw [cell, if_neg (by omega), if_pos rfl], by rw [cell, if_pos rfl]⟩
set_option maxRecDepth 4000 in
set_option maxHeartbeats 1000000 in
theorem toQuotaS_c {v : Value} {l : List Qt} (w : World) (h : AQts w v l) (hb : bkQts l ≤ 1048576) :
    Calls Tryz.prog 31 #[v] w (RetP (fun u w' => QtsU w.heap.size w' u l) w) := by
  obtain ⟨A, c, rfl, hlc, ⟨hcm, hA⟩, hel⟩ := h
  have hl : l.length ≤ 1048576 := by unfold bkQts at hb; omega
  have hbd : Hid (∀ (k : Nat) (x : Qt), l[k]? = some x → x.dir.size < lim) := Lib.hid fun k x hx => by
    have h1 := bkq_take_le l (k + 1)
    rw [bkq_take hx] at h1
    have hbk : bkQt x = x.dir.size := rfl
    unfold bkQts at hb; unfold lim; omega
  have hlim : Hid (l.length ≤ lim) := Lib.hid (by unfold lim; omega)
  obtain ⟨cs0, hcs, hmk⟩ := run_mk el_Qt l.length hlim.out
  have hex : ∃ n, l.length = n := ⟨_, rfl⟩
  obtain ⟨n, hn⟩ := hex
  rw [hn] at hl hmk hcs ⊢
  have Hn := Lib.hid hn
  have HE := Lib.hid hel
  have Hcs := Lib.hid hcs
  clear hel hlc hcm hA hn hcs hb
  go_enter Tryz.func31, Tryz.ntmps31
  go_wp2
  clear hmk
  go_loopw [4] (fun i wr => ∃ k : Nat, k ≤ n ∧ i = .int .i64 k ∧ Ext w wr ∧ Hid (RowQt wr w.heap.size n l k)) (fun i _ => n - (intOf i).toNat)
  case atStart => exact ⟨0, by omega, rfl, (Ext.refl w).alloc _, Lib.hid ⟨cs0, Blk.new _ _ _, Hcs.out, fun i x hi => by omega⟩⟩
  case round =>
    obtain ⟨k, hk, rfl, he, hR⟩ := hrel
    by_cases hlt : k < n
    · obtain ⟨x, hx⟩ := get_of_lt (l := l) (k := k) (by rw [Hn.out]; exact hlt)
      obtain ⟨b, o, rfl, hc0, hps, hc1, hin⟩ := HE.out k x hx
      have Hs := Lib.hid (toQuota_c (x := x) wr ⟨rfl, hps, hin⟩)
      have a0 := he.cell hc0; have a1 := he.cell hc1
      have Hx := Lib.hid hx
      clear hc0 hc1 hx hps hin
      go_wp2_with fail
      refine Hs.out.mono ?_
      rintro e w1 ⟨rfl, he1⟩
      have ff := fun i => show w1.frozen? ⟨w.heap.size, i, none⟩ = false from by obtain ⟨cs, h1, -⟩ := hR.out; exact (h1.ext he1).frozen i
      have dd : ∀ i, i < n * 2 → ∃ u, w1.cell? ⟨w.heap.size, i, none⟩ = some u := fun i hi => by
        obtain ⟨cs, h1, h2, -⟩ := hR.out
        rw [(h1.ext he1).cell]; exact ⟨cs[i], by simp [h2, hi]⟩
      obtain ⟨z0, d0⟩ := dd (k * 2) (by omega); obtain ⟨z1, d1⟩ := dd (k * 2 + 1) (by omega)
      have f0 := ff (k * 2); have f1 := ff (k * 2 + 1)
      clear ff dd a0 a1
      go_wp2
      go_roundw
      case rel => exact ⟨k + 1, by omega, by go_num, ((he.trans he1).setCell (Nat.le_refl _) _).setCell (Nat.le_refl _) _, Lib.hid (hR.out.put he1 Hx.out hlt)⟩
      case measure => simp [intOf]; omega
    · have hks : k = n := by omega
      subst hks
      go_wp2
      go_ret
      obtain ⟨cs, h1, h2, h3⟩ := hR.out
      refine ⟨.slice (some ⟨w.heap.size, 0, none⟩) k k, rfl, ⟨w.heap.size, k, cs, by rw [Hn.out], Nat.le_refl _, by rw [Hn.out]; exact Nat.le_refl _, by unfold maxLen; omega, by rw [Hn.out]; unfold lim; omega, h1, fun i x hx => ?_⟩, he⟩
      obtain ⟨b, o, -, -, -, -, hin⟩ := HE.out i x hx
      obtain ⟨a, b⟩ := h3 i x (by have := lt_of_get hx; have := Hn.out; omega) hx
      exact ⟨a, b, hbd.out i x hx, hin⟩
end Go.Sf
