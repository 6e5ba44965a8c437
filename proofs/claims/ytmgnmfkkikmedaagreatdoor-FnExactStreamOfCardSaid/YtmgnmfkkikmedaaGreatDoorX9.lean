/- Arguments that are snapshots and disks: how large they are; copies of them. -/
import Derived.Test.YtmgnmfkkikmedaaGreatDoorT88
import Derived.Test.YtmgnmfkkikmedaaGreatDoorT93
namespace Go.Sf
open Go Go.RowKit Go.Proofs
def ASn (w : World) (b p : Nat) (x : Sn) : Prop :=
  w.cell? ⟨b, p, none⟩ = some (.string x.name) ∧ x.name.size ≤ maxLen ∧ ∃ u, w.cell? ⟨b, p + 1, none⟩ = some u ∧ AIts w u x.tree
def ASns (w : World) (v : Value) (l : List Sn) : Prop := ASl 2 ASn w v l
theorem ASns.ext {w w' : World} {v : Value} {l : List Sn} (h : ASns w v l) (e : Ext w w') : ASns w' v l := ASl.ext h fun _ _ _ ⟨h1, h2, u, h3, h4⟩ => ⟨e.cell h1, h2, u, e.cell h3, h4.ext e⟩
/-- a snapshot by value -/
def ASnV (w : World) (v : Value) (x : Sn) : Prop := ∃ u, v = .agg #[.string x.name, u] ∧ x.name.size ≤ maxLen ∧ AIts w u x.tree
def bkSn (x : Sn) : Nat := x.name.size + bkIts x.tree
def bkSns (l : List Sn) : Nat := l.length + (l.map bkSn).sum
set_option maxHeartbeats 1000000 in
theorem szSnap_c {v : Value} {x : Sn} {left : Int} (w : World) (h : ASnV w v x) (h0 : 0 ≤ left) (h1 : left ≤ 1048576) : Calls Tryz.prog 109 #[v, .int .i64 left] w (Ret (.int .i64 (dec left (bkSn x))) w) := by
  obtain ⟨xn, xt⟩ := x
  obtain ⟨u, rfl, hps, hu⟩ := h
  simp only at hps hu ⊢
  have HU := Lib.hid hu
  obtain ⟨A, c, rfl, -⟩ := hu
  unfold maxLen at hps
  have e0 : Ext w (w.alloc (.cells #[.string xn, .slice A xt.length c] 158)) := (Ext.refl w).alloc _
  by_cases h2 : left < xn.size
  · have h3 : left - (xn.size : Int) < 0 := by omega
    go_enter Tryz.func109, Tryz.ntmps109
    go_wp2
    go_ret
    exact ⟨ret_v (by rw [bkSn, dec_more h2]; rfl), e0⟩
  · have h3 : ¬ left - (xn.size : Int) < 0 := by omega
    have h4 : 0 ≤ left - (xn.size : Int) := by omega
    have hb := dec_dec (b := bkIts xt) h2
    rw [dec_pos h2] at hb
    have HB := Lib.hid hb; clear hb
    have hd : Hid (0 ≤ dec (left - xn.size) (bkIts xt) ∨ dec (left - xn.size) (bkIts xt) = -1) := Lib.hid dec_or'
    have Cs := szItemS_c _ (HU.out.ext e0) h4 (by omega)
    generalize hD : dec (left - xn.size) (bkIts xt) = D at *
    have HD := Lib.hid hD; clear hD
    by_cases h5 : D < 0
    · go_enter Tryz.func109, Tryz.ntmps109
      go_wp2_with (go_at_call 50; refine Cs.mono ?_; rintro e w1 ⟨rfl, he1⟩)
      go_ret
      have hv : Value.int .i64 (-1) = .int .i64 (dec left (bkSn ⟨xn, xt⟩)) := by
        rw [bkSn, ← HB.out]
        rcases hd.out with h | h
        · omega
        · rw [h]
      exact ⟨ret_v hv, e0.trans he1⟩
    · go_enter Tryz.func109, Tryz.ntmps109
      go_wp2_with (go_at_call 50; refine Cs.mono ?_; rintro e w1 ⟨rfl, he1⟩)
      go_ret
      have hv : Value.int .i64 D = .int .i64 (dec left (bkSn ⟨xn, xt⟩)) := by rw [bkSn, ← HB.out]
      exact ⟨ret_v hv, e0.trans he1⟩
theorem bks_take {l : List Sn} {k : Nat} {x : Sn} (h : l[k]? = some x) : ((l.take (k + 1)).map bkSn).sum = ((l.take k).map bkSn).sum + bkSn x := by
  rw [List.take_add_one, h]; simp
theorem bks_take_le (l : List Sn) (k : Nat) : ((l.take k).map bkSn).sum ≤ (l.map bkSn).sum := by
  conv => rhs; rw [← List.take_append_drop k l]
  rw [List.map_append, List.sum_append]; omega
set_option maxRecDepth 4000 in
set_option maxHeartbeats 1000000 in
theorem szSnapS_c {v : Value} {l : List Sn} {left : Int} (w : World) (h : ASns w v l) (h0 : 0 ≤ left) (h1 : left ≤ 1048576) : Calls Tryz.prog 51 #[v, .int .i64 left] w (Ret (.int .i64 (dec left (bkSns l))) w) := by
  obtain ⟨A, c, rfl, hlc, ⟨hcm, hA⟩, hel⟩ := h
  have hmn : l.length ≤ maxLen := Nat.le_trans hlc hcm
  unfold maxLen at hmn
  have hex : ∃ n, l.length = n := ⟨_, rfl⟩
  obtain ⟨n, hn⟩ := hex
  rw [hn] at hmn ⊢
  have Hn := Lib.hid hn
  have HE := Lib.hid hel
  clear hel hlc hcm hA hn
  by_cases h2 : left < n
  · have h3 : left - (n : Int) < 0 := by omega
    go_enter Tryz.func51, Tryz.ntmps51
    go_wp2
    go_ret
    exact ⟨ret_v (by rw [bkSns, Hn.out, dec_more h2]; rfl), Ext.refl w⟩
  · have h3 : ¬ left - (n : Int) < 0 := by omega
    go_enter Tryz.func51, Tryz.ntmps51
    go_wp2
    go_loopw [1, 5] (fun d i wr => ∃ (k : Nat) (D : Int), k ≤ n ∧ i = .int .i64 k ∧ d = .int .i64 D ∧ Ext w wr ∧ 0 ≤ D ∧ D ≤ 1048576 ∧ Hid (D = left - n - ((l.take k).map bkSn).sum)) (fun _ i _ => n - (intOf i).toNat)
    case atStart => exact ⟨0, left - n, by omega, rfl, rfl, Ext.refl w, by omega, by omega, Lib.hid (by simp)⟩
    case round =>
      obtain ⟨k, D, hk, rfl, rfl, he, hD0, hD1, hD⟩ := hrel
      by_cases hlt : k < n
      · obtain ⟨x, hx⟩ := get_of_lt (l := l) (k := k) (by rw [Hn.out]; exact hlt)
        obtain ⟨b, o, rfl, hc0, hps, u, hc1, hu⟩ := HE.out k x hx
        have HU := Lib.hid (hu.ext he)
        obtain ⟨Au, cu, rfl, -⟩ := hu
        have aa0 := he.cell hc0; have aa1 := he.cell hc1
        have hs := szSnap_c (x := x) (left := D) wr ⟨_, rfl, hps, HU.out⟩ hD0 hD1
        have Hs := Lib.hid hs
        have Hx := Lib.hid (bks_take hx)
        have Hb := Lib.hid (bks_take_le l (k + 1))
        have hle := dec_le (n := bkSn x) hD0 hD1
        have hd : Hid ((D < bkSn x ∧ dec D (bkSn x) = -1) ∨ (¬ D < bkSn x ∧ dec D (bkSn x) = D - bkSn x ∧ 0 ≤ D - bkSn x)) := Lib.hid (by
          by_cases h : D < bkSn x
          · exact .inl ⟨h, dec_neg h⟩
          · exact .inr ⟨h, dec_pos h, by omega⟩)
        clear hc0 hc1 hx hs
        generalize hM : bkSn x = M at *
        have HM := Lib.hid hM; clear hM
        generalize hR : dec D M = R at *
        have HR := Lib.hid hR; clear hR
        by_cases h5 : R < 0
        · go_wp2_with (go_at_call 109; refine Hs.out.mono ?_; rintro e w1 ⟨rfl, he1⟩)
          go_ret
          have hv : Value.int .i64 (-1) = .int .i64 (dec left (bkSns l)) := by
            rcases hd.out with ⟨ha, hb⟩ | ⟨ha, hb, hc⟩
            · rw [bkSns, dec_neg (by have := hD.out; have := Hx.out; have := Hb.out; have := Hn.out; omega)]
            · omega
          exact ⟨ret_v hv, he.trans he1⟩
        · go_wp2_with (go_at_call 109; refine Hs.out.mono ?_; rintro e w1 ⟨rfl, he1⟩)
          go_roundw
          case rel =>
            refine ⟨k + 1, R, by omega, by go_num, rfl, he.trans he1, by omega, hle, Lib.hid ?_⟩
            rcases hd.out with ⟨ha, hb⟩ | ⟨ha, hb, hc⟩
            · omega
            · rw [Hx.out, hb]; have := hD.out; omega
          case measure => simp [intOf]; omega
      · have hks : k = n := by omega
        subst hks
        have e : l.take k = l := List.take_of_length_le (by rw [Hn.out]; omega)
        rw [e] at hD
        go_wp2
        go_ret
        have hv : Value.int .i64 D = .int .i64 (dec left (bkSns l)) := by
          rw [bkSns, Hn.out, dec_pos (by have := hD.out; omega)]; have := hD.out; congr 1; omega
        exact ⟨ret_v hv, he⟩
set_option maxRecDepth 4000 in
set_option maxHeartbeats 1000000 in
theorem toSnap_c {v : Value} {x : Sn} (w : World) (h : ASnV w v x) (hl : bkIts x.tree ≤ 1048576) :
    Calls Tryz.prog 115 #[v] w (RetP (fun r w' => ∃ u lu, r = .agg #[.string x.name, u] ∧ lu.map Prod.fst = x.tree ∧ ItsU w.heap.size w' u lu ∧ Sep lu) w) := by
  obtain ⟨xn, xt⟩ := x
  obtain ⟨u, rfl, hps, hu⟩ := h
  simp only at hu hl hps ⊢
  have HU := Lib.hid hu
  obtain ⟨Au, cu, rfl, -⟩ := hu
  go_enter Tryz.func115, Tryz.ntmps115
  go_wp2_with fail
  refine (toItemS_c _ (HU.out.ext (by (repeat' (first | exact Ext.refl _ | assumption | refine Ext.alloc ?_ _ | refine Ext.drew ?_ | refine Ext.drewN ?_ _)))) hl).mono ?_
  rintro e w4 ⟨r, rfl, ⟨lu, hlu, hI, hSp⟩, he⟩
  have hb2 := ((Blk.new (w.alloc (.cells #[.string xn, .slice Au xt.length cu] 158)) 72 #[.string ⟨#[]⟩, .slice none 0 0]).alloc (.cells #[.string xn, .slice none 0 0] 72)).ext he
  have hb3 := (Blk.new ((w.alloc (.cells #[.string xn, .slice Au xt.length cu] 158)).alloc (.cells #[.string ⟨#[]⟩, .slice none 0 0] 72)) 72 #[.string xn, .slice none 0 0]).ext he
  simp only [World.size_alloc] at hb2 hb3 hI
  have he4 : Ext w w4 := Ext.trans (by (repeat' (first | exact Ext.refl _ | assumption | refine Ext.alloc ?_ _ | refine Ext.drew ?_ | refine Ext.drewN ?_ _))) he
  have HI := Lib.hid (hI.keep (B' := w.heap.size) (by omega) (fun _ _ _ => rfl))
  have HL := Lib.hid hlu; have HSp := Lib.hid hSp
  obtain ⟨A3, c3, rfl, -⟩ := hI
  generalize lu.length = n3 at *
  have c0 := hb3.cell 0; have c1 := hb3.cell 1
  have d0 := hb2.cell 0; have d1 := hb2.cell 1
  have f1 := hb3.frozen 1
  have g0 := hb2.frozen 0; have g1 := hb2.frozen 1
  simp at c0 c1 d0 d1
  have B31 := hb3.set_ 1 (.slice A3 n3 c3)
  have B21 := hb2.far (p := ⟨w.heap.size + 1 + 1, 1, none⟩) (by simp) (.slice A3 n3 c3)
  have B22 := B21.set_ 0 (.string xn)
  have B23 := B22.set_ 1 (.slice A3 n3 c3)
  have K : KeepsT 72 w4 _ := (KeepsT.set (i := 1) hb3 (.slice A3 n3 c3) rfl).trans ((KeepsT.set (i := 0) B21 (.string xn) rfl).trans (KeepsT.set (i := 1) B22 (.slice A3 n3 c3) rfl))
  have E3 := ((he4.setCell (p := ⟨w.heap.size + 1 + 1, 1, none⟩) (by simp; omega) (.slice A3 n3 c3)).setCell (p := ⟨w.heap.size + 1, 0, none⟩) (by simp) (.string xn)).setCell (p := ⟨w.heap.size + 1, 1, none⟩) (by simp) (.slice A3 n3 c3)
  have HB := Lib.hid B23; have HK := Lib.hid K; have HE := Lib.hid E3
  clear hb2 hb3 he hlu hSp B31 B21 B22 B23 K E3 he4
  go_wp2
  have HB := HB.out; have HK := HK.out; have HE := HE.out
  simp at HB
  have z0 := HB.cell 0; have z1 := HB.cell 1
  simp at z0 z1
  exact bodyPost_ret (v := .agg #[.string xn, .slice A3 n3 c3]) (by simp [results, Tryz.results115, go_sem, z0, z1]) rfl ⟨_, rfl, ⟨_, lu, rfl, HL.out, HI.out.keepT HK (by decide) (by decide), HSp.out⟩, HE⟩
/-- snapshots of the call's own: for each its tree, the items with their ids, and from which block on it lies -/
abbrev SnQ := Sn × Value × List (It × Value) × Nat
def SnQOk (w : World) (g : Nat) (lq : List SnQ) : Prop :=
  (∀ (i : Nat) (q : SnQ), lq[i]? = some q → q.1.name.size < lim ∧ q.2.2.1.map Prod.fst = q.1.tree ∧ ItsU q.2.2.2 w q.2.1 q.2.2.1 ∧ Sep q.2.2.1 ∧ g < q.2.2.2) ∧
  ∀ (i j : Nat) (q r : SnQ) (b : Nat), i < j → lq[i]? = some q → lq[j]? = some r → FootIt q.2.1 q.2.2.1 b → b < r.2.2.2
def SnsU (B : Nat) (w : World) (v : Value) (lq : List SnQ) : Prop :=
  ∃ (g c : Nat) (cs : Array Value), v = .slice (some ⟨g, 0, none⟩) lq.length c ∧ B ≤ g ∧ lq.length ≤ c ∧ c ≤ maxLen ∧ lq.length ≤ lim ∧ Blk w g 72 cs ∧
    (∀ (i : Nat) (q : SnQ), lq[i]? = some q → cs[i * 2]? = some (.string q.1.name) ∧ cs[i * 2 + 1]? = some q.2.1) ∧ SnQOk w g lq
def FootSn (v : Value) (lq : List SnQ) (b : Nat) : Prop := v.ownBlock = some b ∨ ∃ q, q ∈ lq ∧ FootIt q.2.1 q.2.2.1 b
section
variable {B : Nat} {w w' : World} {v : Value} {lq : List SnQ} {g : Nat}
theorem SnQOk.keepT {t : TypeId} (h : SnQOk w g lq) (hk : KeepsT t w w') (h1 : 51 ≠ t) (h2 : 3 ≠ t) : SnQOk w' g lq :=
  ⟨fun i q hq => let ⟨a, b, c, d, e⟩ := h.1 i q hq; ⟨a, b, c.keepT hk h1 h2, d, e⟩, h.2⟩
theorem SnQOk.ext (h : SnQOk w g lq) (e : Ext w w') : SnQOk w' g lq := ⟨fun i q hq => let ⟨a, b, c, d, f⟩ := h.1 i q hq; ⟨a, b, c.ext e, d, f⟩, h.2⟩
theorem SnsU.ext (h : SnsU B w v lq) (e : Ext w w') : SnsU B w' v lq := let ⟨g, c, cs, h1, h2, h3, h4, h5, h6, h7, h8⟩ := h; ⟨g, c, cs, h1, h2, h3, h4, h5, h6.ext e, h7, h8.ext e⟩
theorem SnsU.keepT {t : TypeId} (h : SnsU B w v lq) (hk : KeepsT t w w') (h0 : 72 ≠ t) (h1 : 51 ≠ t) (h2 : 3 ≠ t) : SnsU B w' v lq :=
  let ⟨g, c, cs, e1, e2, e3, e4, e5, e6, e7, e8⟩ := h; ⟨g, c, cs, e1, e2, e3, e4, e5, hk _ _ _ h0 e6, e7, e8.keepT hk h1 h2⟩
theorem SnsU.plain (h : SnsU B w v lq) : Sns 0 w v (lq.map Prod.fst) := by
  obtain ⟨g, c, cs, rfl, -, h3, h4, h5, h6, h7, h8⟩ := h
  refine ⟨_, c, by rw [List.length_map], by simpa using h3, ⟨h4, fun e => by cases e⟩, by simpa using h5, fun k x hx => ?_⟩
  rw [List.getElem?_map, Option.map_eq_some_iff] at hx
  obtain ⟨q, hq, rfl⟩ := hx
  obtain ⟨a1, a2, a3, -, -⟩ := h8.1 k q hq
  obtain ⟨b1, b2⟩ := h7 k q hq
  refine ⟨g, 0, cs, rfl, Nat.zero_le _, h6, ?_⟩
  rw [Nat.zero_add]
  have := a3.its
  rw [a2] at this
  exact ⟨b1, a1, _, b2, this.keep (Nat.zero_le _) (fun _ _ _ => rfl)⟩
end
/-- a row of snapshots of the call's own at g: the first k are there -/
def RowSnU (w : World) (g n : Nat) (l : List Sn) (k : Nat) : Prop := ∃ (lq : List SnQ) (cs : Array Value), lq.length = k ∧ lq.map Prod.fst = l.take k ∧ Blk w g 72 cs ∧ cs.size = n * 2 ∧
  (∀ (i : Nat) (q : SnQ), lq[i]? = some q → cs[i * 2]? = some (.string q.1.name) ∧ cs[i * 2 + 1]? = some q.2.1) ∧ SnQOk w g lq
theorem RowSnU.put {w W : World} {g n k : Nat} {l : List Sn} {x : Sn} {u : Value} {lu : List (It × Value)} (h : RowSnU w g n l k) (e : Ext w W) (hx : l[k]? = some x) (hk : k < n) (hns : x.name.size < lim) (hlu : lu.map Prod.fst = x.tree) (hu : ItsU w.heap.size W u lu) (hs : Sep lu) :
    RowSnU ((W.setCell ⟨g, k * 2, none⟩ (.string x.name)).setCell ⟨g, k * 2 + 1, none⟩ u) g n l (k + 1) := by
  obtain ⟨lq, cs, h1, h2, h3, h4, h5, h6⟩ := h
  have hg := h3.lt
  have B0 := h3.ext e
  have B1 := B0.set_ (k * 2) (.string x.name)
  have B2 := B1.set_ (k * 2 + 1) u
  have K := (KeepsT.set (i := k * 2) B0 (.string x.name) rfl).trans (KeepsT.set (i := k * 2 + 1) B1 u rfl)
  have cell : ∀ j, ((cs.setIfInBounds (k * 2) (.string x.name)).setIfInBounds (k * 2 + 1) u)[j]? = if j = k * 2 + 1 then some u else if j = k * 2 then some (.string x.name) else cs[j]? := fun j => by
    simp only [Array.getElem?_setIfInBounds, Array.size_setIfInBounds]
    by_cases q1 : j = k * 2 + 1
    · subst q1; rw [if_pos rfl, if_pos (by omega), if_pos rfl]
    · rw [if_neg (fun h => q1 h.symm), if_neg q1]
      by_cases q0 : j = k * 2
      · subst q0; rw [if_pos rfl, if_pos (by omega), if_pos rfl]
      · rw [if_neg (fun h => q0 h.symm), if_neg q0]
  have h6' := (h6.ext e).keepT K (by decide) (by decide)
  have split : ∀ (i : Nat) (q : SnQ), (lq ++ [(x, u, lu, w.heap.size)])[i]? = some q → (i < k ∧ lq[i]? = some q) ∨ (i = k ∧ q = (x, u, lu, w.heap.size)) := fun i q hq => by
    rcases Nat.lt_or_ge i k with hik | hik
    · rw [List.getElem?_append_left (by omega)] at hq; exact .inl ⟨hik, hq⟩
    · have hik' : i = k := by have := lt_of_get hq; simp at this; omega
      subst hik'
      rw [List.getElem?_append_right (by omega), h1] at hq
      simp at hq
      exact .inr ⟨rfl, hq.symm⟩
  refine ⟨lq ++ [(x, u, lu, w.heap.size)], _, by simp [h1], by rw [List.map_append, h2, List.take_add_one, hx]; rfl, B2, by simpa using h4, fun i q hq => ?_, fun i q hq => ?_, fun i j q r b hij hq hr hf => ?_⟩
  · rcases split i q hq with ⟨hik, hq⟩ | ⟨rfl, rfl⟩
    · obtain ⟨a, b⟩ := h5 i q hq
      exact ⟨by rw [cell, if_neg (by omega), if_neg (by omega)]; exact a, by rw [cell, if_neg (by omega), if_neg (by omega)]; exact b⟩
    · exact ⟨by rw [cell, if_neg (by omega), if_pos rfl], by rw [cell, if_pos rfl]⟩
  · rcases split i q hq with ⟨hik, hq⟩ | ⟨rfl, rfl⟩
    · exact h6'.1 i q hq
    · exact ⟨hns, hlu, hu.keepT K (by decide) (by decide), hs, hg⟩
  · rcases split j r hr with ⟨hjk, hr⟩ | ⟨rfl, rfl⟩
    · rcases split i q hq with ⟨hik, hq⟩ | ⟨rfl, rfl⟩
      · exact h6.2 i j q r b hij hq hr hf
      · omega
    · rcases split i q hq with ⟨hik, hq⟩ | ⟨rfl, rfl⟩
      · exact ((h6.1 i q hq).2.2.1.foot hf).2
      · omega
set_option maxRecDepth 4000 in
set_option maxHeartbeats 1000000 in
theorem toSnapS_c {v : Value} {l : List Sn} (w : World) (h : ASns w v l) (hb : bkSns l ≤ 1048576) :
    Calls Tryz.prog 57 #[v] w (RetP (fun u w' => ∃ lq, lq.map Prod.fst = l ∧ SnsU w.heap.size w' u lq) w) := by
  obtain ⟨A, c, rfl, hlc, ⟨hcm, hA⟩, hel⟩ := h
  have hl : l.length ≤ 1048576 := by unfold bkSns at hb; omega
  have hbd : Hid (∀ (k : Nat) (x : Sn), l[k]? = some x → x.name.size < lim ∧ bkIts x.tree ≤ 1048576) := Lib.hid fun k x hx => by
    have h1 := bks_take_le l (k + 1)
    rw [bks_take hx] at h1
    have hbk : bkSn x = x.name.size + bkIts x.tree := rfl
    unfold bkSns at hb; unfold lim; omega
  have hlim : Hid (l.length ≤ lim) := Lib.hid (by unfold lim; omega)
  obtain ⟨cs0, hcs, hmk⟩ := run_mk el_Sn l.length hlim.out
  have hex : ∃ n, l.length = n := ⟨_, rfl⟩
  obtain ⟨n, hn⟩ := hex
  rw [hn] at hl hmk hcs ⊢
  have Hn := Lib.hid hn
  have HE := Lib.hid hel
  have Hcs := Lib.hid hcs
  clear hel hlc hcm hA hn hcs hb
  go_enter Tryz.func57, Tryz.ntmps57
  go_wp2
  clear hmk
  go_loopw [4] (fun i wr => ∃ k : Nat, k ≤ n ∧ i = .int .i64 k ∧ Ext w wr ∧ Hid (RowSnU wr w.heap.size n l k)) (fun i _ => n - (intOf i).toNat)
  case atStart => exact ⟨0, by omega, rfl, (Ext.refl w).alloc _, Lib.hid ⟨[], cs0, rfl, rfl, Blk.new _ _ _, Hcs.out, fun i x hi => by simp at hi, fun i x hi => by simp at hi, fun i j q r b _ hi => by simp at hi⟩⟩
  case round =>
    obtain ⟨k, hk, rfl, he, hR⟩ := hrel
    by_cases hlt : k < n
    · obtain ⟨x, hx⟩ := get_of_lt (l := l) (k := k) (by rw [Hn.out]; exact hlt)
      obtain ⟨b, o, rfl, hc0, hps, u, hc1, hu⟩ := HE.out k x hx
      obtain ⟨hp1, hp2⟩ := hbd.out k x hx
      have Hs := Lib.hid (toSnap_c (x := x) wr ⟨_, rfl, hps, hu.ext he⟩ hp2)
      obtain ⟨Au, cu, rfl, -⟩ := hu
      have a0 := he.cell hc0; have a1 := he.cell hc1
      have Hx := Lib.hid hx; have Hp1 := Lib.hid hp1
      clear hc0 hc1 hx hps hp1 hp2
      go_wp2_with fail
      refine Hs.out.mono ?_
      rintro e w1 ⟨r, rfl, ⟨u, lu, rfl, hlu, hu, hSp⟩, he1⟩
      have ff := fun i => show w1.frozen? ⟨w.heap.size, i, none⟩ = false from by obtain ⟨lq, cs, -, -, h1, -⟩ := hR.out; exact (h1.ext he1).frozen i
      have dd : ∀ i, i < n * 2 → ∃ u, w1.cell? ⟨w.heap.size, i, none⟩ = some u := fun i hi => by
        obtain ⟨lq, cs, -, -, h1, h2, -⟩ := hR.out
        rw [(h1.ext he1).cell]; exact ⟨cs[i], by simp [h2, hi]⟩
      obtain ⟨z0, d0⟩ := dd (k * 2) (by omega); obtain ⟨z1, d1⟩ := dd (k * 2 + 1) (by omega)
      have f0 := ff (k * 2); have f1 := ff (k * 2 + 1)
      have Hu := Lib.hid hu; have Hlu := Lib.hid hlu; have HSp := Lib.hid hSp
      obtain ⟨A2, c2, rfl, -⟩ := hu
      clear ff dd hlu hSp a0 a1
      go_wp2
      go_roundw
      case rel => exact ⟨k + 1, by omega, by go_num, ((he.trans he1).setCell (Nat.le_refl _) _).setCell (Nat.le_refl _) _, Lib.hid (hR.out.put he1 Hx.out hlt Hp1.out Hlu.out Hu.out HSp.out)⟩
      case measure => simp [intOf]; omega
    · have hks : k = n := by omega
      subst hks
      go_wp2
      go_ret
      obtain ⟨lq, cs, h1, h2, h3, h4, h5, h6⟩ := hR.out
      exact ⟨.slice (some ⟨w.heap.size, 0, none⟩) k k, rfl, ⟨lq, by rw [h2]; exact List.take_of_length_le (by rw [Hn.out]; omega), w.heap.size, k, cs, by rw [h1], Nat.le_refl _, by rw [h1]; exact Nat.le_refl _, by unfold maxLen; omega, by rw [h1]; unfold lim; omega, h3, h5, h6⟩, he⟩
end Go.Sf
