/- Arguments that are sums: how large they are; copies of them, compared and marked. -/
import Derived.Test.YtphgnbjikgglmaaHG
import Derived.Test.YtphgnbjikgglmaaGC
import Derived.Test.YtphgnbjikgglmaaTA
set_option linter.all false
/-! Arguments that are sums: how large they are; copies of them, compared and marked. -/
namespace Go.Sf
open Go Go.RowKit Go.Proofs
def ACk (w : World) (b p : Nat) (x : Ck) : Prop := w.cell? ⟨b, p, none⟩ = some (.int .i64 x.id) ∧ inI x.id ∧ w.cell? ⟨b, p + 1, none⟩ = some (.int .i64 x.sum) ∧ inI x.sum
def ACks (w : World) (v : Value) (l : List Ck) : Prop := ASl 2 ACk w v l
theorem ACks.ext {w w' : World} {v : Value} {l : List Ck} (h : ACks w v l) (e : Ext w w') : ACks w' v l := ASl.ext h fun _ _ _ ⟨h1, h2, h3, h4⟩ => ⟨e.cell h1, h2, e.cell h3, h4⟩
set_option maxHeartbeats 1000000 in
theorem szCheckS_c {A : Option Addr} {n c : Nat} {left : Int} (w : World) (h0 : 0 ≤ left) (h1 : left ≤ 1048576) (hn : n ≤ maxLen) : Calls TryG.prog 17 #[.slice A n c, .int .i64 left] w (Ret (.int .i64 (dec left n)) w) := by
  unfold maxLen at hn
  by_cases h : left < n
  · have h2 : left - (n : Int) < 0 := by omega
    go_enter TryG.func17, TryG.ntmps17
    go_wp2
    go_ret
    exact ⟨ret_v (by rw [dec_neg (by omega)]; rfl), Ext.refl w⟩
  · have h2 : ¬ left - (n : Int) < 0 := by omega
    go_enter TryG.func17, TryG.ntmps17
    go_wp2
    go_ret
    exact ⟨ret_v (by rw [dec_pos (by omega)]; rfl), Ext.refl w⟩
set_option maxHeartbeats 1000000 in
theorem toCheck_c {x y : Int} (w : World) : Calls TryG.prog 45 #[.agg #[.int .i64 x, .int .i64 y]] w (Ret (.agg #[.int .i64 x, .int .i64 y]) w) := by
  have hb1 := Lib.hid (Blk.new w 75 #[.int .i64 x, .int .i64 y])
  go_enter TryG.func45, TryG.ntmps45
  go_wp2
  exact bodyPost_ret (v := .agg #[.int .i64 x, .int .i64 y]) (by simp [results, TryG.results45, go_sem]) rfl ⟨rfl, by (repeat' (first | exact Ext.refl _ | assumption | refine Ext.alloc ?_ _ | refine Ext.drew ?_ | refine Ext.drewN ?_ _))⟩
/-- a row of sums of the call's own: the first k are there -/
def RowCk (w : World) (g n : Nat) (l : List Ck) (k : Nat) : Prop := ∃ cs : Array Value, Blk w g 64 cs ∧ cs.size = n * 2 ∧ ∀ (i : Nat) (x : Ck), i < k → l[i]? = some x → cs[i * 2]? = some (.int .i64 x.id) ∧ cs[i * 2 + 1]? = some (.int .i64 x.sum)
theorem RowCk.put {w W : World} {g n k : Nat} {l : List Ck} {x : Ck} (h : RowCk w g n l k) (e : Ext w W) (hx : l[k]? = some x) (hk : k < n) :
    RowCk ((W.setCell ⟨g, k * 2, none⟩ (.int .i64 x.id)).setCell ⟨g, k * 2 + 1, none⟩ (.int .i64 x.sum)) g n l (k + 1) := by
  obtain ⟨cs, h3, h4, h5⟩ := h
  have B0 := h3.ext e
  have B1 := B0.set_ (k * 2) (.int .i64 x.id)
  have B2 := B1.set_ (k * 2 + 1) (.int .i64 x.sum)
  refine ⟨_, B2, by simpa using h4, fun i y hi hy => ?_⟩
  simp only [Array.getElem?_setIfInBounds, Array.size_setIfInBounds]
  rcases Nat.lt_or_ge i k with hik | hik
  · rw [if_neg (by omega), if_neg (by omega), if_neg (by omega), if_neg (by omega)]
    exact h5 i y hik hy
  · obtain rfl : i = k := by omega
    rw [hx] at hy
    cases hy
    rw [if_neg (by omega), if_pos rfl, if_pos (by omega), if_pos rfl, if_pos (by omega)]
    exact ⟨rfl, rfl⟩
set_option maxRecDepth 4000 in
set_option maxHeartbeats 1000000 in
theorem toCheckS_c {v : Value} {l : List Ck} (w : World) (h : ACks w v l) (hb : l.length ≤ 1048576) :
    Calls TryG.prog 19 #[v] w (RetP (fun u w' => u = .slice (some ⟨w.heap.size, 0, none⟩) l.length l.length ∧ Cks w.heap.size w' u l) w) := by
  obtain ⟨A, c, rfl, hlc, ⟨hcm, hA⟩, hel⟩ := h
  have hlim : Hid (l.length ≤ lim) := Lib.hid (by unfold lim; omega)
  have hin : Hid (∀ (k : Nat) (x : Ck), l[k]? = some x → inI x.id ∧ inI x.sum) := Lib.hid fun k x hx => by
    obtain ⟨b, o, -, -, h1, -, h2⟩ := hel k x hx
    exact ⟨h1, h2⟩
  obtain ⟨cs0, hcs, hmk⟩ := run_mk el_Ck l.length hlim.out
  have hex : ∃ n, l.length = n := ⟨_, rfl⟩
  obtain ⟨n, hn⟩ := hex
  rw [hn] at hb hmk hcs ⊢
  have Hn := Lib.hid hn
  have HE := Lib.hid hel
  have Hcs := Lib.hid hcs
  clear hel hlc hcm hA hn hcs
  go_enter TryG.func19, TryG.ntmps19
  go_wp2
  clear hmk
  go_loopw [4] (fun i wr => ∃ k : Nat, k ≤ n ∧ i = .int .i64 k ∧ Ext w wr ∧ Hid (RowCk wr w.heap.size n l k)) (fun i _ => n - (RowKit.intOf i).toNat)
  case atStart => exact ⟨0, by omega, rfl, (Ext.refl w).alloc _, Lib.hid ⟨cs0, Blk.new _ _ _, Hcs.out, fun i x hi => by omega⟩⟩
  case round =>
    obtain ⟨k, hk, rfl, he, hR⟩ := hrel
    by_cases hlt : k < n
    · obtain ⟨x, hx⟩ := get_of_lt (l := l) (k := k) (by rw [Hn.out]; exact hlt)
      obtain ⟨b, o, rfl, hc0, -, hc1, -⟩ := HE.out k x hx
      have a0 := he.cell hc0; have a1 := he.cell hc1
      have Hx := Lib.hid hx
      clear hc0 hc1 hx
      go_wp2_with fail
      refine (toCheck_c wr).mono ?_
      rintro e w1 ⟨rfl, he1⟩
      have ff := fun i => show w1.frozen? ⟨w.heap.size, i, none⟩ = false from by obtain ⟨cs, h1, -⟩ := hR.out; exact (h1.ext he1).frozen i
      have dd : ∀ i, i < n * 2 → ∃ u, w1.cell? ⟨w.heap.size, i, none⟩ = some u := fun i hi => by
        obtain ⟨cs, h1, h2, -⟩ := hR.out
        rw [(h1.ext he1).cell]; exact ⟨cs[i], by simp [h2, hi]⟩
      obtain ⟨z0, d0⟩ := dd (k * 2) (by omega); obtain ⟨z1, d1⟩ := dd (k * 2 + 1) (by omega)
      have f0 := ff (k * 2); have f1 := ff (k * 2 + 1)
      clear ff dd a0 a1
      go_wp2
      go_roundw
      case rel => exact ⟨k + 1, by omega, by go_num, ((he.trans he1).setCell (Nat.le_refl _) _).setCell (Nat.le_refl _) _, Lib.hid (hR.out.put he1 Hx.out hlt)⟩
      case measure => simp [RowKit.intOf]; omega
    · have hks : k = n := by omega
      subst hks
      go_wp2
      go_ret
      obtain ⟨cs, h1, h2, h3⟩ := hR.out
      refine ⟨_, rfl, ⟨rfl, ⟨some ⟨w.heap.size, 0, none⟩, k, by rw [Hn.out]; rfl, by rw [Hn.out]; exact Nat.le_refl _, ⟨by unfold maxLen; omega, fun h => by cases h⟩, by rw [Hn.out]; unfold lim; omega, fun i x hx => ?_⟩⟩, he⟩
      refine ⟨w.heap.size, 0, cs, rfl, Nat.le_refl _, h1, ?_⟩
      rw [Nat.zero_add]
      obtain ⟨q1, q2⟩ := h3 i x (by have := lt_of_get hx; have := Hn.out; omega) hx
      obtain ⟨p1, p2⟩ := hin.out i x hx
      exact ⟨q1, p1, q2, p2⟩
set_option maxHeartbeats 1000000 in
theorem laws_eqCheck_c {x y : Ck} (w : World) : Calls TryG.prog 47 #[.agg #[.int .i64 x.id, .int .i64 x.sum], .agg #[.int .i64 y.id, .int .i64 y.sum]] w (Ret (.bool (eqb x y)) w) := by
  obtain ⟨xi, xs⟩ := x
  obtain ⟨yi, ys⟩ := y
  simp only
  by_cases h1 : xi = yi
  · subst h1
    have e1 : (xi != xi) = false := by simp
    by_cases h2 : xs = ys
    · subst h2
      have e2 : (xs != xs) = false := by simp
      go_enter TryG.func47, TryG.ntmps47
      go_wp2
      go_ret
      exact ⟨ret_eqb (by simp), by (repeat' (first | exact Ext.refl _ | assumption | refine Ext.alloc ?_ _ | refine Ext.drew ?_ | refine Ext.drewN ?_ _))⟩
    · have e2 : (xs != ys) = true := by simpa using h2
      go_enter TryG.func47, TryG.ntmps47
      go_wp2
      go_ret
      exact ⟨ret_eqb (by simp [h2]), by (repeat' (first | exact Ext.refl _ | assumption | refine Ext.alloc ?_ _ | refine Ext.drew ?_ | refine Ext.drewN ?_ _))⟩
  · have e1 : (xi != yi) = true := by simpa using h1
    go_enter TryG.func47, TryG.ntmps47
    go_wp2
    go_ret
    exact ⟨ret_eqb (by simp [h1]), by (repeat' (first | exact Ext.refl _ | assumption | refine Ext.alloc ?_ _ | refine Ext.drew ?_ | refine Ext.drewN ?_ _))⟩
set_option maxHeartbeats 1000000 in
theorem laws_eqCheckS_c {B B' : Nat} {u v : Value} {xs ys : List Ck} (w : World) (h1 : Cks B w u xs) (h2 : Cks B' w v ys) :
    Calls TryG.prog 21 #[u, v] w (Ret (.bool (eqb xs ys)) w) := by
  obtain ⟨A, c, rfl, hA⟩ := h1
  obtain ⟨A', c', rfl, hA'⟩ := h2
  have hl := hA.2.2.1
  have hl' := hA'.2.2.1
  unfold lim at hl hl'
  generalize hn : xs.length = n at *
  generalize hm : ys.length = m at *
  have Hn := Lib.hid hn; clear hn
  have Hm := Lib.hid hm; clear hm
  have HA := Lib.hid hA; clear hA
  have HA' := Lib.hid hA'; clear hA'
  by_cases hne : n = m
  · subst hne
    go_enter TryG.func21, TryG.ntmps21
    go_wp2
    go_loopw [5] (fun i  wr => ∃ k : Nat, k ≤ n ∧ i = .int .i64 k ∧ Ext w wr ∧ Alike xs ys k) (fun i  _ => n - (RowKit.intOf i).toNat)
    case atStart => exact ⟨0, by omega, rfl, Ext.refl w, Alike.zero _ _⟩
    case round =>
      obtain ⟨k, hk, rfl, he, hal⟩ := hrel
      by_cases hlt : k < n
      · obtain ⟨x, hx⟩ := get_of_lt (l := xs) (k := k) (by rw [Hn.out]; exact hlt)
        obtain ⟨y, hy⟩ := get_of_lt (l := ys) (k := k) (by rw [Hm.out]; exact hlt)
        obtain ⟨b1, o1, rfl, -, -, -, -, hc01, hc11⟩ := Cks.at_ HA.out hx
        obtain ⟨b2, o2, rfl, -, -, -, -, hc02, hc12⟩ := Cks.at_ HA'.out hy
        have a0 := fun W (h : Ext wr W) => hc01 W (he.trans h)
        have d0 := fun W (h : Ext wr W) => hc02 W (he.trans h)
        have a1 := fun W (h : Ext wr W) => hc11 W (he.trans h)
        have d1 := fun W (h : Ext wr W) => hc12 W (he.trans h)
        have Hx := Lib.hid hx; have Hy := Lib.hid hy; have Hal := Lib.hid hal
        clear hc01 hc02 hc11 hc12 hx hy hal
        go_wp2
        refine wp_region_ext (by kernel_rfl) (by kernel_rfl) ?_
        repeat (first | (apply q_plain rfl; (· intro W eW; go_simp; (first | done | rfl | (rw [if_pos] <;> first | omega | rfl))); (try simp only [Act.put, List.setIfInBounds_toArray, List.set_cons_zero, List.set_cons_succ])) | (refine qg_skip (by rfl) ?_; (try simp only [Act.put, List.setIfInBounds_toArray, List.set_cons_zero, List.set_cons_succ])) | (apply qg_plain (by rfl); (· intro W eW; go_simp; (first | done | rfl | (rw [if_pos] <;> first | omega | rfl))); (try simp only [Act.put, List.setIfInBounds_toArray, List.set_cons_zero, List.set_cons_succ])))
        ((first | apply q_call rfl | apply qg_call (by rfl)); (· intro W eW; go_simp; (first | done | (constructor <;> rfl))); (· intro W eW; exact laws_eqCheck_c (x := x) (y := y) _); (try simp only [Act.put, List.setIfInBounds_toArray, List.set_cons_zero, List.set_cons_succ]))
        repeat (first | (apply q_plain rfl; (· intro W eW; go_simp; (first | done | rfl | (rw [if_pos] <;> first | omega | rfl))); (try simp only [Act.put, List.setIfInBounds_toArray, List.set_cons_zero, List.set_cons_succ])) | (refine qg_skip (by rfl) ?_; (try simp only [Act.put, List.setIfInBounds_toArray, List.set_cons_zero, List.set_cons_succ])) | (apply qg_plain (by rfl); (· intro W eW; go_simp; (first | done | rfl | (rw [if_pos] <;> first | omega | rfl))); (try simp only [Act.put, List.setIfInBounds_toArray, List.set_cons_zero, List.set_cons_succ])))
        refine q_nil ?_
        intro w2 e2
        have e3 := he.trans e2
        clear a0 d0 a1 d1
        go_wp2
        · have hxy : eqb x y = false := by have q : (!eqb x y) = true := by assumption
                                           simpa using q
          go_ret
          exact ⟨ret_eqb (by simp [ne_of_get Hx.out Hy.out (eqb_false.1 hxy)]), e3⟩
        · have hxy : eqb x y = true := by have q : (!eqb x y) = false := by assumption
                                          simpa using q
          have hxy : x = y := eqb_true.1 hxy
          go_roundw
          case rel => exact ⟨k + 1, by omega, by go_num, e3, Hal.out.succ Hx.out (by rw [Hy.out, hxy])⟩
          case measure => simp [RowKit.intOf]; omega
      · have : k = n := by omega
        subst this
        have hal := Lib.hid hal
        go_wp2
        go_ret
        exact ⟨ret_eqb (by simp [eq_of_get Hn.out Hm.out hal.out]), he⟩
  · have hne' : ((n : Int) != (m : Int)) = true := by simp; omega
    go_enter TryG.func21, TryG.ntmps21
    go_wp2
    go_ret
    refine ⟨ret_eqb ?_, Ext.refl w⟩
    have : xs ≠ ys := by rintro rfl; exact hne (Hn.out.symm.trans Hm.out)
    simp [this]
set_option maxRecDepth 4000 in
set_option maxHeartbeats 2000000 in
theorem markCheckS_c {B : Nat} {v : Value} {l : List Ck} {k : Int} (w : World) (h : Cks B w v l) (h0 : 1 ≤ k) (h1 : k + 2 * (l.length : Nat) ≤ 1152921504606846976) :
    Calls TryG.prog 23 #[v, .int .i64 k] w (RetM (fun b => v.ownBlock = some b ∧ l ≠ []) (.int .i64 (k + 2 * (l.length : Nat))) (fun _ => True) w) := by
  obtain ⟨A, c, rfl, hA⟩ := h
  have hl := hA.2.2.1
  unfold lim at hl
  have hex : ∃ n, l.length = n := ⟨_, rfl⟩
  obtain ⟨n, hn⟩ := hex
  rw [hn] at hl h1 ⊢
  have Hn := Lib.hid hn
  have HA := Lib.hid hA
  have H1 := Lib.hid h1
  clear hA hn h1
  go_enter TryG.func23, TryG.ntmps23
  go_wp2
  go_loopw [1, 5] (fun q i wr => ∃ j : Nat, j ≤ n ∧ i = .int .i64 j ∧ q = .int .i64 (k + 2 * (j : Nat)) ∧ Hid ((∃ b o cs, A = some ⟨b, o, none⟩ ∧ Blk wr b 64 cs ∧ o + n * 2 ≤ cs.size) ∨ l = []) ∧ Hid (Mod (fun b => (Value.slice A n c).ownBlock = some b ∧ l ≠ []) w wr)) (fun _ i _ => n - (RowKit.intOf i).toNat)
  case atStart =>
    refine ⟨0, by omega, rfl, by simp, Lib.hid ?_, Lib.hid (Mod.refl _ _)⟩
    by_cases hz : n = 0
    · exact .inr (List.length_eq_zero_iff.1 (Hn.out.trans hz))
    · obtain ⟨x, hx⟩ := get_of_lt (l := l) (k := n - 1) (by rw [Hn.out]; omega)
      obtain ⟨b, o, cs, e1, -, e3, -, -, q1, -⟩ := HA.out.2.2.2 (n - 1) x hx
      have := (Array.getElem?_eq_some_iff.1 q1).1
      exact .inl ⟨b, o, cs, e1, e3, by omega⟩
  case round =>
    obtain ⟨j, hj, rfl, rfl, hB, hM⟩ := hrel
    by_cases hlt : j < n
    · have hne : l ≠ [] := fun e => by have := Hn.out; rw [e] at this; simp at this; omega
      obtain ⟨b, o, cs, rfl, hb, hsz⟩ := hB.out.resolve_right hne
      have d0 : wr.cell? ⟨b, o + j * 2, none⟩ = some (cs[o + j * 2]'(by omega)) := by rw [hb.cell]; simp
      have f0 := hb.frozen (o + j * 2)
      have hb2 := hb.set_ (o + j * 2) (.int .i64 (k + 2 * (j : Nat)))
      have d1 : (wr.setCell ⟨b, o + j * 2, none⟩ (.int .i64 (k + 2 * (j : Nat)))).cell? ⟨b, o + j * 2 + 1, none⟩ = some (cs[o + j * 2 + 1]'(by omega)) := by
        rw [hb2.cell, Array.getElem?_setIfInBounds, if_neg (by omega)]
        simp
      have f1 := hb2.frozen (o + j * 2 + 1)
      have hb3 := hb2.set_ (o + j * 2 + 1) (.int .i64 (k + 2 * (j : Nat) + 1))
      have HB3 : Hid ((∃ b' o' cs, (some ⟨b, o, none⟩ : Option Addr) = some ⟨b', o', none⟩ ∧ Blk ((wr.setCell ⟨b, o + j * 2, none⟩ (.int .i64 (k + 2 * (j : Nat)))).setCell ⟨b, o + j * 2 + 1, none⟩ (.int .i64 (k + 2 * (j : Nat) + 1))) b' 64 cs ∧ o' + n * 2 ≤ cs.size) ∨ l = []) := Lib.hid (.inl ⟨b, o, _, rfl, hb3, by simpa using hsz⟩)
      have HM3 := Lib.hid ((hM.out.trans (Mod.set (p := ⟨b, o + j * 2, none⟩) ⟨rfl, hne⟩ (.int .i64 (k + 2 * (j : Nat))))).trans (Mod.set (p := ⟨b, o + j * 2 + 1, none⟩) ⟨rfl, hne⟩ (.int .i64 (k + 2 * (j : Nat) + 1))))
      have ew1 : IntKind.i64.wrap (k + 2 * (j : Int) + 1) = k + 2 * (j : Int) + 1 := by have := H1.out; rw [IntKind.wrap_i64]; omega
      have ew2 : IntKind.i64.wrap (k + 2 * (j : Int) + 1 + 1) = k + 2 * (j : Int) + 1 + 1 := by have := H1.out; rw [IntKind.wrap_i64]; omega
      have ew3 : RowKit.wrap64 (k + 2 * (j : Int) + 1) = k + 2 * (j : Int) + 1 := by have := H1.out; unfold RowKit.wrap64; omega
      have ew4 : RowKit.wrap64 (k + 2 * (j : Int) + 1 + 1) = k + 2 * (j : Int) + 1 + 1 := by have := H1.out; unfold RowKit.wrap64; omega
      clear hb hb2 hb3 hM hB
      go_wp2
      go_roundw
      case rel => exact ⟨j + 1, by omega, by go_num, by simp; omega, HB3, HM3⟩
      case measure => simp [RowKit.intOf]; omega
    · have hjs : j = n := by omega
      subst hjs
      go_wp2
      go_ret
      exact ⟨rfl, trivial, hM.out⟩
end Go.Sf

/-! The laws of mending, plain. -/
namespace Go.Sf
theorem mendOf_some {l : List Hd} {cs : List Ck} {o : List Hd} {out : List Hd} {n : Nat} (h : mendOf l cs o = some (out, n)) : StoreOk l ∧ StoreOk o ∧ CksOk cs ∧ StoreOk out ∧ out = mendL o l cs ∧ n = mendN o l cs := by
  unfold mendOf at h
  split at h
  · next hc =>
    obtain ⟨h1, h2⟩ := hc
    rw [Bool.and_eq_true, Bool.and_eq_true] at h1
    simp only [Option.some.injEq, Prod.mk.injEq] at h
    obtain ⟨rfl, rfl⟩ := h
    exact ⟨storeOk_iff.1 h1.1, storeOk_iff.1 h1.2.1, cksOk_iff.1 h1.2.2, storeOk_iff.1 h2, rfl, rfl⟩
  · cases h
theorem mendOf_of {l : List Hd} {cs : List Ck} {o : List Hd} (h1 : StoreOk l) (h2 : StoreOk o) (h3 : CksOk cs) (h4 : StoreOk (mendL o l cs)) : mendOf l cs o = some (mendL o l cs, mendN o l cs) := by
  unfold mendOf
  rw [if_pos ⟨by rw [storeOk_iff.2 h1, storeOk_iff.2 h2, cksOk_iff.2 h3]; rfl, storeOk_iff.2 h4⟩]
theorem badOf_of {l : List Hd} {cs : List Ck} (h1 : StoreOk l) (h3 : CksOk cs) : badOf l cs = badL l cs := by
  unfold badOf
  rw [storeOk_iff.2 h1, cksOk_iff.2 h3]
  rfl
/-- where nothing is to be taken -/
theorem mend_none {o l : List Hd} {cs : List Ck} (hs : StoreOk l) (hk : CksOk cs) (h : ∀ c, c ∈ cs → mendAt o l c = false) : mendL o l cs = l ∧ mendN o l cs = 0 := by
  refine ⟨?_, ?_⟩
  · unfold mendL
    have : ∀ x, x ∈ l → mdH o cs x = x := fun x hx => by
      unfold mdH
      cases hf : ckFind cs x.id with
      | none => rfl
      | some c =>
        have hc := List.mem_of_find?_eq_some hf
        have hi : c.id = x.id := eqb_true.1 (List.find?_some (p := ckIs x.id) hf)
        obtain ⟨j, hj⟩ := List.mem_iff_getElem?.1 hx
        have hfx := hs.find hj
        have hm := h c hc
        have hg : goodC l c = eqb (blkSum x.bytes) c.sum := by unfold goodC; rw [hi, hfx]
        unfold mendAt at hm
        rw [hi, hfx, hg] at hm
        simp only
        rw [if_neg]
        intro h2
        rw [h2] at hm
        cases hm
    rw [List.map_congr_left this, List.map_id']
  · unfold mendN
    rw [List.length_eq_zero_iff, List.filter_eq_nil_iff]
    intro c hc
    rw [h c hc]
    simp
theorem mem_ix {cs : List Ck} {c : Ck} (h : c ∈ cs) : ∃ k : Nat, cs[k]? = some c := List.mem_iff_getElem?.1 h
/-- what is good behind mending -/
theorem good_after {o l : List Hd} {cs : List Ck} (hk : CksOk cs) {c : Ck} (hc : c ∈ cs) : goodC (mendL o l cs) c = (goodC l c || mendAt o l c) := by
  obtain ⟨k, hck⟩ := mem_ix hc
  have hfc := ckFind_mem hk hck
  have e : findH (mendL o l cs) c.id = (findH l c.id).map (mdH o cs) := findH_map _ _ (mdH_id o cs) _
  cases hf : findH l c.id with
  | none =>
    unfold mendAt goodC
    rw [e, hf]
    rfl
  | some x =>
    have hxi := (findH_some hf).2
    have hg : goodC l c = eqb (blkSum x.bytes) c.sum := by unfold goodC; rw [hf]
    have hm : mendAt o l c = (!goodC l c && goodC o c) := by unfold mendAt; rw [hf]; rfl
    have hg2 : goodC (mendL o l cs) c = eqb (blkSum (mdH o cs x).bytes) c.sum := by
      conv => lhs; unfold goodC
      rw [e, hf]
      rfl
    have hmd : mdH o cs x = if (!eqb (blkSum x.bytes) c.sum && goodC o c) = true then { x with bytes := bytesH o c.id } else x := by
      unfold mdH
      rw [hxi, hfc]
    rw [hg2, hmd, hm, hg]
    cases h1 : eqb (blkSum x.bytes) c.sum with
    | true => simp [h1]
    | false =>
      cases h2 : goodC o c with
      | false => simp [h1]
      | true =>
        have h3 := h2
        unfold goodC at h3
        cases hfo : findH o c.id with
        | none => rw [hfo] at h3; cases h3
        | some y =>
          rw [hfo] at h3
          have hb : bytesH o c.id = y.bytes := by unfold bytesH; rw [hfo]
          simp [hb, h3]
theorem mend_twice {o l : List Hd} {cs : List Ck} (hk : CksOk cs) : ∀ c, c ∈ cs → mendAt o (mendL o l cs) c = false := fun c hc => by
  have h1 := good_after (o := o) (l := l) hk hc
  unfold mendAt
  rw [h1]
  cases hg : goodC l c with
  | true => simp
  | false =>
    cases h2 : goodC o c with
    | false => simp
    | true =>
      cases hf : findH (mendL o l cs) c.id with
      | none => rfl
      | some x =>
        have e : findH (mendL o l cs) c.id = (findH l c.id).map (mdH o cs) := findH_map _ _ (mdH_id o cs) _
        rw [hf] at e
        have : (findH l c.id).isSome = true := by
          cases hl : findH l c.id with
          | none => rw [hl] at e; cases e
          | some y => rfl
        unfold mendAt
        rw [this, hg, h2]
        rfl
theorem mend_self (l : List Hd) (c : Ck) : mendAt l l c = false := by
  unfold mendAt
  cases goodC l c <;> simp
/-- how many are bad behind mending -/
theorem bad_after {o l : List Hd} {cs : List Ck} (hk : CksOk cs) : (badL l cs).length = (badL (mendL o l cs) cs).length + mendN o l cs := by
  unfold badL mendN
  rw [List.length_map, List.length_map]
  have key : ∀ ds : List Ck, (∀ c, c ∈ ds → c ∈ cs) → (ds.filter fun c => !goodC l c).length = (ds.filter fun c => !goodC (mendL o l cs) c).length + (ds.filter (mendAt o l)).length := by
    intro ds
    induction ds with
    | nil => intro _; rfl
    | cons c ds ih =>
      intro h
      have ih := ih fun d hd => h d (List.mem_cons_of_mem _ hd)
      have hg := good_after (o := o) (l := l) hk (h c List.mem_cons_self)
      simp only [List.filter_cons, hg]
      cases h1 : goodC l c with
      | true =>
        have h2 : mendAt o l c = false := by unfold mendAt; rw [h1]; simp
        simp only [h2]
        simpa using ih
      | false =>
        cases h2 : mendAt o l c with
        | true => simp; omega
        | false => simp; omega
  exact key cs fun _ h => h
/-- where a sum is good, or none is told, a block stays -/
theorem mend_others {o l : List Hd} {cs : List Ck} (hs : StoreOk l) {i : Nat} {x : Hd} (hx : l[i]? = some x) (hb : x.id ∉ badL l cs) : mdH o cs x = x := by
  unfold mdH
  cases hf : ckFind cs x.id with
  | none => rfl
  | some c =>
    have hc := List.mem_of_find?_eq_some hf
    have hi : c.id = x.id := eqb_true.1 (List.find?_some (p := ckIs x.id) hf)
    have hfx := hs.find hx
    have hg : goodC l c = true := by
      cases h1 : goodC l c with
      | true => rfl
      | false =>
        exfalso
        apply hb
        unfold badL
        rw [List.mem_map]
        exact ⟨c, List.mem_filter.2 ⟨hc, by rw [h1]; rfl⟩, hi⟩
    have hg2 : goodC l c = eqb (blkSum x.bytes) c.sum := by unfold goodC; rw [hi, hfx]
    simp only
    rw [← hg2, hg]
    rfl
/-- from a good store all is mended -/
theorem mend_all {o l : List Hd} {cs : List Ck} (hk : CksOk cs) (ho : badL o cs = []) {i : Int} (hi : i ∈ badL (mendL o l cs) cs) : findH (mendL o l cs) i = none := by
  unfold badL at hi
  rw [List.mem_map] at hi
  obtain ⟨c, hc, rfl⟩ := hi
  rw [List.mem_filter] at hc
  obtain ⟨hc, hb⟩ := hc
  have hgo : goodC o c = true := by
    cases h1 : goodC o c with
    | true => rfl
    | false =>
      exfalso
      have : c.id ∈ badL o cs := by
        unfold badL
        rw [List.mem_map]
        exact ⟨c, List.mem_filter.2 ⟨hc, by rw [h1]; rfl⟩, rfl⟩
      rw [ho] at this
      cases this
  have hm := mend_twice (o := o) (l := l) hk c hc
  cases hf : findH (mendL o l cs) c.id with
  | none => rfl
  | some x =>
    exfalso
    unfold mendAt at hm
    rw [hf, hgo] at hm
    rw [show goodC (mendL o l cs) c = false by simpa using hb] at hm
    cases hm
end Go.Sf
