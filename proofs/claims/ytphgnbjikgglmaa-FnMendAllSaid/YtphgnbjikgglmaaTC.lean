/- A store is drawn. -/
import Derived.Test.YtphgnbjikgglmaaTB
import Derived.Test.YtphgnbjikgglmaaGG
set_option linter.all false
/-! A store is drawn. -/
namespace Go.Sf
open Go Go.RowKit Go.Proofs
/-- a row of ints, read -/
theorem ints_of_blk {B g : Nat} {W : World} {cs : Array Value} {xs : List Int} (hb : Blk W g 3 cs) (hg : B ≤ g) (hc : cs.toList = xs.map (Value.int .i64)) (hi : ∀ x, x ∈ xs → inI x) (hl : xs.length ≤ lim) : Ints B W (.slice (some ⟨g, 0, none⟩) xs.length xs.length) xs := by
  refine ⟨_, _, rfl, Nat.le_refl _, ⟨by unfold lim at hl; unfold maxLen; omega, fun h => by cases h⟩, hl, fun k x hx => ⟨g, 0, cs, rfl, hg, hb, ?_, hi x (List.mem_of_getElem? hx)⟩⟩
  rw [Nat.zero_add, Nat.mul_one, ← Array.getElem?_toList, hc, List.getElem?_map, hx]
  rfl
theorem wrap64_inI (n : Int) : inI (RowKit.wrap64 n) := by unfold inI; unfold RowKit.wrap64; omega
/-- a store is drawn: few blocks, each of some bytes -/
def Few (l : List Hd) : Prop := l.length ≤ 16 ∧ ∀ (k : Nat) (x : Hd), l[k]? = some x → 1 ≤ x.bytes.length ∧ x.bytes.length ≤ 8
def DrewH (rb : Nat) (w : World) (q : Int) (e : Ending) (w' : World) : Prop := ∃ v l q', e = .returned v ∧ OwnS w.heap.size 35 3 (EHd w.heap.size) w' v l ∧ Few l ∧ Rd rb w' q' ∧ q ≤ q' ∧ q' ≤ q + 300 ∧ ExtR rb w w'
theorem Few.snoc {l : List Hd} (h : Few l) (hl : l.length ≤ 15) {x : Hd} (hx : 1 ≤ x.bytes.length ∧ x.bytes.length ≤ 8) : Few (l ++ [x]) := by
  refine ⟨by simp; omega, fun k y hy => ?_⟩
  rw [List.getElem?_append] at hy
  split at hy
  · exact h.2 k y hy
  · have := List.mem_of_getElem? hy
    rw [List.mem_singleton] at this
    subst this
    exact hx
theorem Few.set {l : List Hd} (h : Few l) {i : Nat} {x : Hd} (hx : 1 ≤ x.bytes.length ∧ x.bytes.length ≤ 8) : Few (l.set i x) := by
  refine ⟨by simpa using h.1, fun k y hy => ?_⟩
  rw [List.getElem?_set] at hy
  split at hy
  · split at hy
    · cases hy; exact hx
    · cases hy
  · exact h.2 k y hy
/-- a cell of a row of the call's own is written: the rows of other types stay -/
theorem OwnS.setKeeps {α : Type} {base t sz : Nat} {E : World → Array Value → Nat → α → Prop} {w : World} {g n c : Nat} {l : List α} (h : OwnS base t sz E w (.slice (some ⟨g, 0, none⟩) n c) l) (i : Nat) (u : Value) : KeepsT t w (w.setCell ⟨g, i, none⟩ u) := by
  obtain ⟨xs, ⟨-, h2⟩, -⟩ := h
  rcases h2 with ⟨h3, -⟩ | ⟨g', cap, cur, h3, -, hh, -⟩
  · cases h3
  · simp only [Value.slice.injEq, Option.some.injEq, Addr.mk.injEq, and_true] at h3
    obtain ⟨rfl, -⟩ := h3
    exact KeepsT.set (i := i) (show Blk w g t cur from hh) u rfl
-- MARK
set_option maxRecDepth 8000 in
set_option maxHeartbeats 8000000 in
theorem l91Store_c {rb : Nat} {w : World} {q : Int} (h : Rd rb w q) (hq : q ≤ 10000000000) : Calls TryG.prog 26 #[.pointer (some ⟨rb, 0, none⟩)] w (DrewH rb w q) := by
  have H := Lib.hid h
  have hrb := h.lt
  clear h
  go_enter TryG.func26, TryG.ntmps26
  go_wp2_with fail
  have e1 := (Ext.refl w).alloc (.cells #[] 35)
  have HO0 := Lib.hid (OwnS.lit0 35 3 (EHd w.heap.size) w (Nat.le_refl _))
  have HE0 := Lib.hid (e1.toR rb)
  have HR0 := Lib.hid (H.out.ext e1)
  generalize w.alloc (.cells #[] 35) = w1 at *
  go_wp2_with fail
  refine (pick_c 6 HR0.out (by omega) (by omega)).mono ?_
  rintro e w2 ⟨z, rfl, hz0, hz1, -, hR, he⟩
  have HO1 := Lib.hid (HO0.out.hd (Nat.le_refl _) (HR0.out.keepsT he) (by decide) (by decide))
  have HE1 := Lib.hid (HE0.out.trans he)
  have he1 := Lib.hid he
  have HR1 := Lib.hid hR
  have hz1 := hz1 (by omega)
  clear hR he
  go_wp2_with fail
  refine (pick_c 16 HR1.out (by omega) (by omega)).mono ?_
  rintro e w3 ⟨y, rfl, hy0, hy1, -, hR, he⟩
  have HO2 := Lib.hid (HO1.out.hd (Nat.le_refl _) (HR1.out.keepsT he) (by decide) (by decide))
  have HE2 := Lib.hid (HE1.out.trans he)
  have he2 := Lib.hid he
  have HR2 := Lib.hid hR
  have hy1 := hy1 (by omega)
  clear hR he
  by_cases hy : y = 0
  · subst hy
    go_wp2
    go_loopw [3, 5, 6] (fun v i5 i wr => ∃ (k : Nat) (L : List Hd) (q2 id : Int), k ≤ 16 ∧ (k : Int) ≤ 16 ∧ i = .int .i64 k ∧ i5 = .int .i64 id ∧ inI id ∧ OwnS w.heap.size 35 3 (EHd w.heap.size) wr v L ∧ L.length = k ∧ Few L ∧ Rd rb wr q2 ∧ q ≤ q2 ∧ q2 ≤ q + 2 + 6 * k ∧ ExtR rb w wr) (fun _ _ i _ => 40 - (RowKit.intOf i).toNat)
    case atStart => exact ⟨0, [], _, 1, by omega, by omega, rfl, rfl, by unfold inI; omega, HO2.out, rfl, ⟨by simp, fun k x h => by simp at h⟩, HR2.out, by omega, by omega, HE2.out⟩
    case round =>
      obtain ⟨k, L, q2, id, hk, hkn, rfl, rfl, hid, hO, hl, hF, hR, hqa, hqb, hE⟩ := hrel
      obtain ⟨Ao, co, hAo⟩ := hO.form
      rw [hl] at hAo
      subst hAo
      have HO3 := Lib.hid hO; have HR3 := Lib.hid hR; have HE3 := Lib.hid hE; have Hl := Lib.hid hl; have HF := Lib.hid hF
      clear hO hR hE hl hF
      by_cases hlt : (k : Int) < 16
      · skip
        go_wp2_with fail
        refine (pick_c 2 HR3.out (by omega) (by omega)).mono ?_
        rintro e w4 ⟨v1, rfl, hv10, hv11, -, hR, he⟩
        have HO4 := Lib.hid (HO3.out.hd (Nat.le_refl _) (HR3.out.keepsT he) (by decide) (by decide))
        have HE4 := Lib.hid (HE3.out.trans he)
        have he4 := Lib.hid he
        have HR4 := Lib.hid hR
        have hv11 := hv11 (by omega)
        clear hR he
        go_wp2_with fail
        refine (pick_c 3 HR4.out (by omega) (by omega)).mono ?_
        rintro e w5 ⟨v2, rfl, hv20, hv21, -, hR, he⟩
        have HO5 := Lib.hid (HO4.out.hd (Nat.le_refl _) (HR4.out.keepsT he) (by decide) (by decide))
        have HE5 := Lib.hid (HE4.out.trans he)
        have he5 := Lib.hid he
        have HR5 := Lib.hid hR
        have hv21 := hv21 (by omega)
        clear hR he
        go_wp2_with fail
        refine (pick_c 256 HR5.out (by omega) (by omega)).mono ?_
        rintro e w6 ⟨v3, rfl, hv30, hv31, -, hR, he⟩
        have HO6 := Lib.hid (HO5.out.hd (Nat.le_refl _) (HR5.out.keepsT he) (by decide) (by decide))
        have HE6 := Lib.hid (HE5.out.trans he)
        have he6 := Lib.hid he
        have HR6 := Lib.hid hR
        have hv31 := hv31 (by omega)
        clear hR he
        have HO6a := Lib.hid (HO6.out.ext (EHd_ok _) ((Ext.refl w6).alloc (.cells #[.int .i64 k, .int .i64 v2, .int .i64 v3] 3)))
        have HE6a := Lib.hid (HE6.out.extend ((Ext.refl w6).alloc (.cells #[.int .i64 k, .int .i64 v2, .int .i64 v3] 3)))
        have HR6a := Lib.hid (HR6.out.ext ((Ext.refl w6).alloc (.cells #[.int .i64 k, .int .i64 v2, .int .i64 v3] 3)))
        have HB6a : Hid (Ints w.heap.size (w6.alloc (.cells #[.int .i64 k, .int .i64 v2, .int .i64 v3] 3)) (.slice (some ⟨w6.heap.size, 0, none⟩) ([(k : Int), v2, v3] : List Int).length ([(k : Int), v2, v3] : List Int).length) [(k : Int), v2, v3]) := Lib.hid (ints_of_blk (Blk.new w6 _ _) HE6.out.size rfl (by intro x hx; simp at hx; rcases hx with rfl | rfl | rfl <;> (unfold inI; omega)) (by simp; unfold lim; omega))
        go_wp2_with fail
        generalize hWA : w6.alloc (.cells #[.int .i64 k, .int .i64 v2, .int .i64 v3] 3) = wA at *
        clear hWA
        go_wp2_with fail
        refine (pick_c 2 HR6a.out (by omega) (by omega)).mono ?_
        rintro e w7 ⟨v4, rfl, hv40, hv41, -, hR, he⟩
        have HO7 := Lib.hid (HO6a.out.hd (Nat.le_refl _) (HR6a.out.keepsT he) (by decide) (by decide))
        have HB7 := Lib.hid (HB6a.out.keepT (HR6a.out.keepsT he) (by decide))
        have HE7 := Lib.hid (HE6a.out.trans he)
        have he7 := Lib.hid he
        have HR7 := Lib.hid hR
        have hv41 := hv41 (by omega)
        clear hR he
        by_cases h4 : v4 = 0
        · subst h4
          go_wp2_with fail
          refine (pick_c 256 HR7.out (by omega) (by omega)).mono ?_
          rintro e w7b ⟨v5, rfl, hv50, hv51, -, hR, he⟩
          have HO7b := Lib.hid (HO7.out.hd (Nat.le_refl _) (HR7.out.keepsT he) (by decide) (by decide))
          have HE7b := Lib.hid (HE7.out.trans he)
          have he7b := Lib.hid he
          have HR7b := Lib.hid hR
          have hv51 := hv51 (by omega)
          clear hR he
          have HO7c := Lib.hid (HO7b.out.ext (EHd_ok _) ((Ext.refl w7b).alloc (.cells #[.int .i64 k, .int .i64 1, .int .i64 2, .int .i64 3, .int .i64 4, .int .i64 5, .int .i64 6, .int .i64 v5] 3)))
          have HE7c := Lib.hid (HE7b.out.extend ((Ext.refl w7b).alloc (.cells #[.int .i64 k, .int .i64 1, .int .i64 2, .int .i64 3, .int .i64 4, .int .i64 5, .int .i64 6, .int .i64 v5] 3)))
          have HR7c := Lib.hid (HR7b.out.ext ((Ext.refl w7b).alloc (.cells #[.int .i64 k, .int .i64 1, .int .i64 2, .int .i64 3, .int .i64 4, .int .i64 5, .int .i64 6, .int .i64 v5] 3)))
          have HB7c : Hid (Ints w.heap.size (w7b.alloc (.cells #[.int .i64 k, .int .i64 1, .int .i64 2, .int .i64 3, .int .i64 4, .int .i64 5, .int .i64 6, .int .i64 v5] 3)) (.slice (some ⟨w7b.heap.size, 0, none⟩) ([(k : Int), 1, 2, 3, 4, 5, 6, v5] : List Int).length ([(k : Int), 1, 2, 3, 4, 5, 6, v5] : List Int).length) [(k : Int), 1, 2, 3, 4, 5, 6, v5]) := Lib.hid (ints_of_blk (Blk.new w7b _ _) HE7b.out.size rfl (by intro x hx; simp at hx; rcases hx with rfl | rfl | rfl | rfl | rfl | rfl | rfl | rfl <;> (unfold inI; omega)) (by simp; unfold lim; omega))
          go_wp2_with fail
          generalize hWB : w7b.alloc (.cells #[.int .i64 k, .int .i64 1, .int .i64 2, .int .i64 3, .int .i64 4, .int .i64 5, .int .i64 6, .int .i64 v5] 3) = wB at *
          clear hWB
          go_wp2_with fail
          refine (pick_c 3 HR7c.out (by omega) (by omega)).mono ?_
          rintro e w8 ⟨v6, rfl, hv60, hv61, -, hR, he⟩
          have HOQ := Lib.hid (HO7c.out.hd (Nat.le_refl _) (HR7c.out.keepsT he) (by decide) (by decide))
          have HBQ := Lib.hid (HB7c.out.keepT (HR7c.out.keepsT he) (by decide))
          have HEQ := Lib.hid (HE7c.out.trans he)
          have heQ := Lib.hid he
          have HRQ := Lib.hid hR
          have hv61 := hv61 (by omega)
          clear hR he
          have hbl : 1 ≤ ([(k : Int), 1, 2, 3, 4, 5, 6, v5] : List Int).length ∧ ([(k : Int), 1, 2, 3, 4, 5, 6, v5] : List Int).length ≤ 8 := by simp
          go_wp2_with (at_builtin; go_must (refine wp_ap1G (B := w.heap.size) (by rfl) _ _ (by rfl) el_Hd (EHd_ok _) HEQ.out.size _ L [⟨RowKit.wrap64 (id + v1), [(k : Int), 1, 2, 3, 4, 5, 6, v5], 1 + v6⟩] (by rfl) HOQ.out 1 1 rfl #[.int .i64 (RowKit.wrap64 (id + v1)), .slice (some ⟨w7b.heap.size, 0, none⟩) 8 8, .int .i64 (1 + v6)] _ (by rfl) (by first | rfl | simp) rfl (oneHd rfl) (one_E (ehd_of (x := ⟨RowKit.wrap64 (id + v1), [(k : Int), 1, 2, 3, 4, 5, 6, v5], 1 + v6⟩) (wrap64_inI _) HBQ.out (by unfold inI; simp only; omega))) ?_ ?_))
          · have := Hl.out; (try simp); unfold lim; omega
          · intro v9 w9 hO9 hg9 hk9
            have hE9 := (HOQ.out.ext (EHd_ok _) ((Ext.refl _).alloc _)).grown_extR (HEQ.out.extend ((Ext.refl _).alloc _)) hg9
            have HR9 := Lib.hid (HRQ.out.keepT hk9 (by decide) (HEQ.out.low hE9 hrb))
            have hlen9 : (L ++ [(⟨RowKit.wrap64 (id + v1), [(k : Int), 1, 2, 3, 4, 5, 6, v5], 1 + v6⟩ : Hd)]).length = k + 1 := by rw [List.length_append, Hl.out]; rfl
            have hf9 := HF.out.snoc (by have := Hl.out; omega) (x := ⟨RowKit.wrap64 (id + v1), [(k : Int), 1, 2, 3, 4, 5, 6, v5], 1 + v6⟩) hbl
            generalize L ++ [(⟨RowKit.wrap64 (id + v1), [(k : Int), 1, 2, 3, 4, 5, 6, v5], 1 + v6⟩ : Hd)] = L9 at *
            have HO9 := Lib.hid hO9; have HE9 := Lib.hid hE9; have Hl9 := Lib.hid hlen9; have HF9 := Lib.hid hf9
            clear hO9 hg9 hk9 hE9 hlen9 hf9
            go_wp2
            go_roundw
            case rel => exact ⟨k + 1, L9, _, _, by omega, by omega, by go_num, rfl, wrap64_inI _, HO9.out, Hl9.out, HF9.out, HR9.out, by omega, by omega, HE9.out⟩
            case measure => simp [RowKit.intOf]; omega
        · have e4 : (v4 == 0) = false := by rw [beq_eq_false_iff_ne]; exact h4
          go_wp2_with fail
          refine (pick_c 3 HR7.out (by omega) (by omega)).mono ?_
          rintro e w8 ⟨v6, rfl, hv60, hv61, -, hR, he⟩
          have HOQ := Lib.hid (HO7.out.hd (Nat.le_refl _) (HR7.out.keepsT he) (by decide) (by decide))
          have HBQ := Lib.hid (HB7.out.keepT (HR7.out.keepsT he) (by decide))
          have HEQ := Lib.hid (HE7.out.trans he)
          have heQ := Lib.hid he
          have HRQ := Lib.hid hR
          have hv61 := hv61 (by omega)
          clear hR he
          have hbl : 1 ≤ ([(k : Int), v2, v3] : List Int).length ∧ ([(k : Int), v2, v3] : List Int).length ≤ 8 := by simp
          go_wp2_with (at_builtin; go_must (refine wp_ap1G (B := w.heap.size) (by rfl) _ _ (by rfl) el_Hd (EHd_ok _) HEQ.out.size _ L [⟨RowKit.wrap64 (id + v1), [(k : Int), v2, v3], 1 + v6⟩] (by rfl) HOQ.out 1 1 rfl #[.int .i64 (RowKit.wrap64 (id + v1)), .slice (some ⟨w6.heap.size, 0, none⟩) 3 3, .int .i64 (1 + v6)] _ (by rfl) (by first | rfl | simp) rfl (oneHd rfl) (one_E (ehd_of (x := ⟨RowKit.wrap64 (id + v1), [(k : Int), v2, v3], 1 + v6⟩) (wrap64_inI _) HBQ.out (by unfold inI; simp only; omega))) ?_ ?_))
          · have := Hl.out; (try simp); unfold lim; omega
          · intro v9 w9 hO9 hg9 hk9
            have hE9 := (HOQ.out.ext (EHd_ok _) ((Ext.refl _).alloc _)).grown_extR (HEQ.out.extend ((Ext.refl _).alloc _)) hg9
            have HR9 := Lib.hid (HRQ.out.keepT hk9 (by decide) (HEQ.out.low hE9 hrb))
            have hlen9 : (L ++ [(⟨RowKit.wrap64 (id + v1), [(k : Int), v2, v3], 1 + v6⟩ : Hd)]).length = k + 1 := by rw [List.length_append, Hl.out]; rfl
            have hf9 := HF.out.snoc (by have := Hl.out; omega) (x := ⟨RowKit.wrap64 (id + v1), [(k : Int), v2, v3], 1 + v6⟩) hbl
            generalize L ++ [(⟨RowKit.wrap64 (id + v1), [(k : Int), v2, v3], 1 + v6⟩ : Hd)] = L9 at *
            have HO9 := Lib.hid hO9; have HE9 := Lib.hid hE9; have Hl9 := Lib.hid hlen9; have HF9 := Lib.hid hf9
            clear hO9 hg9 hk9 hE9 hlen9 hf9
            go_wp2
            go_roundw
            case rel => exact ⟨k + 1, L9, _, _, by omega, by omega, by go_num, rfl, wrap64_inI _, HO9.out, Hl9.out, HF9.out, HR9.out, by omega, by omega, HE9.out⟩
            case measure => simp [RowKit.intOf]; omega
      · skip
        have hkn2 : (k : Int) = 16 := by omega
        go_wp2_with fail
        refine (pick_c 30 HR3.out (by omega) (by omega)).mono ?_
        rintro e wX ⟨x1, rfl, hx10, hx11, -, hR, he⟩
        have HOX := Lib.hid (HO3.out.hd (Nat.le_refl _) (HR3.out.keepsT he) (by decide) (by decide))
        have HEX := Lib.hid (HE3.out.trans he)
        have heX := Lib.hid he
        have HRX := Lib.hid hR
        have hx11 := hx11 (by omega)
        clear hR he
        by_cases hx0 : x1 = 0
        · subst hx0
          obtain ⟨y0, hy0⟩ := get_of_lt (l := L) (k := 0) (by rw [Hl.out]; omega)
          obtain ⟨y1, hy1'⟩ := get_of_lt (l := L) (k := 1) (by rw [Hl.out]; omega)
          obtain ⟨g, cap, u0, hv, hcap, hgb, hc, hfz, hI, -⟩ := HOX.out.setBytes hy0
          rw [Hl.out] at hv hcap
          simp only [Value.slice.injEq, true_and] at hv
          obtain ⟨rfl, rfl⟩ := hv
          have HI : Hid (∀ W, Ext wX W → Ints w.heap.size W u0 y0.bytes) := Lib.hid fun W e => hI.ext e
          obtain ⟨A0, c0, rfl, -⟩ := hI
          rw [Nat.zero_mul, Nat.zero_add] at hc
          have hc1 := fun W (e : Ext wX W) => e.cell hc
          have hF0 := HF.out.2 0 y0 hy0
          have Hy1 := Lib.hid hy1'
          have hk1 : (1 : Int) < (k : Int) := by omega
          have hk0 : (0 : Int) < (k : Int) := by omega
          generalize hyb : y0.bytes.length = ny at *
          have Hyb := Lib.hid hyb
          clear hc hy0 hy1' hyb hfz
          go_wp2_with (at_builtin; go_must (refine wp_apS (w0 := wX) (by rfl) _ _ (by rfl) el_int eint_ok ((Ext.refl wX).alloc _) _ _ [] y0.bytes (by rfl) (OwnS.lit0 3 1 EInt wX (Nat.le_refl _)) (by rfl) (HI.out _ ((Ext.refl wX).alloc _)) ?_ ?_))
          · rw [Hyb.out]; simp; unfold lim; omega
          · intro v' w' hO' he' hk'
            have hOw := HOX.out.ext (EHd_ok _) he'
            obtain ⟨g', cap', u0', hv', -, hgb', hc', hfz', -, hset⟩ := hOw.setBytes Hy1.out
            rw [Hl.out] at hv'
            simp only [Value.slice.injEq, Option.some.injEq, Addr.mk.injEq, and_true, true_and] at hv'
            obtain ⟨rfl, rfl⟩ := hv'
            obtain ⟨A', c', rfl⟩ := hO'.form
            have HI' : Ints w.heap.size w' (.slice A' ([] ++ y0.bytes).length c') ([] ++ y0.bytes) := SlOf.mono (hO'.sl eint_ok (Nat.le_refl _) (by simp [Hyb.out]; unfold lim; omega)) HEX.out.size (fun _ _ _ => rfl) fun _ _ _ h => h
            have HOE := Lib.hid (hset w' rfl (fun _ _ _ _ h => h) _ _ HI')
            have HEE := Lib.hid ((HEX.out.extend he').setNew (p := ⟨g, 1 * 3 + 1, none⟩) hgb (.slice A' ([] ++ y0.bytes).length c'))
            have HRE := Lib.hid ((HRX.out.ext he').keepT (hOw.setKeeps (1 * 3 + 1) (.slice A' ([] ++ y0.bytes).length c')) (by decide) ((HEX.out.extend he').low HEE.out hrb))
            have HFE := Lib.hid (HF.out.set (i := 1) (x := { y1 with bytes := [] ++ y0.bytes }) (by rw [List.nil_append, Hyb.out]; exact hF0))
            rw [Nat.one_mul] at hc' hfz'
            clear hO' hk' HI' hset hgb' hOw
            go_wp2
            go_ret
            exact ⟨_, _, _, rfl, HOE.out, HFE.out, HRE.out, by omega, by omega, HEE.out⟩
        · have ex0 : (x1 == 0) = false := by rw [beq_eq_false_iff_ne]; exact hx0
          by_cases hx1 : x1 = 1
          · subst hx1
            go_wp2_with fail
            refine (pick_c 16 HRX.out (by omega) (by omega)).mono ?_
            rintro e wY ⟨m, rfl, hm0, hm1, -, hR, he⟩
            have HOY := Lib.hid (HOX.out.hd (Nat.le_refl _) (HRX.out.keepsT he) (by decide) (by decide))
            have HEY := Lib.hid (HEX.out.trans he)
            have heY := Lib.hid he
            have HRY := Lib.hid hR
            have hm1 := hm1 (by omega)
            clear hR he
            have HOYa := Lib.hid (HOY.out.ext (EHd_ok _) ((Ext.refl wY).alloc (.cells #[.int .i64 0, .int .i64 999, .int .i64 1000] 3)))
            have HEYa := Lib.hid (HEY.out.extend ((Ext.refl wY).alloc (.cells #[.int .i64 0, .int .i64 999, .int .i64 1000] 3)))
            have HRYa := Lib.hid (HRY.out.ext ((Ext.refl wY).alloc (.cells #[.int .i64 0, .int .i64 999, .int .i64 1000] 3)))
            have hbk := Blk.new wY 3 #[.int .i64 0, .int .i64 999, .int .i64 1000]
            have HBk := Lib.hid hbk
            clear hbk
            go_wp2_with fail
            generalize hWC : wY.alloc (.cells #[.int .i64 0, .int .i64 999, .int .i64 1000] 3) = wC at *
            clear hWC
            go_wp2_with fail
            refine (pick_c 3 HRYa.out (by omega) (by omega)).mono ?_
            rintro e wZ ⟨jj, rfl, hjj0, hjj1, -, hR, he⟩
            have HOZ := Lib.hid (HOYa.out.hd (Nat.le_refl _) (HRYa.out.keepsT he) (by decide) (by decide))
            have HEZ := Lib.hid (HEYa.out.trans he)
            have heZ := Lib.hid he
            have HRZ := Lib.hid hR
            have hjj1 := hjj1 (by omega)
            clear hR he
            have hbZ := (HRYa.out.keepsT (show ExtR rb wC wZ from heZ.out)) _ _ _ (by decide) HBk.out
            obtain ⟨mi, rfl⟩ := Int.eq_ofNat_of_zero_le hm0
            obtain ⟨ym, hym⟩ := get_of_lt (l := L) (k := mi) (by rw [Hl.out]; omega)
            obtain ⟨g, cap, hv, hcap, hgb, hc, hfz, hset⟩ := HOZ.out.setUses hym
            rw [Hl.out] at hv hcap
            simp only [Value.slice.injEq, true_and] at hv
            obtain ⟨rfl, rfl⟩ := hv
            have hcell : ∃ y : Int, wZ.cell? ⟨wY.heap.size, jj.toNat, none⟩ = some (.int .i64 y) ∧ inI y := by
              obtain ⟨j3, rfl⟩ := Int.eq_ofNat_of_zero_le hjj0
              rw [hbZ.cell]
              rcases j3 with _ | _ | _ | j3
              all_goals first | exact ⟨_, rfl, by unfold inI; omega⟩ | omega
            obtain ⟨yu, hyu, hyi⟩ := hcell
            obtain ⟨j3, rfl⟩ := Int.eq_ofNat_of_zero_le hjj0
            simp only [Int.toNat_natCast] at hyu
            have HOE := Lib.hid (hset yu hyi)
            have HEE := Lib.hid (HEZ.out.setNew (p := ⟨g, mi * 3 + 2, none⟩) hgb (.int .i64 yu))
            have HRE := Lib.hid (HRZ.out.keepT (HOZ.out.setKeeps (mi * 3 + 2) (.int .i64 yu)) (by decide) (HEZ.out.low HEE.out hrb))
            have hFm := HF.out.2 mi ym hym
            have HFE := Lib.hid (HF.out.set (i := mi) (x := { ym with uses := yu }) hFm)
            have hmk : (mi : Int) < (k : Int) := by omega
            have hj3 : (j3 : Int) < 3 := by omega
            clear hset hym hbZ hyi hFm
            go_wp2
            go_ret
            exact ⟨_, _, _, rfl, HOE.out, HFE.out, HRE.out, by omega, by omega, HEE.out⟩
          · have ex1 : (x1 == 1) = false := by rw [beq_eq_false_iff_ne]; exact hx1
            go_wp2
            go_ret
            exact ⟨_, _, _, rfl, HOX.out, HF.out, HRX.out, by omega, by omega, HEX.out⟩
  · have ey : (y == 0) = false := by rw [beq_eq_false_iff_ne]; exact hy
    go_wp2
    go_loopw [3, 5, 6] (fun v i5 i wr => ∃ (k : Nat) (L : List Hd) (q2 id : Int), k ≤ 16 ∧ (k : Int) ≤ z ∧ i = .int .i64 k ∧ i5 = .int .i64 id ∧ inI id ∧ OwnS w.heap.size 35 3 (EHd w.heap.size) wr v L ∧ L.length = k ∧ Few L ∧ Rd rb wr q2 ∧ q ≤ q2 ∧ q2 ≤ q + 2 + 6 * k ∧ ExtR rb w wr) (fun _ _ i _ => 40 - (RowKit.intOf i).toNat)
    case atStart => exact ⟨0, [], _, 1, by omega, by omega, rfl, rfl, by unfold inI; omega, HO2.out, rfl, ⟨by simp, fun k x h => by simp at h⟩, HR2.out, by omega, by omega, HE2.out⟩
    case round =>
      obtain ⟨k, L, q2, id, hk, hkn, rfl, rfl, hid, hO, hl, hF, hR, hqa, hqb, hE⟩ := hrel
      obtain ⟨Ao, co, hAo⟩ := hO.form
      rw [hl] at hAo
      subst hAo
      have HO3 := Lib.hid hO; have HR3 := Lib.hid hR; have HE3 := Lib.hid hE; have Hl := Lib.hid hl; have HF := Lib.hid hF
      clear hO hR hE hl hF
      by_cases hlt : (k : Int) < z
      · skip
        go_wp2_with fail
        refine (pick_c 2 HR3.out (by omega) (by omega)).mono ?_
        rintro e w4 ⟨v1, rfl, hv10, hv11, -, hR, he⟩
        have HO4 := Lib.hid (HO3.out.hd (Nat.le_refl _) (HR3.out.keepsT he) (by decide) (by decide))
        have HE4 := Lib.hid (HE3.out.trans he)
        have he4 := Lib.hid he
        have HR4 := Lib.hid hR
        have hv11 := hv11 (by omega)
        clear hR he
        go_wp2_with fail
        refine (pick_c 3 HR4.out (by omega) (by omega)).mono ?_
        rintro e w5 ⟨v2, rfl, hv20, hv21, -, hR, he⟩
        have HO5 := Lib.hid (HO4.out.hd (Nat.le_refl _) (HR4.out.keepsT he) (by decide) (by decide))
        have HE5 := Lib.hid (HE4.out.trans he)
        have he5 := Lib.hid he
        have HR5 := Lib.hid hR
        have hv21 := hv21 (by omega)
        clear hR he
        go_wp2_with fail
        refine (pick_c 256 HR5.out (by omega) (by omega)).mono ?_
        rintro e w6 ⟨v3, rfl, hv30, hv31, -, hR, he⟩
        have HO6 := Lib.hid (HO5.out.hd (Nat.le_refl _) (HR5.out.keepsT he) (by decide) (by decide))
        have HE6 := Lib.hid (HE5.out.trans he)
        have he6 := Lib.hid he
        have HR6 := Lib.hid hR
        have hv31 := hv31 (by omega)
        clear hR he
        have HO6a := Lib.hid (HO6.out.ext (EHd_ok _) ((Ext.refl w6).alloc (.cells #[.int .i64 k, .int .i64 v2, .int .i64 v3] 3)))
        have HE6a := Lib.hid (HE6.out.extend ((Ext.refl w6).alloc (.cells #[.int .i64 k, .int .i64 v2, .int .i64 v3] 3)))
        have HR6a := Lib.hid (HR6.out.ext ((Ext.refl w6).alloc (.cells #[.int .i64 k, .int .i64 v2, .int .i64 v3] 3)))
        have HB6a : Hid (Ints w.heap.size (w6.alloc (.cells #[.int .i64 k, .int .i64 v2, .int .i64 v3] 3)) (.slice (some ⟨w6.heap.size, 0, none⟩) ([(k : Int), v2, v3] : List Int).length ([(k : Int), v2, v3] : List Int).length) [(k : Int), v2, v3]) := Lib.hid (ints_of_blk (Blk.new w6 _ _) HE6.out.size rfl (by intro x hx; simp at hx; rcases hx with rfl | rfl | rfl <;> (unfold inI; omega)) (by simp; unfold lim; omega))
        go_wp2_with fail
        generalize hWA : w6.alloc (.cells #[.int .i64 k, .int .i64 v2, .int .i64 v3] 3) = wA at *
        clear hWA
        go_wp2_with fail
        refine (pick_c 2 HR6a.out (by omega) (by omega)).mono ?_
        rintro e w7 ⟨v4, rfl, hv40, hv41, -, hR, he⟩
        have HO7 := Lib.hid (HO6a.out.hd (Nat.le_refl _) (HR6a.out.keepsT he) (by decide) (by decide))
        have HB7 := Lib.hid (HB6a.out.keepT (HR6a.out.keepsT he) (by decide))
        have HE7 := Lib.hid (HE6a.out.trans he)
        have he7 := Lib.hid he
        have HR7 := Lib.hid hR
        have hv41 := hv41 (by omega)
        clear hR he
        by_cases h4 : v4 = 0
        · subst h4
          go_wp2_with fail
          refine (pick_c 256 HR7.out (by omega) (by omega)).mono ?_
          rintro e w7b ⟨v5, rfl, hv50, hv51, -, hR, he⟩
          have HO7b := Lib.hid (HO7.out.hd (Nat.le_refl _) (HR7.out.keepsT he) (by decide) (by decide))
          have HE7b := Lib.hid (HE7.out.trans he)
          have he7b := Lib.hid he
          have HR7b := Lib.hid hR
          have hv51 := hv51 (by omega)
          clear hR he
          have HO7c := Lib.hid (HO7b.out.ext (EHd_ok _) ((Ext.refl w7b).alloc (.cells #[.int .i64 k, .int .i64 1, .int .i64 2, .int .i64 3, .int .i64 4, .int .i64 5, .int .i64 6, .int .i64 v5] 3)))
          have HE7c := Lib.hid (HE7b.out.extend ((Ext.refl w7b).alloc (.cells #[.int .i64 k, .int .i64 1, .int .i64 2, .int .i64 3, .int .i64 4, .int .i64 5, .int .i64 6, .int .i64 v5] 3)))
          have HR7c := Lib.hid (HR7b.out.ext ((Ext.refl w7b).alloc (.cells #[.int .i64 k, .int .i64 1, .int .i64 2, .int .i64 3, .int .i64 4, .int .i64 5, .int .i64 6, .int .i64 v5] 3)))
          have HB7c : Hid (Ints w.heap.size (w7b.alloc (.cells #[.int .i64 k, .int .i64 1, .int .i64 2, .int .i64 3, .int .i64 4, .int .i64 5, .int .i64 6, .int .i64 v5] 3)) (.slice (some ⟨w7b.heap.size, 0, none⟩) ([(k : Int), 1, 2, 3, 4, 5, 6, v5] : List Int).length ([(k : Int), 1, 2, 3, 4, 5, 6, v5] : List Int).length) [(k : Int), 1, 2, 3, 4, 5, 6, v5]) := Lib.hid (ints_of_blk (Blk.new w7b _ _) HE7b.out.size rfl (by intro x hx; simp at hx; rcases hx with rfl | rfl | rfl | rfl | rfl | rfl | rfl | rfl <;> (unfold inI; omega)) (by simp; unfold lim; omega))
          go_wp2_with fail
          generalize hWB : w7b.alloc (.cells #[.int .i64 k, .int .i64 1, .int .i64 2, .int .i64 3, .int .i64 4, .int .i64 5, .int .i64 6, .int .i64 v5] 3) = wB at *
          clear hWB
          go_wp2_with fail
          refine (pick_c 3 HR7c.out (by omega) (by omega)).mono ?_
          rintro e w8 ⟨v6, rfl, hv60, hv61, -, hR, he⟩
          have HOQ := Lib.hid (HO7c.out.hd (Nat.le_refl _) (HR7c.out.keepsT he) (by decide) (by decide))
          have HBQ := Lib.hid (HB7c.out.keepT (HR7c.out.keepsT he) (by decide))
          have HEQ := Lib.hid (HE7c.out.trans he)
          have heQ := Lib.hid he
          have HRQ := Lib.hid hR
          have hv61 := hv61 (by omega)
          clear hR he
          have hbl : 1 ≤ ([(k : Int), 1, 2, 3, 4, 5, 6, v5] : List Int).length ∧ ([(k : Int), 1, 2, 3, 4, 5, 6, v5] : List Int).length ≤ 8 := by simp
          go_wp2_with (at_builtin; go_must (refine wp_ap1G (B := w.heap.size) (by rfl) _ _ (by rfl) el_Hd (EHd_ok _) HEQ.out.size _ L [⟨RowKit.wrap64 (id + v1), [(k : Int), 1, 2, 3, 4, 5, 6, v5], 1 + v6⟩] (by rfl) HOQ.out 1 1 rfl #[.int .i64 (RowKit.wrap64 (id + v1)), .slice (some ⟨w7b.heap.size, 0, none⟩) 8 8, .int .i64 (1 + v6)] _ (by rfl) (by first | rfl | simp) rfl (oneHd rfl) (one_E (ehd_of (x := ⟨RowKit.wrap64 (id + v1), [(k : Int), 1, 2, 3, 4, 5, 6, v5], 1 + v6⟩) (wrap64_inI _) HBQ.out (by unfold inI; simp only; omega))) ?_ ?_))
          · have := Hl.out; (try simp); unfold lim; omega
          · intro v9 w9 hO9 hg9 hk9
            have hE9 := (HOQ.out.ext (EHd_ok _) ((Ext.refl _).alloc _)).grown_extR (HEQ.out.extend ((Ext.refl _).alloc _)) hg9
            have HR9 := Lib.hid (HRQ.out.keepT hk9 (by decide) (HEQ.out.low hE9 hrb))
            have hlen9 : (L ++ [(⟨RowKit.wrap64 (id + v1), [(k : Int), 1, 2, 3, 4, 5, 6, v5], 1 + v6⟩ : Hd)]).length = k + 1 := by rw [List.length_append, Hl.out]; rfl
            have hf9 := HF.out.snoc (by have := Hl.out; omega) (x := ⟨RowKit.wrap64 (id + v1), [(k : Int), 1, 2, 3, 4, 5, 6, v5], 1 + v6⟩) hbl
            generalize L ++ [(⟨RowKit.wrap64 (id + v1), [(k : Int), 1, 2, 3, 4, 5, 6, v5], 1 + v6⟩ : Hd)] = L9 at *
            have HO9 := Lib.hid hO9; have HE9 := Lib.hid hE9; have Hl9 := Lib.hid hlen9; have HF9 := Lib.hid hf9
            clear hO9 hg9 hk9 hE9 hlen9 hf9
            go_wp2
            go_roundw
            case rel => exact ⟨k + 1, L9, _, _, by omega, by omega, by go_num, rfl, wrap64_inI _, HO9.out, Hl9.out, HF9.out, HR9.out, by omega, by omega, HE9.out⟩
            case measure => simp [RowKit.intOf]; omega
        · have e4 : (v4 == 0) = false := by rw [beq_eq_false_iff_ne]; exact h4
          go_wp2_with fail
          refine (pick_c 3 HR7.out (by omega) (by omega)).mono ?_
          rintro e w8 ⟨v6, rfl, hv60, hv61, -, hR, he⟩
          have HOQ := Lib.hid (HO7.out.hd (Nat.le_refl _) (HR7.out.keepsT he) (by decide) (by decide))
          have HBQ := Lib.hid (HB7.out.keepT (HR7.out.keepsT he) (by decide))
          have HEQ := Lib.hid (HE7.out.trans he)
          have heQ := Lib.hid he
          have HRQ := Lib.hid hR
          have hv61 := hv61 (by omega)
          clear hR he
          have hbl : 1 ≤ ([(k : Int), v2, v3] : List Int).length ∧ ([(k : Int), v2, v3] : List Int).length ≤ 8 := by simp
          go_wp2_with (at_builtin; go_must (refine wp_ap1G (B := w.heap.size) (by rfl) _ _ (by rfl) el_Hd (EHd_ok _) HEQ.out.size _ L [⟨RowKit.wrap64 (id + v1), [(k : Int), v2, v3], 1 + v6⟩] (by rfl) HOQ.out 1 1 rfl #[.int .i64 (RowKit.wrap64 (id + v1)), .slice (some ⟨w6.heap.size, 0, none⟩) 3 3, .int .i64 (1 + v6)] _ (by rfl) (by first | rfl | simp) rfl (oneHd rfl) (one_E (ehd_of (x := ⟨RowKit.wrap64 (id + v1), [(k : Int), v2, v3], 1 + v6⟩) (wrap64_inI _) HBQ.out (by unfold inI; simp only; omega))) ?_ ?_))
          · have := Hl.out; (try simp); unfold lim; omega
          · intro v9 w9 hO9 hg9 hk9
            have hE9 := (HOQ.out.ext (EHd_ok _) ((Ext.refl _).alloc _)).grown_extR (HEQ.out.extend ((Ext.refl _).alloc _)) hg9
            have HR9 := Lib.hid (HRQ.out.keepT hk9 (by decide) (HEQ.out.low hE9 hrb))
            have hlen9 : (L ++ [(⟨RowKit.wrap64 (id + v1), [(k : Int), v2, v3], 1 + v6⟩ : Hd)]).length = k + 1 := by rw [List.length_append, Hl.out]; rfl
            have hf9 := HF.out.snoc (by have := Hl.out; omega) (x := ⟨RowKit.wrap64 (id + v1), [(k : Int), v2, v3], 1 + v6⟩) hbl
            generalize L ++ [(⟨RowKit.wrap64 (id + v1), [(k : Int), v2, v3], 1 + v6⟩ : Hd)] = L9 at *
            have HO9 := Lib.hid hO9; have HE9 := Lib.hid hE9; have Hl9 := Lib.hid hlen9; have HF9 := Lib.hid hf9
            clear hO9 hg9 hk9 hE9 hlen9 hf9
            go_wp2
            go_roundw
            case rel => exact ⟨k + 1, L9, _, _, by omega, by omega, by go_num, rfl, wrap64_inI _, HO9.out, Hl9.out, HF9.out, HR9.out, by omega, by omega, HE9.out⟩
            case measure => simp [RowKit.intOf]; omega
      · skip
        have hkn2 : (k : Int) = z := by omega
        go_wp2_with fail
        refine (pick_c 30 HR3.out (by omega) (by omega)).mono ?_
        rintro e wX ⟨x1, rfl, hx10, hx11, -, hR, he⟩
        have HOX := Lib.hid (HO3.out.hd (Nat.le_refl _) (HR3.out.keepsT he) (by decide) (by decide))
        have HEX := Lib.hid (HE3.out.trans he)
        have heX := Lib.hid he
        have HRX := Lib.hid hR
        have hx11 := hx11 (by omega)
        clear hR he
        by_cases hx0 : x1 = 0
        · subst hx0
          by_cases hn1 : (1 : Int) < z
          · skip
            obtain ⟨y0, hy0⟩ := get_of_lt (l := L) (k := 0) (by rw [Hl.out]; omega)
            obtain ⟨y1, hy1'⟩ := get_of_lt (l := L) (k := 1) (by rw [Hl.out]; omega)
            obtain ⟨g, cap, u0, hv, hcap, hgb, hc, hfz, hI, -⟩ := HOX.out.setBytes hy0
            rw [Hl.out] at hv hcap
            simp only [Value.slice.injEq, true_and] at hv
            obtain ⟨rfl, rfl⟩ := hv
            have HI : Hid (∀ W, Ext wX W → Ints w.heap.size W u0 y0.bytes) := Lib.hid fun W e => hI.ext e
            obtain ⟨A0, c0, rfl, -⟩ := hI
            rw [Nat.zero_mul, Nat.zero_add] at hc
            have hc1 := fun W (e : Ext wX W) => e.cell hc
            have hF0 := HF.out.2 0 y0 hy0
            have Hy1 := Lib.hid hy1'
            have hk1 : (1 : Int) < (k : Int) := by omega
            have hk0 : (0 : Int) < (k : Int) := by omega
            generalize hyb : y0.bytes.length = ny at *
            have Hyb := Lib.hid hyb
            clear hc hy0 hy1' hyb hfz
            go_wp2_with (at_builtin; go_must (refine wp_apS (w0 := wX) (by rfl) _ _ (by rfl) el_int eint_ok ((Ext.refl wX).alloc _) _ _ [] y0.bytes (by rfl) (OwnS.lit0 3 1 EInt wX (Nat.le_refl _)) (by rfl) (HI.out _ ((Ext.refl wX).alloc _)) ?_ ?_))
            · rw [Hyb.out]; simp; unfold lim; omega
            · intro v' w' hO' he' hk'
              have hOw := HOX.out.ext (EHd_ok _) he'
              obtain ⟨g', cap', u0', hv', -, hgb', hc', hfz', -, hset⟩ := hOw.setBytes Hy1.out
              rw [Hl.out] at hv'
              simp only [Value.slice.injEq, Option.some.injEq, Addr.mk.injEq, and_true, true_and] at hv'
              obtain ⟨rfl, rfl⟩ := hv'
              obtain ⟨A', c', rfl⟩ := hO'.form
              have HI' : Ints w.heap.size w' (.slice A' ([] ++ y0.bytes).length c') ([] ++ y0.bytes) := SlOf.mono (hO'.sl eint_ok (Nat.le_refl _) (by simp [Hyb.out]; unfold lim; omega)) HEX.out.size (fun _ _ _ => rfl) fun _ _ _ h => h
              have HOE := Lib.hid (hset w' rfl (fun _ _ _ _ h => h) _ _ HI')
              have HEE := Lib.hid ((HEX.out.extend he').setNew (p := ⟨g, 1 * 3 + 1, none⟩) hgb (.slice A' ([] ++ y0.bytes).length c'))
              have HRE := Lib.hid ((HRX.out.ext he').keepT (hOw.setKeeps (1 * 3 + 1) (.slice A' ([] ++ y0.bytes).length c')) (by decide) ((HEX.out.extend he').low HEE.out hrb))
              have HFE := Lib.hid (HF.out.set (i := 1) (x := { y1 with bytes := [] ++ y0.bytes }) (by rw [List.nil_append, Hyb.out]; exact hF0))
              rw [Nat.one_mul] at hc' hfz'
              clear hO' hk' HI' hset hgb' hOw
              go_wp2
              go_ret
              exact ⟨_, _, _, rfl, HOE.out, HFE.out, HRE.out, by omega, by omega, HEE.out⟩
          · go_wp2
            go_ret
            exact ⟨_, _, _, rfl, HOX.out, HF.out, HRX.out, by omega, by omega, HEX.out⟩
        · have ex0 : (x1 == 0) = false := by rw [beq_eq_false_iff_ne]; exact hx0
          by_cases hx1 : x1 = 1
          · subst hx1
            by_cases hn0 : (0 : Int) < z
            · skip
              go_wp2_with fail
              refine (pick_c z HRX.out (by omega) (by omega)).mono ?_
              rintro e wY ⟨m, rfl, hm0, hm1, -, hR, he⟩
              have HOY := Lib.hid (HOX.out.hd (Nat.le_refl _) (HRX.out.keepsT he) (by decide) (by decide))
              have HEY := Lib.hid (HEX.out.trans he)
              have heY := Lib.hid he
              have HRY := Lib.hid hR
              have hm1 := hm1 (by omega)
              clear hR he
              have HOYa := Lib.hid (HOY.out.ext (EHd_ok _) ((Ext.refl wY).alloc (.cells #[.int .i64 0, .int .i64 999, .int .i64 1000] 3)))
              have HEYa := Lib.hid (HEY.out.extend ((Ext.refl wY).alloc (.cells #[.int .i64 0, .int .i64 999, .int .i64 1000] 3)))
              have HRYa := Lib.hid (HRY.out.ext ((Ext.refl wY).alloc (.cells #[.int .i64 0, .int .i64 999, .int .i64 1000] 3)))
              have hbk := Blk.new wY 3 #[.int .i64 0, .int .i64 999, .int .i64 1000]
              have HBk := Lib.hid hbk
              clear hbk
              go_wp2_with fail
              generalize hWC : wY.alloc (.cells #[.int .i64 0, .int .i64 999, .int .i64 1000] 3) = wC at *
              clear hWC
              go_wp2_with fail
              refine (pick_c 3 HRYa.out (by omega) (by omega)).mono ?_
              rintro e wZ ⟨jj, rfl, hjj0, hjj1, -, hR, he⟩
              have HOZ := Lib.hid (HOYa.out.hd (Nat.le_refl _) (HRYa.out.keepsT he) (by decide) (by decide))
              have HEZ := Lib.hid (HEYa.out.trans he)
              have heZ := Lib.hid he
              have HRZ := Lib.hid hR
              have hjj1 := hjj1 (by omega)
              clear hR he
              have hbZ := (HRYa.out.keepsT (show ExtR rb wC wZ from heZ.out)) _ _ _ (by decide) HBk.out
              obtain ⟨mi, rfl⟩ := Int.eq_ofNat_of_zero_le hm0
              obtain ⟨ym, hym⟩ := get_of_lt (l := L) (k := mi) (by rw [Hl.out]; omega)
              obtain ⟨g, cap, hv, hcap, hgb, hc, hfz, hset⟩ := HOZ.out.setUses hym
              rw [Hl.out] at hv hcap
              simp only [Value.slice.injEq, true_and] at hv
              obtain ⟨rfl, rfl⟩ := hv
              have hcell : ∃ y : Int, wZ.cell? ⟨wY.heap.size, jj.toNat, none⟩ = some (.int .i64 y) ∧ inI y := by
                obtain ⟨j3, rfl⟩ := Int.eq_ofNat_of_zero_le hjj0
                rw [hbZ.cell]
                rcases j3 with _ | _ | _ | j3
                all_goals first | exact ⟨_, rfl, by unfold inI; omega⟩ | omega
              obtain ⟨yu, hyu, hyi⟩ := hcell
              obtain ⟨j3, rfl⟩ := Int.eq_ofNat_of_zero_le hjj0
              simp only [Int.toNat_natCast] at hyu
              have HOE := Lib.hid (hset yu hyi)
              have HEE := Lib.hid (HEZ.out.setNew (p := ⟨g, mi * 3 + 2, none⟩) hgb (.int .i64 yu))
              have HRE := Lib.hid (HRZ.out.keepT (HOZ.out.setKeeps (mi * 3 + 2) (.int .i64 yu)) (by decide) (HEZ.out.low HEE.out hrb))
              have hFm := HF.out.2 mi ym hym
              have HFE := Lib.hid (HF.out.set (i := mi) (x := { ym with uses := yu }) hFm)
              have hmk : (mi : Int) < (k : Int) := by omega
              have hj3 : (j3 : Int) < 3 := by omega
              clear hset hym hbZ hyi hFm
              go_wp2
              go_ret
              exact ⟨_, _, _, rfl, HOE.out, HFE.out, HRE.out, by omega, by omega, HEE.out⟩
            · go_wp2
              go_ret
              exact ⟨_, _, _, rfl, HOX.out, HF.out, HRX.out, by omega, by omega, HEX.out⟩
          · have ex1 : (x1 == 1) = false := by rw [beq_eq_false_iff_ne]; exact hx1
            go_wp2
            go_ret
            exact ⟨_, _, _, rfl, HOX.out, HF.out, HRX.out, by omega, by omega, HEX.out⟩
end Go.Sf

/-! Sums of a store are drawn, and a store is damaged. -/
namespace Go.Sf
open Go Go.RowKit Go.Proofs
theorem blkSum_in {bs : List Int} (_h : blockOk bs = true) : inI (blkSum bs) := by
  unfold blkSum
  split
  · next hb =>
    have := blkSum_range bs fun x hx => by
      unfold blkOk at hb
      simp at hb
      have h2 := hb.2
      unfold bytesOk at h2
      rw [List.all_eq_true] at h2
      simpa using h2 x hx
    unfold inI; omega
  · unfold inI; omega
/-- sums of the call's own -/
def SumsP (w0 : World) (r : Value) (w' : World) : Prop := ∃ v cs ok, r = .tuple #[v, .bool ok] ∧ OwnS w0.heap.size 64 2 (ECk w0.heap.size) w' v cs ∧ cs.length ≤ 16
set_option maxRecDepth 4000 in
set_option maxHeartbeats 4000000 in
theorem ChecksOf_c {B : Nat} {v : Value} {l : List Hd} (w : World) (h : Hds B w v l) : Calls TryG.prog 50 #[v] w (RetP (SumsP w) w) := by
  have e0 := (Ext.refl w).alloc (.cells #[] 64)
  have HO0 := Lib.hid (OwnS.lit0 64 2 (ECk w.heap.size) w (Nat.le_refl _))
  have Cv := specStoreValid_c _ (h.ext e0)
  cases hs : storeOk l with
  | false =>
    rw [hs] at Cv
    clear hs
    go_enter TryG.func50, TryG.ntmps50
    go_wp2_with (go_at_call 35; refine Cv.mono ?_; rintro e w2 ⟨rfl, he2⟩)
    go_ret2
    exact ⟨_, rfl, ⟨_, [], false, rfl, HO0.out.ext (ECk_ok _) he2, by simp⟩, e0.trans he2⟩
  | true =>
    rw [hs] at Cv
    have hok := storeOk_iff.1 hs
    have Hok := Lib.hid hok
    have hl16 := hok.1
    obtain ⟨A, c, rfl, hA⟩ := h
    generalize hn : l.length = n at *
    have Hn := Lib.hid hn; clear hn
    have HA := Lib.hid hA
    clear hs hok hA
    go_enter TryG.func50, TryG.ntmps50
    go_wp2_with fail
    refine Cv.mono ?_
    rintro e w2 ⟨rfl, he2⟩
    have HO2 := Lib.hid (HO0.out.ext (ECk_ok _) he2)
    have E2 := e0.trans he2
    clear Cv
    go_wp2
    go_loopw [4, 5] (fun v i wr => ∃ (k : Nat) (cs : List Ck), k ≤ n ∧ i = .int .i64 k ∧ Ext w wr ∧ OwnS w.heap.size 64 2 (ECk w.heap.size) wr v cs ∧ cs.length = k) (fun _ i _ => n - (RowKit.intOf i).toNat)
    case atStart => exact ⟨0, [], by omega, rfl, E2, HO2.out, rfl⟩
    case round =>
      obtain ⟨k, cs, hk, rfl, he, hO, hcl⟩ := hrel
      by_cases hlt : k < n
      · obtain ⟨x, hx⟩ := get_of_lt (l := l) (k := k) (by rw [Hn.out]; exact hlt)
        obtain ⟨b, o, u, rfl, -, -, hki, hu, -, hc0, hc1, -⟩ := Hds.at_ HA.out hx
        have a0 := fun W (e : Ext wr W) => hc0 W (he.trans e)
        have a1 := fun W (e : Ext wr W) => hc1 W (he.trans e)
        have hbl := Hok.out.blks.2 k x hx
        have Cl : ∀ W, Ext wr W → Calls TryG.prog 61 #[u] W (Ret (.int .i64 (blkSum x.bytes)) W) := fun W e => l2Sum_c W (hu.ext (he.trans e)) hbl
        have hsi := blkSum_in hbl
        obtain ⟨Au, cu, rfl, -⟩ := hu
        have HO := Lib.hid hO; have Hcl := Lib.hid hcl
        obtain ⟨Ao, co, rfl⟩ := hO.form
        generalize x.bytes.length = ny at *
        generalize blkSum x.bytes = sm at *
        generalize x.id = xid at *
        clear hc0 hc1 hx hbl hO hcl
        go_wp2
        refine wp_region_hold (fun W => Ext wr W) 14 [(0, true), (1, true), (2, true), (3, true), (4, true), (5, true), (6, true), (7, true), (8, true), (9, true), (10, true), (11, false), (12, true), (13, false)] (by kernel_rfl) (by kernel_rfl) ?_ ?_
        · exact (Ext.refl _).drew
        (repeat (first | (apply hw_read (by rfl) (by rfl); (· (intro W hW; (try dsimp only at hW); go_simp; (first | done | rfl | (rw [if_pos] <;> first | omega | rfl)))); (try simp only [Act.put, List.setIfInBounds_toArray, List.set_cons_zero, List.set_cons_succ])) | (refine hw_skip (by rfl) (by rfl) ?_; (try simp only [Act.put, List.setIfInBounds_toArray, List.set_cons_zero, List.set_cons_succ]))))
        refine hw_step (by rfl) ?_
        go_wp2_with (go_at_call 61; refine (Cl _ (Ext.refl _).drew).mono ?_; rintro e w4 ⟨rfl, he4⟩)
        have he5 := (Ext.refl wr).drew.trans he4
        have HO5 := Lib.hid (HO.out.ext (ECk_ok _) he5)
        have E5 := he.trans he5
        refine ⟨he5, ?_⟩
        (repeat (first | (apply hw_read (by rfl) (by rfl); (· (intro W hW; (try dsimp only at hW); go_simp; (first | done | rfl | (rw [if_pos] <;> first | omega | rfl)))); (try simp only [Act.put, List.setIfInBounds_toArray, List.set_cons_zero, List.set_cons_succ])) | (refine hw_skip (by rfl) (by rfl) ?_; (try simp only [Act.put, List.setIfInBounds_toArray, List.set_cons_zero, List.set_cons_succ]))))
        refine hw_step (by rfl) ?_
        go_wp2
        refine ⟨he5.alloc _, ?_⟩
        (refine hw_nil ?_; (try simp only [List.drop_succ_cons, List.drop_zero]))
        go_wp2_with (at_builtin; go_must (refine wp_ap1 (w0 := w) (by rfl) _ _ (by rfl) el_Ck (ECk_ok _) E5 _ cs [⟨xid, sm⟩] (by rfl) HO5.out 1 1 rfl #[.int .i64 xid, .int .i64 sm] _ (by rfl) (by first | rfl | simp) rfl (one_cells rfl) (one_E (show ECk _ _ _ 0 ⟨xid, sm⟩ from ⟨rfl, hki, rfl, hsi⟩)) ?_ ?_))
        · rw [Hcl.out]; simp; unfold lim; omega
        · intro v' w' hO' he' _
          have HO' := Lib.hid hO'
          clear hO'
          go_wp2
          (try refine NoPanic.normal ?_)
          (try dsimp only [Exit.then])
          (try go_wp2)
          go_roundw
          case rel => exact ⟨k + 1, _, by omega, by go_num, he', HO'.out, by rw [List.length_append, Hcl.out]; rfl⟩
          case measure => simp [RowKit.intOf]; omega
      · have HO := Lib.hid hO
        obtain ⟨Ao, co, rfl⟩ := hO.form
        clear hO
        go_wp2
        go_ret2
        exact ⟨_, rfl, ⟨_, cs, true, rfl, HO.out, by omega⟩, he⟩
end Go.Sf

/-! A store is damaged; what mending is tried at is drawn. -/
namespace Go.Sf
open Go Go.RowKit Go.Proofs
theorem list_choose {α : Type} {P : Nat → α → Prop} : ∀ n : Nat, (∀ k, k < n → ∃ x, P k x) → ∃ xs : List α, xs.length = n ∧ ∀ k x, xs[k]? = some x → P k x
  | 0, _ => ⟨[], rfl, fun k x h => by simp at h⟩
  | n + 1, h => by
    obtain ⟨xs, h1, h2⟩ := list_choose n fun k hk => h k (by omega)
    obtain ⟨y, hy⟩ := h n (by omega)
    refine ⟨xs ++ [y], by simp [h1], fun k x hx => ?_⟩
    rw [List.getElem?_append] at hx
    split at hx
    · exact h2 k x hx
    · next hk =>
      have h3 := lt_of_get hx
      simp at h3
      obtain rfl : k = n := by omega
      rw [h1, Nat.sub_self] at hx
      simp at hx
      exact hx ▸ hy
/-- an int of some row is written: a slice of ints still reads as ints -/
theorem ints_poke {B g i : Nat} {y : Int} {w : World} {cs0 : Array Value} {v : Value} {xs : List Int} (hb : Blk w g 3 cs0) (hy : inI y) (h : Ints B w v xs) : ∃ xs', xs'.length = xs.length ∧ Ints B (w.setCell ⟨g, i, none⟩ (.int .i64 y)) v xs' := by
  obtain ⟨A, c, rfl, h1, h2, h3, h4⟩ := h
  have key : ∀ k, k < xs.length → ∃ x, ∃ b o cs, A = some ⟨b, o, none⟩ ∧ B ≤ b ∧ Blk (w.setCell ⟨g, i, none⟩ (.int .i64 y)) b 3 cs ∧ EInt w cs (o + k * 1) x := by
    intro k hk
    obtain ⟨x, hx⟩ := get_of_lt hk
    obtain ⟨b, o, cs, hA, hB, hbk, hc, hi⟩ := h4 k x hx
    by_cases e : b = g
    · subst e
      have e2 : cs = cs0 := by
        unfold Blk at hb hbk
        rw [hb] at hbk
        injection hbk with hbk
        injection hbk with hbk
        exact hbk.symm
      subst e2
      by_cases e3 : i = o + k * 1
      · exact ⟨y, b, o, _, hA, hB, hbk.set_ i _, by rw [Array.getElem?_setIfInBounds, if_pos e3, if_pos (by
          rcases Nat.lt_or_ge i cs.size with h | h
          · exact h
          · rw [← e3, Array.getElem?_eq_none h] at hc; cases hc)], hy⟩
      · exact ⟨x, b, o, _, hA, hB, hbk.set_ i _, by rw [Array.getElem?_setIfInBounds, if_neg e3]; exact hc, hi⟩
    · exact ⟨x, b, o, cs, hA, hB, hbk.far (p := ⟨g, i, none⟩) e _, hc, hi⟩
  obtain ⟨xs', e1, e2⟩ := list_choose xs.length key
  refine ⟨xs', e1, A, c, by rw [e1], by rw [e1]; exact h1, h2, by rw [e1]; exact h3, fun k x hx => ?_⟩
  obtain ⟨b, o, cs, q1, q2, q3, q4⟩ := e2 k x hx
  exact ⟨b, o, cs, q1, q2, q3, q4⟩
/-- .. and a store still reads as a store -/
theorem hds_poke {base B g i : Nat} {y : Int} {w : World} {cs0 : Array Value} {v : Value} {l : List Hd} (hb : Blk w g 3 cs0) (hy : inI y) (h : OwnS base 35 3 (EHd B) w v l) :
    ∃ l', l'.length = l.length ∧ (∀ (k : Nat) (x' : Hd), l'[k]? = some x' → ∃ x, l[k]? = some x ∧ x'.bytes.length = x.bytes.length) ∧ OwnS base 35 3 (EHd B) (w.setCell ⟨g, i, none⟩ (.int .i64 y)) v l' := by
  obtain ⟨xs, ⟨h1, h2⟩, h3⟩ := h
  have hK : KeepsT 3 w (w.setCell ⟨g, i, none⟩ (.int .i64 y)) := KeepsT.set (i := i) hb (.int .i64 y) rfl
  have key : ∀ k, k < l.length → ∃ x' : Hd, (∃ x, l[k]? = some x ∧ x'.bytes.length = x.bytes.length) ∧ EHd B (w.setCell ⟨g, i, none⟩ (.int .i64 y)) xs.toArray (k * 3) x' := by
    intro k hk
    obtain ⟨x, hx⟩ := get_of_lt hk
    obtain ⟨q0, q1, ⟨u, q2, q3⟩, q4, q5⟩ := h3 k x hx
    obtain ⟨bs, e1, e2⟩ := ints_poke hb hy q3 (i := i)
    exact ⟨⟨x.id, bs, x.uses⟩, ⟨x, hx, e1⟩, q0, q1, ⟨u, q2, e2⟩, q4, q5⟩
  obtain ⟨l', e1, e2⟩ := list_choose l.length key
  refine ⟨l', e1, fun k x' hx' => (e2 k x' hx').1, xs, ⟨by rw [e1]; exact h1, ?_⟩, fun k x hx => (e2 k x hx).2⟩
  rw [e1]
  rcases h2 with h | ⟨g', cap, cur, hv, hg, hh, r⟩
  · exact .inl h
  · exact .inr ⟨g', cap, cur, hv, hg, hK _ _ _ (by decide) hh, r⟩
/-- drawn sums -/
def DrewK (rb : Nat) (w : World) (q : Int) (e : Ending) (w' : World) : Prop := ∃ v cs q', e = .returned v ∧ OwnS w.heap.size 64 2 (ECk w.heap.size) w' v cs ∧ cs.length ≤ 16 ∧ Rd rb w' q' ∧ q ≤ q' ∧ q' ≤ q + 3 ∧ ExtR rb w w'
theorem OwnS.setCkId {base B : Nat} {w : World} {v : Value} {l : List Ck} (h : OwnS base 64 2 (ECk B) w v l) {k : Nat} {x : Ck} (hx : l[k]? = some x) :
    ∃ g c, v = .slice (some ⟨g, 0, none⟩) l.length c ∧ l.length ≤ c ∧ base ≤ g ∧ w.cell? ⟨g, k * 2, none⟩ = some (.int .i64 x.id) ∧ w.frozen? ⟨g, k * 2, none⟩ = false ∧
      ∀ y, inI y → OwnS base 64 2 (ECk B) (w.setCell ⟨g, k * 2, none⟩ (.int .i64 y)) v (l.set k { x with id := y }) := by
  obtain ⟨xs, ⟨h1, h2⟩, h3⟩ := h
  have hk := lt_of_get hx
  rcases h2 with ⟨rfl, hn⟩ | ⟨g, cap, cur, rfl, hg, hh, hnc, hcm, hcs, htk⟩
  · rw [hn] at hk; omega
  · have hb : Blk w g 64 cur := hh
    have hc0 : cur[k * 2]? = xs[k * 2]? := by rw [← htk, List.getElem?_take_of_lt (by omega), Array.getElem?_toList]
    have he := h3 k x hx
    refine ⟨g, cap, rfl, hnc, hg, ?_, hb.frozen _, fun y hy => ⟨xs.set (k * 2) (.int .i64 y), ⟨by simpa using h1, .inr ⟨g, cap, cur.setIfInBounds (k * 2) (.int .i64 y), ?_, hg, hb.set_ _ _, ?_, hcm, ?_, ?_⟩⟩, fun j z hz => ?_⟩⟩
    · rw [hb.cell, hc0]
      have := he.1
      rw [List.getElem?_toArray] at this
      exact this
    · rw [List.length_set]
    · rw [List.length_set]; exact hnc
    · simpa using hcs
    · rw [List.length_set, Array.toList_setIfInBounds, List.take_set, htk]
    · rw [List.getElem?_set] at hz
      split at hz
      · next e =>
        subst e
        cases hz
        obtain ⟨q0, q1, q2, q3⟩ := he
        rw [List.getElem?_toArray] at q0 q2
        refine ⟨?_, hy, ?_, q3⟩
        · rw [List.getElem?_toArray, List.getElem?_set_self (by omega)]
        · rw [List.getElem?_toArray, List.getElem?_set_ne (by omega)]; exact q2
      · next e =>
        obtain ⟨q0, q1, q2, q3⟩ := h3 j z hz
        rw [List.getElem?_toArray] at q0 q2
        refine ⟨?_, q1, ?_, q3⟩
        · rw [List.getElem?_toArray, List.getElem?_set_ne (by omega)]; exact q0
        · rw [List.getElem?_toArray, List.getElem?_set_ne (by omega)]; exact q2
set_option maxRecDepth 4000 in
set_option maxHeartbeats 4000000 in
theorem l92Checks_c {rb B : Nat} {w : World} {q : Int} {v : Value} {l : List Hd} (h : Rd rb w q) (hq : q ≤ 10000000000) (hl : Hds B w v l) : Calls TryG.prog 27 #[.pointer (some ⟨rb, 0, none⟩), v] w (DrewK rb w q) := by
  have H := Lib.hid h
  have hrb := h.lt
  have Cc := ChecksOf_c w hl
  clear h hl
  go_enter TryG.func27, TryG.ntmps27
  go_wp2_with fail
  refine Cc.mono ?_
  rintro e w1 ⟨r, rfl, ⟨v1, cs, ok, rfl, hO1, hcl⟩, he1⟩
  have HO1 := Lib.hid hO1
  have HE1 := Lib.hid (he1.toR rb)
  have HR1 := Lib.hid (H.out.ext he1)
  obtain ⟨A1, c1, rfl⟩ := hO1.form
  generalize hn : cs.length = n at *
  have Hn := Lib.hid hn
  clear Cc hO1 hn
  by_cases h0 : n = 0
  · subst h0
    go_wp2
    go_ret
    exact ⟨_, cs, _, rfl, HO1.out, by have := Hn.out; omega, HR1.out, by omega, by omega, HE1.out⟩
  · have h0' : (0 : Int) < (n : Int) := by omega
    go_wp2_with fail
    refine (pick_c 24 HR1.out (by omega) (by omega)).mono ?_
    rintro e w2 ⟨v2, rfl, h20, h21, -, hR2, he2⟩
    have HO2 := Lib.hid (HO1.out.keepT (HR1.out.keepsT he2) (by decide) fun _ _ _ g => g)
    have HE2 := Lib.hid (HE1.out.trans he2)
    have HR2 := Lib.hid hR2
    clear hR2 he2
    by_cases hv2 : v2 = 0
    · subst hv2
      go_wp2_with fail
      refine (pick_c n HR2.out (by omega) (by omega)).mono ?_
      rintro e w3 ⟨m, rfl, hm0, hm1, -, hR3, he3⟩
      have hm1 := hm1 (by omega)
      have HO3 := Lib.hid (HO2.out.keepT (HR2.out.keepsT he3) (by decide) fun _ _ _ g => g)
      have HE3 := Lib.hid (HE2.out.trans he3)
      have HR3 := Lib.hid hR3
      clear hR3 he3
      have ea := (Ext.refl w3).alloc (.cells #[.int .i64 0, .int .i64 100] 3)
      have HO4 := Lib.hid (HO3.out.ext (ECk_ok _) ea)
      have HE4 := Lib.hid (HE3.out.extend ea)
      have HR4 := Lib.hid (HR3.out.ext ea)
      have HB4 := Lib.hid (Blk.new w3 3 #[.int .i64 0, .int .i64 100])
      go_wp2_with fail
      generalize w3.alloc (.cells #[.int .i64 0, .int .i64 100] 3) = w4 at *
      refine (pick_c 2 HR4.out (by omega) (by omega)).mono ?_
      rintro e w5 ⟨j, rfl, hj0, hj1, -, hR5, he5⟩
      have hj1 := hj1 (by omega)
      have HO5 := Lib.hid (HO4.out.keepT (HR4.out.keepsT he5) (by decide) fun _ _ _ g => g)
      have HE5 := Lib.hid (HE4.out.trans he5)
      have HR5 := Lib.hid hR5
      have hb5 := (HR4.out.keepsT he5) _ _ _ (by decide) HB4.out
      clear hR5 he5
      obtain ⟨mi, rfl⟩ := Int.eq_ofNat_of_zero_le hm0
      obtain ⟨ji, rfl⟩ := Int.eq_ofNat_of_zero_le hj0
      obtain ⟨xm, hxm⟩ := get_of_lt (l := cs) (k := mi) (by rw [Hn.out]; omega)
      obtain ⟨g, cap, hv, hcap, hgb, hc, hfz, hset⟩ := HO5.out.setCkId hxm
      rw [Hn.out] at hv hcap
      simp only [Value.slice.injEq, true_and] at hv
      obtain ⟨rfl, rfl⟩ := hv
      have hcell : ∃ y : Int, w5.cell? ⟨w3.heap.size, ji, none⟩ = some (.int .i64 y) ∧ inI y := by
        rw [hb5.cell]
        rcases ji with _ | _ | ji
        all_goals first | exact ⟨_, rfl, by unfold inI; omega⟩ | omega
      obtain ⟨yu, hyu, hyi⟩ := hcell
      have HOE := Lib.hid (hset yu hyi)
      have HEE := Lib.hid (HE5.out.setNew (p := ⟨g, mi * 2, none⟩) hgb (.int .i64 yu))
      have HRE := Lib.hid (HR5.out.keepT (HO5.out.setKeeps (mi * 2) (.int .i64 yu)) (by decide) (HE5.out.low HEE.out hrb))
      have hlen : (cs.set mi { xm with id := yu }).length ≤ 16 := by rw [List.length_set]; have := Hn.out; omega
      clear hset hxm hb5 hyi
      go_wp2
      go_ret
      exact ⟨_, _, _, rfl, HOE.out, hlen, HRE.out, by omega, by omega, HEE.out⟩
    · have e2 : (v2 == 0) = false := by rw [beq_eq_false_iff_ne]; exact hv2
      go_wp2
      go_ret
      exact ⟨_, cs, _, rfl, HO2.out, by have := Hn.out; omega, HR2.out, by omega, by omega, HE2.out⟩
end Go.Sf

/-! A store is damaged. -/
namespace Go.Sf
open Go Go.RowKit Go.Proofs
def DrewD (rb : Nat) (w : World) (q : Int) (e : Ending) (w' : World) : Prop := ∃ v l q', e = .returned v ∧ Hds w.heap.size w' v l ∧ Rd rb w' q' ∧ q ≤ q' ∧ q' ≤ q + 60 ∧ ExtR rb w w'
theorem tmod_inI (a : Int) : inI (a.tmod 256) := by
  unfold inI
  have h1 := Int.tmod_lt_of_pos a (b := 256) (by decide)
  have h2 : -256 < a.tmod 256 := by
    rw [Int.tmod_eq_emod]
    split
    · omega
    · simp only [Int.natAbs]; omega
  omega
/-- all blocks but the first one -/
theorem hds_tail {B : Nat} {w : World} {A : Option Addr} {n c : Nat} {L : List Hd} (h : Hds B w (.slice A n c) L) (hl : L.length = n) (h1 : 1 ≤ n) {A' : Option Addr} (hA' : (c = 1 ∧ A' = A) ∨ (c ≠ 1 ∧ A' = A.map fun x => { block := x.block, off := x.off + 3 })) : Hds B w (.slice A' (n - 1) (c - 1)) (L.drop 1) := by
  obtain ⟨A0, c0, hv, hn, ⟨hc, hc0⟩, hlim, hel⟩ := h
  simp only [Value.slice.injEq] at hv
  obtain ⟨rfl, hv1, rfl⟩ := hv
  refine ⟨A', c - 1, by rw [List.length_drop, hl], by rw [List.length_drop]; omega, ⟨by omega, fun e => ?_⟩, by rw [List.length_drop]; omega, fun k x hx => ?_⟩
  · rcases hA' with ⟨h2, -⟩ | ⟨-, h2⟩
    · omega
    · rw [e] at h2
      cases A with
      | none => have := hc0 rfl; omega
      | some a => cases h2
  · rw [List.getElem?_drop, Nat.add_comm] at hx
    obtain ⟨b, o, cs, rfl, q2, q3, q4⟩ := hel (k + 1) x hx
    rcases hA' with ⟨h2, -⟩ | ⟨-, h2⟩
    · have := lt_of_get hx; omega
    · refine ⟨b, o + 3, cs, h2, q2, q3, ?_⟩
      rw [show o + 3 + k * 3 = o + (k + 1) * 3 by omega]
      exact q4
theorem ExtR.cellNe {rb : Nat} {w w' : World} (h : ExtR rb w w') {p : Addr} {v : Value} (hne : p.block ≠ rb) (hc : w.cell? p = some v) : w'.cell? p = some v := by
  rw [World.cell?_of_block (h.2.2 p.block (World.block_lt_of_cell? _ _ hc) hne)]
  exact hc
set_option maxRecDepth 4000 in
set_option maxHeartbeats 4000000 in
theorem l92Damage_c {rb B : Nat} {w : World} {q : Int} {v : Value} {l : List Hd} (h : Rd rb w q) (hq : q ≤ 10000000000) (hl : Hds B w v l) (hf : Few l) : Calls TryG.prog 28 #[.pointer (some ⟨rb, 0, none⟩), v] w (DrewD rb w q) := by
  have H := Lib.hid h
  have hrb := h.lt
  have h16 := hf.1
  have Cc := l3Copy_c w hl
  clear h hl
  go_enter TryG.func28, TryG.ntmps28
  go_wp2_with fail
  refine Cc.mono ?_
  rintro e w1 ⟨v1, rfl, hO1, he1⟩
  have HO1 := Lib.hid hO1
  have HE1 := Lib.hid (he1.toR rb)
  have HR1 := Lib.hid (H.out.ext he1)
  obtain ⟨A1, c1, rfl⟩ := hO1.form
  generalize hn : l.length = n at *
  have Hn := Lib.hid hn
  have HF := Lib.hid hf
  clear Cc hO1 hn hf
  go_wp2
  go_loopw [6] (fun i wr => ∃ (k : Nat) (L : List Hd) (q2 : Int), k ≤ n ∧ i = .int .i64 k ∧ OwnS w.heap.size 35 3 (EHd w.heap.size) wr (.slice A1 n c1) L ∧ L.length = n ∧ Few L ∧ Rd rb wr q2 ∧ q ≤ q2 ∧ q2 ≤ q + 3 * k ∧ ExtR rb w wr) (fun i _ => 40 - (RowKit.intOf i).toNat)
  case atStart => exact ⟨0, l, _, by omega, rfl, HO1.out, Hn.out, HF.out, HR1.out, by omega, by omega, HE1.out⟩
  case round =>
    obtain ⟨k, L, q2, hk, rfl, hO, hl, hF, hR, hqa, hqb, hE⟩ := hrel
    have HO3 := Lib.hid hO; have HR3 := Lib.hid hR; have HE3 := Lib.hid hE; have Hl := Lib.hid hl; have HFL := Lib.hid hF
    clear hO hR hE hl hF
    by_cases hlt : k < n
    · have hlt' : (k : Int) < (n : Int) := by omega
      go_wp2_with fail
      refine (pick_c 3 HR3.out (by omega) (by omega)).mono ?_
      rintro e w4 ⟨v4, rfl, h40, h41, -, hR4, he4⟩
      have HO4 := Lib.hid (HO3.out.hd (Nat.le_refl _) (HR3.out.keepsT he4) (by decide) (by decide))
      have HE4 := Lib.hid (HE3.out.trans he4)
      have HR4 := Lib.hid hR4
      clear hR4 he4
      by_cases hv4 : v4 = 0
      · subst hv4
        obtain ⟨x, hx⟩ := get_of_lt (l := L) (k := k) (by rw [Hl.out]; exact hlt)
        obtain ⟨g, cap, u, hv, hcap, hgb, hc, -, hI, -⟩ := HO4.out.setBytes hx
        rw [Hl.out] at hv
        simp only [Value.slice.injEq, true_and] at hv
        obtain ⟨rfl, rfl⟩ := hv
        have hx8 := HFL.out.2 k x hx
        have HI4 := Lib.hid hI
        obtain ⟨A2, c2, rfl, -⟩ := hI
        have Hx := Lib.hid hx
        generalize hnb : x.bytes.length = nb at *
        have Hnb := Lib.hid hnb
        clear hx hnb
        go_wp2_with fail
        refine (pick_c nb HR4.out (by omega) (by omega)).mono ?_
        rintro e w5 ⟨kk, rfl, hk0, hk1, -, hR5, he5⟩
        have hk1 := hk1 (by omega)
        have HO5 := Lib.hid (HO4.out.hd (Nat.le_refl _) (HR4.out.keepsT he5) (by decide) (by decide))
        have HE5 := Lib.hid (HE4.out.trans he5)
        have HR5 := Lib.hid hR5
        obtain ⟨ki, rfl⟩ := Int.eq_ofNat_of_zero_le hk0
        obtain ⟨xk, hxk⟩ := get_of_lt (l := x.bytes) (k := ki) (by rw [Hnb.out]; omega)
        obtain ⟨A3, c3, hv3, hA3⟩ := HI4.out
        rw [Hnb.out] at hv3
        simp only [Value.slice.injEq, true_and] at hv3
        obtain ⟨rfl, rfl⟩ := hv3
        obtain ⟨g2, o2, cs2, rfl, hg2, hb2, hc2, hxi⟩ := hA3.2.2.2 ki xk hxk
        rw [Nat.mul_one] at hc2
        have hgr : g ≠ rb := by omega
        have hg2r : g2 ≠ rb := by omega
        have a1 := fun W (e : ExtR rb w5 W) => (he5.trans e).cellNe (p := ⟨g, k * 3 + 1, none⟩) hgr hc
        have a2 := fun W (e : ExtR rb w5 W) => (he5.trans e).cellNe (p := ⟨g2, o2 + ki, none⟩) hg2r (by rw [hb2.cell]; exact hc2)
        have Hb5 := Lib.hid (he5.blk hb2 hg2r)
        have hkk : (ki : Int) < (nb : Int) := by omega
        clear hc hR5 he5 hA3 hb2 hc2 hxk hxi
        go_wp2
        refine wp_region_hold (fun W => ExtR rb w5 W) 19 [(0, true), (1, true), (2, true), (3, true), (4, true), (5, true), (6, true), (7, true), (8, true), (9, true), (10, true), (11, true), (12, true), (13, true), (14, true), (15, true), (16, false), (17, true), (18, true)] (by kernel_rfl) (by kernel_rfl) ?_ ?_
        · exact (Ext.refl _).drew.toR rb
        (repeat (first | (apply hw_read (by rfl) (by rfl); (· (intro W hW; (try dsimp only at hW); go_simp; (first | done | rfl | (rw [if_pos] <;> first | omega | rfl)))); (try simp only [Act.put, List.setIfInBounds_toArray, List.set_cons_zero, List.set_cons_succ])) | (refine hw_skip (by rfl) (by rfl) ?_; (try simp only [Act.put, List.setIfInBounds_toArray, List.set_cons_zero, List.set_cons_succ]))))
        refine hw_step (by rfl) ?_
        go_wp2_with (go_at_call 29; refine (pick_c 200 (HR5.out.ext (Ext.refl _).drew) (by omega) (by omega)).mono ?_; rintro e w6 ⟨v6, rfl, h60, h61, -, hR6, he6⟩)
        have he56 : ExtR rb w5 w6 := ((Ext.refl w5).drew.toR rb).trans he6
        refine ⟨he56, ?_⟩
        (repeat (first | (apply hw_read (by rfl) (by rfl); (· (intro W hW; (try dsimp only at hW); go_simp; (first | done | rfl | (rw [if_pos] <;> first | omega | rfl)))); (try simp only [Act.put, List.setIfInBounds_toArray, List.set_cons_zero, List.set_cons_succ])) | (refine hw_skip (by rfl) (by rfl) ?_; (try simp only [Act.put, List.setIfInBounds_toArray, List.set_cons_zero, List.set_cons_succ]))))
        (refine hw_nil ?_; (try simp only [List.drop_succ_cons, List.drop_zero]))
        have s2 := a2 w6 he56
        have hb6 := he56.blk Hb5.out hg2r
        have f2 := hb6.frozen (o2 + ki)
        have HO6 := Lib.hid (HO5.out.hd (Nat.le_refl _) (HR5.out.keepsT he56) (by decide) (by decide))
        have HE6 := Lib.hid (HE5.out.trans he56)
        have HR6 := Lib.hid hR6
        have Hb6 := Lib.hid hb6
        have s1 := a1 w6 he56
        clear a1 a2 hb6 hR6 he6
        go_wp2
        (try refine NoPanic.normal ?_)
        (try dsimp only [Exit.then])
        (try go_wp2)
        obtain ⟨L', hl', hL', hO'⟩ := hds_poke (i := o2 + ki) Hb6.out (tmod_inI (RowKit.wrap64 (RowKit.wrap64 (xk + 1) + v6))) HO6.out
        have hF' : Few L' := ⟨by rw [hl', Hl.out]; exact h16, fun j z hz => by
          obtain ⟨z0, h1, h2⟩ := hL' j z hz
          have := HFL.out.2 j z0 h1
          omega⟩
        have hE' := HE6.out.setNew (p := ⟨g2, o2 + ki, none⟩) hg2 (.int .i64 ((RowKit.wrap64 (RowKit.wrap64 (xk + 1) + v6)).tmod 256))
        have hR' := HR6.out.keepT (KeepsT.set (i := o2 + ki) Hb6.out (.int .i64 ((RowKit.wrap64 (RowKit.wrap64 (xk + 1) + v6)).tmod 256)) rfl) (by decide) (HE6.out.low hE' hrb)
        go_roundw
        case rel => exact ⟨k + 1, L', _, by omega, by go_num, hO', hl'.trans Hl.out, hF', hR', by omega, by omega, hE'⟩
        case measure => simp [RowKit.intOf]; omega
      · have e4 : (v4 == 0) = false := by rw [beq_eq_false_iff_ne]; exact hv4
        go_wp2
        go_roundw
        case rel => exact ⟨k + 1, L, _, by omega, by go_num, HO4.out, Hl.out, HFL.out, HR4.out, by omega, by omega, HE4.out⟩
        case measure => simp [RowKit.intOf]; omega
    · have hks : k = n := by omega
      subst hks
      by_cases h0 : k = 0
      · subst h0
        go_wp2
        go_ret
        exact ⟨_, L, _, rfl, HO3.out.isHds (by rw [Hl.out]; unfold lim; omega), HR3.out, by omega, by omega, HE3.out⟩
      · have h0' : (0 : Int) < (k : Int) := by omega
        go_wp2_with fail
        refine (pick_c 8 HR3.out (by omega) (by omega)).mono ?_
        rintro e w4 ⟨v4, rfl, h40, h41, -, hR4, he4⟩
        have HO4 := Lib.hid (HO3.out.hd (Nat.le_refl _) (HR3.out.keepsT he4) (by decide) (by decide))
        have HE4 := Lib.hid (HE3.out.trans he4)
        have HR4 := Lib.hid hR4
        clear hR4 he4
        by_cases hv4 : v4 = 0
        · subst hv4
          have h1k : (1 : Int) ≤ (k : Int) := by omega
          have hH := HO4.out.isHds (by rw [Hl.out]; unfold lim; omega)
          have HT : Hid (∀ A', (c1 = 1 ∧ A' = A1) ∨ (c1 ≠ 1 ∧ A' = A1.map fun x => { block := x.block, off := x.off + 3 }) → Hds w.heap.size w4 (.slice A' (k - 1) (c1 - 1)) (L.drop 1)) := Lib.hid fun A' hA' => hds_tail hH Hl.out (by omega) hA'
          clear hH
          go_wp2
          · next h =>
            subst h
            go_ret
            exact ⟨_, L.drop 1, _, rfl, HT.out _ (.inl ⟨rfl, rfl⟩), HR4.out, by omega, by omega, HE4.out⟩
          · next h =>
            go_ret
            exact ⟨_, L.drop 1, _, rfl, HT.out _ (.inr ⟨h, rfl⟩), HR4.out, by omega, by omega, HE4.out⟩
        · have e4 : (v4 == 0) = false := by rw [beq_eq_false_iff_ne]; exact hv4
          go_wp2
          go_ret
          exact ⟨_, L, _, rfl, HO4.out.isHds (by rw [Hl.out]; unfold lim; omega), HR4.out, by omega, by omega, HE4.out⟩
end Go.Sf

/-! What mending is tried at is drawn. -/
namespace Go.Sf
open Go Go.RowKit Go.Proofs
/-- drawn: two stores and sums -/
def DrewM (w : World) (e : Ending) (w' : World) : Prop := ∃ v1 v2 v3 l cs o, e = .returned (.tuple #[v1, v2, v3]) ∧ Hds w.heap.size w' v1 l ∧ Cks w.heap.size w' v2 cs ∧ Hds w.heap.size w' v3 o ∧ Ext w w'
set_option maxRecDepth 4000 in
set_option maxHeartbeats 4000000 in
theorem DrawMendFrom_c {v : Value} {xs : List Int} (w : World) (h : Bys w v xs) : Calls TryG.prog 8 #[v] w (DrewM w) := by
  have Co := l6Open_c w h
  clear h
  go_enter TryG.func8, TryG.ntmps8
  go_wp2_with fail
  refine Co.mono ?_
  rintro e w1 ⟨rb, rfl, hb1, hb2, hR1, he1⟩
  have HR1 := Lib.hid hR1
  clear Co hR1
  go_wp2_with fail
  refine (l91Store_c HR1.out (by omega)).mono ?_
  rintro e w2 ⟨v2, l, q2, rfl, hO2, hF, hR2, hq2, hq3, he2⟩
  have E2 := he2.ext he1 hb1
  have hl16 := hF.1
  have HF := Lib.hid hF
  have HH2 : Hid (Hds w.heap.size w2 v2 l) := Lib.hid ((hO2.isHds (by unfold lim; omega)).keep he1.size (fun _ _ _ => rfl))
  have HR2 := Lib.hid hR2
  clear hO2 hF hR2
  go_wp2_with fail
  refine (l92Checks_c HR2.out (by omega) HH2.out).mono ?_
  rintro e w3 ⟨v3, cs, q4, rfl, hO3, hcl, hR3, hq4, hq5, he3⟩
  have E3 := he3.ext E2 hb1
  have HH3 := Lib.hid (HH2.out.keepT (HR2.out.keepsT he3) (by decide) (by decide))
  have HC3 : Hid (Cks w.heap.size w3 v3 cs) := Lib.hid (Cks.keep (hO3.sl (ECk_ok _) (Nat.le_refl _) (by unfold lim; omega)) E2.size (fun _ _ _ => rfl))
  have HR3 := Lib.hid hR3
  clear hO3 hR3
  go_wp2_with fail
  refine (l92Damage_c HR3.out (by omega) HH3.out HF.out).mono ?_
  rintro e w4 ⟨v4, l4, q6, rfl, hH4, hR4, hq6, hq7, he4⟩
  have E4 := he4.ext E3 hb1
  have HD4 : Hid (Hds w.heap.size w4 v4 l4) := Lib.hid (hH4.keep E3.size (fun _ _ _ => rfl))
  have HH4 := Lib.hid (HH3.out.keepT (HR3.out.keepsT he4) (by decide) (by decide))
  have HC4 := Lib.hid (HC3.out.keepT (HR3.out.keepsT he4) (by decide))
  have HR4 := Lib.hid hR4
  clear hH4 hR4
  go_wp2_with fail
  refine (pick_c 3 HR4.out (by omega) (by omega)).mono ?_
  rintro e w5 ⟨v5, rfl, h50, h51, -, hR5, he5⟩
  have E5 := he5.ext E4 hb1
  have HD5 := Lib.hid (HD4.out.keepT (HR4.out.keepsT he5) (by decide) (by decide))
  have HH5 := Lib.hid (HH4.out.keepT (HR4.out.keepsT he5) (by decide) (by decide))
  have HC5 := Lib.hid (HC4.out.keepT (HR4.out.keepsT he5) (by decide))
  have HR5 := Lib.hid hR5
  clear hR5
  by_cases hv : v5 = 0
  · subst hv
    go_wp2_with fail
    refine (l92Damage_c HR5.out (by omega) HH5.out HF.out).mono ?_
    rintro e w6 ⟨v6, l6, q8, rfl, hH6, hR6, hq8, hq9, he6⟩
    have E6 := he6.ext E5 hb1
    have HX6 : Hid (Hds w.heap.size w6 v6 l6) := Lib.hid (hH6.keep E5.size (fun _ _ _ => rfl))
    have HD6 := Lib.hid (HD5.out.keepT (HR5.out.keepsT he6) (by decide) (by decide))
    have HC6 := Lib.hid (HC5.out.keepT (HR5.out.keepsT he6) (by decide))
    clear hH6 hR6
    go_wp2
    go_ret3
    exact ⟨_, _, _, _, _, _, rfl, HD6.out, HC6.out, HX6.out, E6⟩
  · have e5 : (v5 == 0) = false := by rw [beq_eq_false_iff_ne]; exact hv
    go_wp2
    go_ret3
    exact ⟨_, _, _, _, _, _, rfl, HD5.out, HC5.out, HH5.out, E5⟩
end Go.Sf
