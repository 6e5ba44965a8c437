/- Copies of arguments: toIntS, toItem, toItemS make memory of the call's own, each row apart. -/
import Derived.Test.YtbdgpbakhjpklaaGreatDoorX1
namespace Go.Sf
open Go Go.RowKit Go.Proofs
/-- `make([]T, n)`: a row of n elements, whatever they are -/
theorem run_mk {P : Program} {T t : TypeId} {sz : Nat} (el : Elem P T t sz) (n : Nat) (hn : n ≤ lim) : ∃ cs : Array Value, cs.size = n * sz ∧
    ∀ W, (Instr.makeSlice T (.int .i64 n) (.int .i64 n)).run P W = .ok (.slice (some ⟨W.heap.size, 0, none⟩) n n) (W.alloc (.cells cs t)) := by
  obtain ⟨i, z, by_, hi, hz, hsz, hby, hb128, hzs⟩ := el.info
  refine ⟨madeCells z.cells (n * i.size), by rw [size_madeCells, hsz], fun W => ?_⟩
  have hm : by_ * n ≤ 128 * n := Nat.mul_le_mul_right _ hb128
  unfold lim at hn
  have := run_make (P := P) W T t i z el.under hi hz .i64 .i64 n n (by omega) (Int.le_refl _) (by rw [hby]; rw [← Int.natCast_mul]; omega) (by omega)
  simpa using this
/-- a row of one's own: the cells ahead of k are the list's -/
def RowTo (w : World) (g : Nat) (n : Nat) (l : List Int) (k : Nat) : Prop := ∃ cs : Array Value, Blk w g 3 cs ∧ cs.size = n ∧ ∀ i x, i < k → l[i]? = some x → cs[i]? = some (.int .i64 x)
theorem RowTo.put {w W : World} {g n k : Nat} {l : List Int} {x : Int} (h : RowTo w g n l k) (e : Ext w W) (hx : l[k]? = some x) (hk : k < n) : RowTo (W.setCell ⟨g, k, none⟩ (.int .i64 x)) g n l (k + 1) := by
  obtain ⟨cs, h1, h2, h3⟩ := h
  refine ⟨_, (h1.ext e).set_ k (.int .i64 x), by simpa using h2, fun i y hi hy => ?_⟩
  rw [Array.getElem?_setIfInBounds]
  by_cases hik : k = i
  · subst hik
    rw [hx] at hy
    rw [if_pos rfl, if_pos (by omega), Option.some.inj hy]
  · rw [if_neg hik]; exact h3 i y (by omega) hy
/-- a slice in a block that the call laid -/
def NewIn (w w' : World) (u : Value) : Prop := ∃ g, u.ownBlock = some g ∧ w.heap.size ≤ g ∧ g < w'.heap.size
set_option maxRecDepth 4000 in
set_option maxHeartbeats 1000000 in
theorem toIntS_c {v : Value} {xs : List Int} (w : World) (h : AInts w v xs) (hl : xs.length ≤ lim) :
    Calls Tryz.prog 101 #[v] w (RetP (fun u w' => u = .slice (some ⟨w.heap.size, 0, none⟩) xs.length xs.length ∧ Ints w.heap.size w' u xs ∧ NewIn w w' u) w) := by
  obtain ⟨A, c, rfl, hlc, ⟨hcm, hA⟩, hel⟩ := h
  obtain ⟨cs0, hcs, hmk⟩ := run_mk el_int xs.length hl
  have hlim := Lib.hid hl
  have hin : Hid (∀ k x, xs[k]? = some x → inI x) := Lib.hid fun k x hx => by obtain ⟨b, o, _, _, h⟩ := hel k x hx; exact h
  unfold lim at hl
  have hex : ∃ n, xs.length = n := ⟨_, rfl⟩
  obtain ⟨n, hn⟩ := hex
  rw [hn] at hl hmk hcs ⊢
  have Hn := Lib.hid hn
  have HE := Lib.hid hel
  have Hcs := Lib.hid hcs
  clear hel hlc hcm hA hn hcs
  go_enter Tryz.func101, Tryz.ntmps101
  go_wp2
  clear hmk
  go_loopw [4] (fun i wr => ∃ k : Nat, k ≤ n ∧ i = .int .i64 k ∧ Ext w wr ∧ Hid (RowTo wr w.heap.size n xs k)) (fun i _ => n - (intOf i).toNat)
  case atStart => exact ⟨0, by omega, rfl, (Ext.refl w).alloc _, Lib.hid ⟨cs0, Blk.new _ _ _, by simpa using Hcs.out, fun i x hi => by omega⟩⟩
  case round =>
    obtain ⟨k, hk, rfl, he, hR⟩ := hrel
    by_cases hlt : k < n
    · obtain ⟨x, hx⟩ := get_of_lt (l := xs) (k := k) (by rw [Hn.out]; exact hlt)
      obtain ⟨b, o, rfl, hc0, hI⟩ := HE.out k x hx
      have a0 := he.cell hc0
      rw [Nat.mul_one] at a0
      have f0 : wr.frozen? ⟨w.heap.size, k, none⟩ = false := by obtain ⟨cs, h1, -⟩ := hR.out; exact h1.frozen k
      have d0 : ∃ u, wr.cell? ⟨w.heap.size, k, none⟩ = some u := by
        obtain ⟨cs, h1, h2, -⟩ := hR.out
        rw [h1.cell]; exact ⟨cs[k], by simp [h2, hlt]⟩
      obtain ⟨u0, d0⟩ := d0
      have Hx := Lib.hid hx
      clear hc0 hx
      go_wp2
      go_roundw
      case rel => exact ⟨k + 1, by omega, by go_num, he.setCell (Nat.le_refl _) _, Lib.hid (hR.out.put (Ext.refl _) Hx.out hlt)⟩
      case measure => simp [intOf]; omega
    · have hks : k = n := by omega
      subst hks
      go_wp2
      go_ret
      refine ⟨.slice (some ⟨w.heap.size, 0, none⟩) k k, rfl, ⟨rfl, ⟨some ⟨w.heap.size, 0, none⟩, k, by rw [Hn.out], by rw [Hn.out]; exact Nat.le_refl _, ⟨by unfold maxLen; omega, fun h => by cases h⟩, hlim.out, fun i x hx => ?_⟩, ⟨w.heap.size, rfl, Nat.le_refl _, by obtain ⟨cs, h1, -⟩ := hR.out; exact h1.lt⟩⟩, he⟩
      obtain ⟨cs, h1, h2, h3⟩ := hR.out
      refine ⟨w.heap.size, 0, cs, rfl, Nat.le_refl _, h1, ?_, hin.out i x hx⟩
      have := lt_of_get hx
      rw [Nat.zero_add, Nat.mul_one]
      exact h3 i x (by have := Hn.out; omega) hx
/-- an item whose slice of ids is told, too -/
def EItU (B : Nat) (w : World) (cs : Array Value) (p : Nat) (q : It × Value) : Prop :=
  cs[p]? = some (.string q.1.path) ∧ q.1.path.size < lim ∧ cs[p + 1]? = some (.bool q.1.dir) ∧ cs[p + 2]? = some q.2 ∧ Ints B w q.2 q.1.ids
def ItsU (B : Nat) (w : World) (v : Value) (l : List (It × Value)) : Prop := SlOf B 32 3 (EItU B) w v l
/-- no two of them share their ints -/
def Sep {α : Type} (l : List (α × Value)) : Prop := l.Pairwise fun a b => ∀ g, a.2.ownBlock = some g → b.2.ownBlock ≠ some g
set_option maxRecDepth 4000 in
set_option maxHeartbeats 1000000 in
theorem toItem_c {v : Value} {x : It} (w : World) (h : AItV w v x) (hps : x.path.size < lim) (hl : x.ids.length ≤ lim) :
    Calls Tryz.prog 59 #[v] w (RetP (fun r w' => ∃ u, r = .agg #[.string x.path, .bool x.dir, u] ∧ Ints w.heap.size w' u x.ids ∧ NewIn w w' u) w) := by
  obtain ⟨xp, xd, xi⟩ := x
  obtain ⟨u, rfl, -, hu⟩ := h
  simp only at hps hu hl
  have Hl := Lib.hid hl
  have HU := Lib.hid hu
  clear hu hl
  go_enter Tryz.func59, Tryz.ntmps59
  go_wp2_with fail
  refine (toIntS_c _ (HU.out.ext (by (repeat' (first | exact Ext.refl _ | assumption | refine Ext.alloc ?_ _ | refine Ext.drew ?_ | refine Ext.drewN ?_ _)))) Hl.out).mono ?_
  rintro e w4 ⟨r, rfl, ⟨rfl, hI, hN⟩, he⟩
  obtain ⟨g, hg1, hg2, hg3⟩ := hN
  simp only [World.size_alloc] at hI hg1 hg2 ⊢
  have hb2 := ((Blk.new (w.alloc (.cells #[.string xp, .bool xd, u] 83)) 32 #[.string ⟨#[]⟩, .bool false, .slice none 0 0]).alloc (.cells #[.string xp, .bool xd, .slice none 0 0] 32)).ext he
  have hb3 := (Blk.new ((w.alloc (.cells #[.string xp, .bool xd, u] 83)).alloc (.cells #[.string ⟨#[]⟩, .bool false, .slice none 0 0] 32)) 32 #[.string xp, .bool xd, .slice none 0 0]).ext he
  simp only [World.size_alloc] at hb2 hb3
  have he4 : Ext w w4 := Ext.trans (by (repeat' (first | exact Ext.refl _ | assumption | refine Ext.alloc ?_ _ | refine Ext.drew ?_ | refine Ext.drewN ?_ _))) he
  have c0 := hb3.cell 0; have c1 := hb3.cell 1; have c2 := hb3.cell 2
  have d0 := hb2.cell 0; have d1 := hb2.cell 1; have d2 := hb2.cell 2
  have f2 := hb3.frozen 2
  have g0 := hb2.frozen 0; have g1 := hb2.frozen 1; have g2 := hb2.frozen 2
  simp at c0 c1 c2 d0 d1 d2
  have HI := Lib.hid hI; have Hb2 := Lib.hid hb2; have Hb3 := Lib.hid hb3
  have Hg : Hid (∃ g, (Value.slice (some ⟨w.heap.size + 1 + 1 + 1, 0, none⟩) xi.length xi.length).ownBlock = some g ∧ w.heap.size ≤ g ∧ g < w4.heap.size) := Lib.hid ⟨g, hg1, by omega, hg3⟩
  clear hI hb2 hb3 he hg1 hg2 hg3
  have hgg : ∃ gg, w.heap.size + 1 + 1 + 1 = gg := ⟨_, rfl⟩
  obtain ⟨gg, hgg⟩ := hgg
  rw [hgg] at HI Hg ⊢
  have hge : w.heap.size ≤ gg := by omega
  clear hgg
  go_wp2
  have B2 := Hb3.out.far (p := ⟨w.heap.size + 1, 2, none⟩) (by simp) (.slice (some ⟨gg, 0, none⟩) xi.length xi.length)
  have K0 : KeepsT 32 w4 _ := KeepsT.set (i := 2) Hb3.out (.slice (some ⟨gg, 0, none⟩) xi.length xi.length) rfl
  have E0 := he4.setCell (p := ⟨w.heap.size + 1 + 1, 2, none⟩) (by simp; omega) (.slice (some ⟨gg, 0, none⟩) xi.length xi.length)
  have B1 := Hb2.out.far (p := ⟨w.heap.size + 1 + 1, 2, none⟩) (by simp) (.slice (some ⟨gg, 0, none⟩) xi.length xi.length)
  have s0 : (w4.setCell ⟨w.heap.size + 1 + 1, 2, none⟩ (.slice (some ⟨gg, 0, none⟩) xi.length xi.length)).heap.size = w4.heap.size := World.size_setCell _ _ _
  generalize w4.setCell ⟨w.heap.size + 1 + 1, 2, none⟩ (.slice (some ⟨gg, 0, none⟩) xi.length xi.length) = w5 at *
  have B3 := ((B1.set_ 0 (.string xp)).set_ 1 (.bool xd)).set_ 2 (.slice (some ⟨gg, 0, none⟩) xi.length xi.length)
  have K1 := K0.trans ((KeepsT.set (i := 0) B1 (.string xp) rfl).trans ((KeepsT.set (i := 1) (B1.set_ 0 (.string xp)) (.bool xd) rfl).trans (KeepsT.set (i := 2) ((B1.set_ 0 (.string xp)).set_ 1 (.bool xd)) (.slice (some ⟨gg, 0, none⟩) xi.length xi.length) rfl)))
  have E3 := ((E0.setCell (p := ⟨w.heap.size + 1, 0, none⟩) (by simp) (.string xp)).setCell (p := ⟨w.heap.size + 1, 1, none⟩) (by simp) (.bool xd)).setCell (p := ⟨w.heap.size + 1, 2, none⟩) (by simp) (.slice (some ⟨gg, 0, none⟩) xi.length xi.length)
  have s3 : (((w5.setCell ⟨w.heap.size + 1, 0, none⟩ (.string xp)).setCell ⟨w.heap.size + 1, 1, none⟩ (.bool xd)).setCell ⟨w.heap.size + 1, 2, none⟩ (.slice (some ⟨gg, 0, none⟩) xi.length xi.length)).heap.size = w4.heap.size := by simp [s0]
  simp at B3
  generalize ((w5.setCell ⟨w.heap.size + 1, 0, none⟩ (.string xp)).setCell ⟨w.heap.size + 1, 1, none⟩ (.bool xd)).setCell ⟨w.heap.size + 1, 2, none⟩ (.slice (some ⟨gg, 0, none⟩) xi.length xi.length) = w6 at *
  have z0 := B3.cell 0; have z1 := B3.cell 1; have z2 := B3.cell 2
  simp at z0 z1 z2
  have HI' : Ints w.heap.size w6 (.slice (some ⟨gg, 0, none⟩) xi.length xi.length) xi := SlOf.mono (SlOf.keepT (show SlOf _ _ _ _ w4 (.slice (some ⟨gg, 0, none⟩) xi.length xi.length) xi from HI.out) K1 (by decide) (fun _ _ _ h => h)) hge (fun _ _ _ => rfl) (fun _ _ _ h => h)
  exact bodyPost_ret (v := .agg #[.string xp, .bool xd, (.slice (some ⟨gg, 0, none⟩) xi.length xi.length)]) (by simp [results, Tryz.results59, go_sem, z0, z1, z2]) rfl ⟨_, rfl, ⟨_, rfl, HI', by obtain ⟨g, h1, h2, h3⟩ := Hg.out; exact ⟨g, h1, h2, by rw [s3]; exact h3⟩⟩, E3⟩
/-- a row of items of the call's own at g: the first k are there -/
def RowItU (w : World) (g n : Nat) (l : List It) (k : Nat) : Prop := ∃ (lu : List (It × Value)) (cs : Array Value), lu.length = k ∧ lu.map Prod.fst = l.take k ∧ Blk w g 32 cs ∧ cs.size = n * 3 ∧
  (∀ i q, lu[i]? = some q → EItU g w cs (i * 3) q) ∧ Sep lu ∧ ∀ q, q ∈ lu → ∃ b, q.2.ownBlock = some b ∧ b < w.heap.size
theorem Sep.snoc {α : Type} {l : List (α × Value)} {q : α × Value} (h : Sep l) (hq : ∀ p, p ∈ l → ∀ g, p.2.ownBlock = some g → q.2.ownBlock ≠ some g) : Sep (l ++ [q]) := by
  unfold Sep at h ⊢
  rw [List.pairwise_append]
  exact ⟨h, List.pairwise_singleton _ _, fun a ha b hb => by rw [List.mem_singleton] at hb; subst hb; exact hq a ha⟩
theorem EItU.keepT {B : Nat} {t : TypeId} {w w' : World} {cs : Array Value} {p : Nat} {q : It × Value} (h : EItU B w cs p q) (hk : KeepsT t w w') (ht : 3 ≠ t) : EItU B w' cs p q :=
  let ⟨h1, h2, h3, h4, h5⟩ := h; ⟨h1, h2, h3, h4, h5.keepT hk ht⟩
theorem EItU.keep {B B' : Nat} {w w' : World} {cs : Array Value} {p : Nat} {q : It × Value} (h : EItU B w cs p q) (hB : B' ≤ B) (hk : Keeps B w w') : EItU B' w' cs p q :=
  let ⟨h1, h2, h3, h4, h5⟩ := h; ⟨h1, h2, h3, h4, h5.keep hB hk⟩
theorem EItU.loc {B : Nat} {w : World} {cs cs' : Array Value} {p p' : Nat} {q : It × Value} (h : EItU B w cs p q) (hj : ∀ j, j < 3 → cs'[p' + j]? = cs[p + j]?) : EItU B w cs' p' q := by
  obtain ⟨h1, h2, h3, h4, h5⟩ := h
  have j0 := hj 0 (by omega); have j1 := hj 1 (by omega); have j2 := hj 2 (by omega)
  simp only [Nat.add_zero] at j0
  exact ⟨j0.trans h1, h2, j1.trans h3, j2.trans h4, h5⟩
theorem EItU_ok (B : Nat) : ElOk 32 3 (EItU B) := ⟨fun _ _ _ _ _ hk h => h.keepT hk (by decide), fun _ _ _ _ _ _ hj h => h.loc hj, fun _ _ _ _ ⟨h1, _, h3, h4, h5⟩ j hj => match j, hj with
  | 0, _ => ⟨_, h1, rfl⟩
  | 1, _ => ⟨_, h3, rfl⟩
  | 2, _ => ⟨_, h4, h5.one⟩⟩
theorem ItsU.its {B : Nat} {w : World} {v : Value} {lu : List (It × Value)} (h : ItsU B w v lu) : Its B w v (lu.map Prod.fst) := by
  obtain ⟨A, c, rfl, h1, h2, h3, h4⟩ := h
  refine ⟨A, c, by rw [List.length_map], by rw [List.length_map]; exact h1, h2, by rw [List.length_map]; exact h3, fun k x hx => ?_⟩
  rw [List.getElem?_map, Option.map_eq_some_iff] at hx
  obtain ⟨q, hq, rfl⟩ := hx
  obtain ⟨b, o, cs, e1, e2, e3, f1, f2, f3, f4, f5⟩ := h4 k q hq
  exact ⟨b, o, cs, e1, e2, e3, f1, f2, f3, ⟨_, f4, f5⟩⟩
theorem ItsU.keep {B B' : Nat} {w w' : World} {v : Value} {lu : List (It × Value)} (h : ItsU B w v lu) (hB : B' ≤ B) (hk : Keeps B w w') : ItsU B' w' v lu := SlOf.mono h hB hk fun _ _ _ e => e.keep hB hk
theorem ItsU.ext {B : Nat} {w w' : World} {v : Value} {lu : List (It × Value)} (h : ItsU B w v lu) (e : Ext w w') : ItsU B w' v lu := h.keep (Nat.le_refl _) (e.keeps _)
theorem RowItU.put {w W : World} {g n k : Nat} {l : List It} {x : It} {u : Value} (h : RowItU w g n l k) (e : Ext w W) (hx : l[k]? = some x) (hk : k < n) (hps : x.path.size < lim) (hu : Ints w.heap.size W u x.ids) (hN : NewIn w W u) :
    RowItU (((W.setCell ⟨g, k * 3, none⟩ (.string x.path)).setCell ⟨g, k * 3 + 1, none⟩ (.bool x.dir)).setCell ⟨g, k * 3 + 2, none⟩ u) g n l (k + 1) := by
  obtain ⟨lu, cs, h1, h2, h3, h4, h5, h6, h7⟩ := h
  have hg := h3.lt
  have B0 := h3.ext e
  have B1 := B0.set_ (k * 3) (.string x.path)
  have B2 := B1.set_ (k * 3 + 1) (.bool x.dir)
  have B3 := B2.set_ (k * 3 + 2) u
  have K := (KeepsT.set (i := k * 3) B0 (.string x.path) rfl).trans ((KeepsT.set (i := k * 3 + 1) B1 (.bool x.dir) rfl).trans (KeepsT.set (i := k * 3 + 2) B2 u rfl))
  refine ⟨lu ++ [(x, u)], _, by simp [h1], by rw [List.map_append, h2, List.take_add_one, hx]; rfl, B3, by simpa using h4, ?_, ?_, ?_⟩
  · intro i q hq
    have cell : ∀ j, (((cs.setIfInBounds (k * 3) (.string x.path)).setIfInBounds (k * 3 + 1) (.bool x.dir)).setIfInBounds (k * 3 + 2) u)[j]? = if j = k * 3 + 2 then some u else if j = k * 3 + 1 then some (.bool x.dir) else if j = k * 3 then some (.string x.path) else cs[j]? := fun j => by
      simp only [Array.getElem?_setIfInBounds, Array.size_setIfInBounds]
      by_cases q2 : j = k * 3 + 2
      · subst q2; rw [if_pos rfl, if_pos (by omega), if_pos rfl]
      · rw [if_neg (fun h => q2 h.symm), if_neg q2]
        by_cases q1 : j = k * 3 + 1
        · subst q1; rw [if_pos rfl, if_pos (by omega), if_pos rfl]
        · rw [if_neg (fun h => q1 h.symm), if_neg q1]
          by_cases q0 : j = k * 3
          · subst q0; rw [if_pos rfl, if_pos (by omega), if_pos rfl]
          · rw [if_neg (fun h => q0 h.symm), if_neg q0]
    rcases Nat.lt_or_ge i k with hik | hik
    · rw [List.getElem?_append_left (by omega)] at hq
      refine (((h5 i q hq).keep (Nat.le_refl _) (e.keeps _)).keepT K (by decide)).loc fun j hj => ?_
      rw [cell, if_neg (by omega), if_neg (by omega), if_neg (by omega)]
    · rw [List.getElem?_append_right (by omega), h1] at hq
      have hik' : i = k := by
        have := lt_of_get hq
        simp at this; omega
      subst hik'
      simp at hq
      subst hq
      refine ⟨?_, hps, ?_, ?_, (hu.keep (Nat.le_of_lt hg) (fun _ _ _ => rfl)).keepT K (by decide)⟩
      · rw [cell, if_neg (by omega), if_neg (by omega), if_pos rfl]
      · rw [cell, if_neg (by omega), if_pos rfl]
      · rw [cell, if_pos rfl]
  · obtain ⟨b, hb1, hb2, hb3⟩ := hN
    refine h6.snoc fun p hp g' hg' hq => ?_
    obtain ⟨b', hb', hlt⟩ := h7 p hp
    rw [hb'] at hg'
    simp only at hq
    rw [hb1] at hq
    have := Option.some.inj hg'; have := Option.some.inj hq
    omega
  · intro q hq
    have hsz : (((W.setCell ⟨g, k * 3, none⟩ (.string x.path)).setCell ⟨g, k * 3 + 1, none⟩ (.bool x.dir)).setCell ⟨g, k * 3 + 2, none⟩ u).heap.size = W.heap.size := by simp
    rw [hsz]
    rw [List.mem_append, List.mem_singleton] at hq
    rcases hq with hq | rfl
    · obtain ⟨b, hb, hlt⟩ := h7 q hq
      exact ⟨b, hb, Nat.lt_of_lt_of_le hlt e.size⟩
    · obtain ⟨b, hb1, hb2, hb3⟩ := hN
      exact ⟨b, hb1, hb3⟩
set_option maxRecDepth 4000 in
set_option maxHeartbeats 1000000 in
theorem toItemS_c {v : Value} {l : List It} (w : World) (h : AIts w v l) (hb : bkIts l ≤ 1048576) :
    Calls Tryz.prog 28 #[v] w (RetP (fun u w' => ∃ lu, lu.map Prod.fst = l ∧ ItsU w.heap.size w' u lu ∧ Sep lu) w) := by
  obtain ⟨A, c, rfl, hlc, ⟨hcm, hA⟩, hel⟩ := h
  have hl : l.length ≤ 1048576 := by unfold bkIts at hb; omega
  have hbd : Hid (∀ (k : Nat) (x : It), l[k]? = some x → x.path.size < lim ∧ x.ids.length ≤ lim) := Lib.hid fun k x hx => by
    have h1 := bk_take_le l (k + 1)
    rw [bk_take hx] at h1
    have hbk : bkIt x = x.path.size + x.ids.length := rfl
    unfold bkIts at hb; unfold lim; omega
  have hlim : Hid (l.length ≤ lim) := Lib.hid (by unfold lim; omega)
  obtain ⟨cs0, hcs, hmk⟩ := run_mk el_It l.length hlim.out
  have hex : ∃ n, l.length = n := ⟨_, rfl⟩
  obtain ⟨n, hn⟩ := hex
  rw [hn] at hl hmk hcs ⊢
  have Hn := Lib.hid hn
  have HE := Lib.hid hel
  have Hcs := Lib.hid hcs
  clear hel hlc hcm hA hn hcs hb
  go_enter Tryz.func28, Tryz.ntmps28
  go_wp2
  clear hmk
  go_loopw [4] (fun i wr => ∃ k : Nat, k ≤ n ∧ i = .int .i64 k ∧ Ext w wr ∧ Hid (RowItU wr w.heap.size n l k)) (fun i _ => n - (intOf i).toNat)
  case atStart => exact ⟨0, by omega, rfl, (Ext.refl w).alloc _, Lib.hid ⟨[], cs0, rfl, rfl, Blk.new _ _ _, Hcs.out, fun i x hi => by simp at hi, List.Pairwise.nil, fun q hq => by simp at hq⟩⟩
  case round =>
    obtain ⟨k, hk, rfl, he, hR⟩ := hrel
    by_cases hlt : k < n
    · obtain ⟨x, hx⟩ := get_of_lt (l := l) (k := k) (by rw [Hn.out]; exact hlt)
      obtain ⟨b, o, rfl, hc0, hps, hc1, u, hc2, hu⟩ := HE.out k x hx
      obtain ⟨hp1, hp2⟩ := hbd.out k x hx
      obtain ⟨Au, cu, rfl, hU⟩ := hu
      have Hs := Lib.hid (toItem_c (x := x) wr ⟨_, rfl, hps, AInts.ext ⟨_, _, rfl, hU⟩ he⟩ hp1 hp2)
      have a0 := he.cell hc0; have a1 := he.cell hc1; have a2 := he.cell hc2
      have Hx := Lib.hid hx; have Hp1 := Lib.hid hp1
      clear hc0 hc1 hc2 hU hx hps hp1 hp2
      go_wp2_with fail
      refine Hs.out.mono ?_
      rintro e w1 ⟨r, rfl, ⟨u, rfl, hu, hN⟩, he1⟩
      have ff := fun i => show w1.frozen? ⟨w.heap.size, i, none⟩ = false from by obtain ⟨lu, cs, -, -, h1, -⟩ := hR.out; exact (h1.ext he1).frozen i
      have dd : ∀ i, i < n * 3 → ∃ u, w1.cell? ⟨w.heap.size, i, none⟩ = some u := fun i hi => by
        obtain ⟨lu, cs, -, -, h1, h2, -⟩ := hR.out
        rw [(h1.ext he1).cell]; exact ⟨cs[i], by simp [h2, hi]⟩
      obtain ⟨z0, d0⟩ := dd (k * 3) (by omega); obtain ⟨z1, d1⟩ := dd (k * 3 + 1) (by omega); obtain ⟨z2, d2⟩ := dd (k * 3 + 2) (by omega)
      have f0 := ff (k * 3); have f1 := ff (k * 3 + 1); have f2 := ff (k * 3 + 2)
      have Hu := Lib.hid hu; have HN := Lib.hid hN
      obtain ⟨A2, c2, rfl, -⟩ := hu
      clear ff dd hN a0 a1 a2
      go_wp2
      go_roundw
      case rel => exact ⟨k + 1, by omega, by go_num, (((he.trans he1).setCell (Nat.le_refl _) _).setCell (Nat.le_refl _) _).setCell (Nat.le_refl _) _, Lib.hid (hR.out.put he1 Hx.out hlt Hp1.out Hu.out HN.out)⟩
      case measure => simp [intOf]; omega
    · have hks : k = n := by omega
      subst hks
      go_wp2
      go_ret
      obtain ⟨lu, cs, h1, h2, h3, h4, h5, h6, h7⟩ := hR.out
      refine ⟨.slice (some ⟨w.heap.size, 0, none⟩) k k, rfl, ⟨lu, by rw [h2]; exact List.take_of_length_le (by rw [Hn.out]; omega), ⟨some ⟨w.heap.size, 0, none⟩, k, by rw [h1], by rw [h1]; exact Nat.le_refl _, ⟨by unfold maxLen; omega, fun h => by cases h⟩, by rw [h1]; unfold lim; omega, fun i x hx => ?_⟩, h6⟩, he⟩
      refine ⟨w.heap.size, 0, cs, rfl, Nat.le_refl _, h3, ?_⟩
      rw [Nat.zero_add]
      exact h5 i x hx
end Go.Sf
