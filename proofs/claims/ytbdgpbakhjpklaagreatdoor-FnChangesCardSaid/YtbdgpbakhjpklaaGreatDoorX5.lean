/- Readings with the inner slice told, plain marks, and the walks that mark rows (written by gen_marks.py). -/
import Derived.Test.YtbdgpbakhjpklaaGreatDoorX4
namespace Go.Sf
open Go Go.RowKit Go.Proofs
set_option maxHeartbeats 1000000 in
theorem heldIntS_c {B : Nat} {u : Value} {n : Nat} {k : Int} (w : World) (h : Ints B w u (mkInts k n)) (h0 : 0 ≤ k) (h1 : k + (n : Nat) ≤ 2305843009213693951) : Calls Tryz.prog 63 #[u, .int .i64 k] w (Ret (.int .i64 (k + (n : Nat))) w) := by
  obtain ⟨A, c, rfl, hA⟩ := h
  rw [mkInts_len]
  have hl := hA.2.2.1
  rw [mkInts_len] at hl
  unfold lim at hl
  have HA := Lib.hid hA; clear hA
  go_enter Tryz.func63, Tryz.ntmps63
  go_wp2
  go_loopw [1, 5] (fun q i wr => ∃ j : Nat, j ≤ n ∧ i = .int .i64 j ∧ q = .int .i64 (k + (j : Nat)) ∧ Ext w wr) (fun _ i _ => n - (intOf i).toNat)
  case atStart => exact ⟨0, by omega, rfl, by simp, Ext.refl w⟩
  case round =>
    obtain ⟨j, hj, rfl, rfl, he⟩ := hrel
    by_cases hlt : j < n
    · have hx : (mkInts k n)[j]? = some (k + (j : Nat)) := by simp [mkInts, hlt]
      obtain ⟨b, o, rfl, -, -, -, hc0⟩ := Ints.at_ HA.out hx
      have a0 := hc0 wr he
      clear hc0 hx
      go_wp2
      go_roundw
      case rel => exact ⟨j + 1, by omega, by go_num, by go_num, he⟩
      case measure => simp [intOf]; omega
    · have hjs : j = n := by omega
      subst hjs
      go_wp2
      go_ret
      exact ⟨rfl, he⟩
/-! ### impl.Change -/
def EChU (B : Nat) (w : World) (cs : Array Value) (p : Nat) (q : Ch × Value) : Prop :=
  cs[p]? = some (.int .i64 q.1.kind) ∧ inI q.1.kind ∧ cs[p + 1]? = some (.string q.1.item.path) ∧ q.1.item.path.size < lim ∧ cs[p + 2]? = some (.bool q.1.item.dir) ∧ cs[p + 3]? = some q.2 ∧ Ints B w q.2 q.1.item.ids
def ChsU (B : Nat) (w : World) (v : Value) (l : List (Ch × Value)) : Prop := SlOf B 95 4 (EChU B) w v l
theorem EChU.keepT {B : Nat} {t : TypeId} {w w' : World} {cs : Array Value} {p : Nat} {q : Ch × Value} (h : EChU B w cs p q) (hk : KeepsT t w w') (ht : 3 ≠ t) : EChU B w' cs p q :=
  let ⟨y0, g0, y1, g1, y2, y3, hI⟩ := h; ⟨y0, g0, y1, g1, y2, y3, hI.keepT hk ht⟩
theorem EChU.keep {B B' : Nat} {w w' : World} {cs : Array Value} {p : Nat} {q : Ch × Value} (h : EChU B w cs p q) (hB : B' ≤ B) (hk : Keeps B w w') : EChU B' w' cs p q :=
  let ⟨y0, g0, y1, g1, y2, y3, hI⟩ := h; ⟨y0, g0, y1, g1, y2, y3, hI.keep hB hk⟩
theorem EChU.loc {B : Nat} {w : World} {cs cs' : Array Value} {p p' : Nat} {q : Ch × Value} (h : EChU B w cs p q) (hj : ∀ j, j < 4 → cs'[p' + j]? = cs[p + j]?) : EChU B w cs' p' q := by
  obtain ⟨y0, g0, y1, g1, y2, y3, hI⟩ := h
  have j0 := hj 0 (by omega); have j1 := hj 1 (by omega); have j2 := hj 2 (by omega); have j3 := hj 3 (by omega)
  simp only [Nat.add_zero] at j0
  exact ⟨j0.trans y0, g0, j1.trans y1, g1, j2.trans y2, j3.trans y3, hI⟩
theorem EChU_ok (B : Nat) : ElOk 95 4 (EChU B) := ⟨fun _ _ _ _ _ hk h => h.keepT hk (by decide), fun _ _ _ _ _ _ hj h => h.loc hj, fun _ _ _ _ ⟨y0, _, y1, _, y2, y3, hI⟩ j hj => match j, hj with
  | 0, _ => ⟨_, y0, rfl⟩
  | 1, _ => ⟨_, y1, rfl⟩
  | 2, _ => ⟨_, y2, rfl⟩
  | 3, _ => ⟨_, y3, hI.one⟩⟩
theorem ChsU.plain {B : Nat} {w : World} {v : Value} {lu : List (Ch × Value)} (h : ChsU B w v lu) : Chs B w v (lu.map Prod.fst) := by
  obtain ⟨A, c, rfl, h1, h2, h3, h4⟩ := h
  refine ⟨A, c, by rw [List.length_map], by rw [List.length_map]; exact h1, h2, by rw [List.length_map]; exact h3, fun k x hx => ?_⟩
  rw [List.getElem?_map, Option.map_eq_some_iff] at hx
  obtain ⟨q, hq, rfl⟩ := hx
  obtain ⟨b, o, cs, e1, e2, e3, y0, g0, y1, g1, y2, y3, hI⟩ := h4 k q hq
  exact ⟨b, o, cs, e1, e2, e3, y0, g0, y1, g1, y2, ⟨_, y3, hI⟩⟩
theorem ChsU.keep {B B' : Nat} {w w' : World} {v : Value} {lu : List (Ch × Value)} (h : ChsU B w v lu) (hB : B' ≤ B) (hk : Keeps B w w') : ChsU B' w' v lu := SlOf.mono h hB hk fun _ _ _ e => e.keep hB hk
theorem ChsU.ext {B : Nat} {w w' : World} {v : Value} {lu : List (Ch × Value)} (h : ChsU B w v lu) (e : Ext w w') : ChsU B w' v lu := h.keep (Nat.le_refl _) (e.keeps _)
def wCh (x : Ch) : Nat := 3 + x.item.ids.length
def cChs (l : List Ch) : Nat := (l.map wCh).sum
def mkCh (k : Int) (x : Ch) : Ch := ⟨k, ⟨mt (k + 1), ((k + 1 + 1) % 3 == 0), mkInts (k + 1 + 1 + 1) x.item.ids.length⟩⟩
def mkChsU : Int → List (Ch × Value) → List (Ch × Value)
  | _, [] => []
  | k, q :: r => (mkCh k q.1, q.2) :: mkChsU (k + (wCh q.1 : Nat)) r
def mkChs : Int → List Ch → List Ch
  | _, [] => []
  | k, x :: r => mkCh k x :: mkChs (k + (wCh x : Nat)) r
theorem mkChsU_fst : ∀ (k : Int) (l : List (Ch × Value)), (mkChsU k l).map Prod.fst = mkChs k (l.map Prod.fst) := by
  intro k l
  induction l generalizing k with
  | nil => rfl
  | cons q r ih => rw [mkChsU, List.map_cons, List.map_cons, mkChs, ih]
theorem mkChsU_len (k : Int) (l : List (Ch × Value)) : (mkChsU k l).length = l.length := by
  induction l generalizing k with
  | nil => rfl
  | cons q r ih => rw [mkChsU, List.length_cons, List.length_cons, ih]
theorem mkChsU_snd (k : Int) (l : List (Ch × Value)) : (mkChsU k l).map Prod.snd = l.map Prod.snd := by
  induction l generalizing k with
  | nil => rfl
  | cons q r ih => rw [mkChsU, List.map_cons, List.map_cons, ih]
theorem mkChsU_snoc (k : Int) (l : List (Ch × Value)) (q : Ch × Value) : mkChsU k (l ++ [q]) = mkChsU k l ++ [(mkCh (k + (cChs (l.map Prod.fst) : Nat)) q.1, q.2)] := by
  induction l generalizing k with
  | nil => simp [mkChsU, cChs]
  | cons p r ih =>
    rw [List.cons_append, mkChsU, ih, mkChsU, List.cons_append]
    have e : k + (wCh p.1 : Nat) + (cChs (r.map Prod.fst) : Nat) = k + (cChs ((p :: r).map Prod.fst) : Nat) := by
      simp only [cChs, List.map_cons, List.sum_cons, Int.natCast_add]; omega
    rw [e]
theorem mkChs_len (k : Int) (l : List Ch) : (mkChs k l).length = l.length := by
  induction l generalizing k with
  | nil => rfl
  | cons q r ih => rw [mkChs, List.length_cons, List.length_cons, ih]
theorem mkChs_get {k : Int} {l : List Ch} {j : Nat} {x : Ch} (h : l[j]? = some x) : (mkChs k l)[j]? = some (mkCh (k + (cChs (l.take j) : Nat)) x) := by
  induction l generalizing k j with
  | nil => simp at h
  | cons p r ih =>
    cases j with
    | zero => simp at h; subst h; simp [mkChs, cChs]
    | succ j =>
      rw [List.getElem?_cons_succ] at h
      rw [mkChs, List.getElem?_cons_succ, ih h]
      have e : k + (wCh p : Nat) + (cChs (r.take j) : Nat) = k + (cChs ((p :: r).take (j + 1)) : Nat) := by
        simp only [cChs, List.take_succ_cons, List.map_cons, List.sum_cons, Int.natCast_add]; omega
      rw [e]
theorem cChs_take {l : List Ch} {j : Nat} {x : Ch} (h : l[j]? = some x) : cChs (l.take (j + 1)) = cChs (l.take j) + wCh x := by
  unfold cChs; rw [List.take_add_one, h]; simp
theorem cChs_take_le (l : List Ch) (j : Nat) : cChs (l.take j) ≤ cChs l := by
  unfold cChs
  conv => rhs; rw [← List.take_append_drop j l]
  rw [List.map_append, List.sum_append]; omega
/-- the blocks that a row of them and their ints lie in -/
def FootCh (v : Value) (l : List (Ch × Value)) (b : Nat) : Prop := (v.ownBlock = some b ∧ l ≠ []) ∨ ∃ q, q ∈ l ∧ Own q.2 q.1.item.ids b
theorem ChsU.foot {B : Nat} {w : World} {v : Value} {l : List (Ch × Value)} (h : ChsU B w v l) {b : Nat} (hf : FootCh v l b) : B ≤ b ∧ b < w.heap.size := by
  obtain ⟨A, c, rfl, -, -, -, h⟩ := h
  rcases hf with ⟨ho, hn⟩ | ⟨q, hq, ho⟩
  · cases l with
    | nil => exact absurd rfl hn
    | cons x xs =>
      obtain ⟨b', o', cs, rfl, h1, h2, -⟩ := h 0 x rfl
      simp only [Value.ownBlock, Option.some.injEq] at ho
      subst ho
      exact ⟨h1, h2.lt⟩
  · obtain ⟨k, hk⟩ := List.mem_iff_getElem?.1 hq
    obtain ⟨b', o', cs, -, -, -, -, -, -, -, -, -, hI⟩ := h k q hk
    obtain ⟨h1, cs', h2⟩ := hI.own ho
    exact ⟨h1, h2.lt⟩
set_option maxRecDepth 4000 in
set_option maxHeartbeats 1000000 in
theorem markChS_c {B : Nat} {v : Value} {l : List (Ch × Value)} {k : Int} (w : World) (h : ChsU B w v l) (hsep : Sep l) (h0 : 1 ≤ k) (h1 : k + (cChs (l.map Prod.fst) : Nat) ≤ 1152921504606846976) :
    Calls Tryz.prog 42 #[v, .int .i64 k] w (RetM (FootCh v l) (.int .i64 (k + (cChs (l.map Prod.fst) : Nat))) (fun w' => ChsU B w' v (mkChsU k l)) w) := by
  obtain ⟨A, c, rfl, hA⟩ := h
  have hl := hA.2.2.1
  unfold lim at hl
  have hex : ∃ n, l.length = n := ⟨_, rfl⟩
  obtain ⟨n, hn⟩ := hex
  rw [hn] at hl ⊢
  have Hn := Lib.hid hn
  have HA := Lib.hid hA
  have HS := Lib.hid hsep
  have H1 := Lib.hid h1
  clear hA hn hsep h1
  go_enter Tryz.func42, Tryz.ntmps42
  go_wp2
  go_loopw [1, 5] (fun q i wr => ∃ (j : Nat) (d : Int), j ≤ n ∧ i = .int .i64 j ∧ q = .int .i64 d ∧ Hid (d = k + (cChs ((l.map Prod.fst).take j) : Nat)) ∧ Hid (SlIn B 95 4 (EChU B) wr A c (mkChsU k (l.take j) ++ l.drop j)) ∧ Hid (Mod (FootCh (Value.slice A n c) l) w wr)) (fun _ i _ => n - (intOf i).toNat)
  case atStart => exact ⟨0, k, by omega, rfl, rfl, Lib.hid (by simp [cChs]), Lib.hid (by simpa [mkChsU] using HA.out), Lib.hid (Mod.refl _ _)⟩
  case round =>
    obtain ⟨j, d, hj, rfl, rfl, hd, hS, hM⟩ := hrel
    by_cases hlt : j < n
    · obtain ⟨x, hx⟩ := get_of_lt (l := l) (k := j) (by rw [Hn.out]; exact hlt)
      obtain ⟨x, u⟩ := x
      have hxf : (l.map Prod.fst)[j]? = some x := by rw [List.getElem?_map, hx]; rfl
      have htl : (l.take j).length = j := by rw [List.length_take, Hn.out]; omega
      have hL : (mkChsU k (l.take j) ++ l.drop j)[j]? = some (x, u) := by
        rw [List.getElem?_append_right (by rw [mkChsU_len, htl]; exact Nat.le_refl _), mkChsU_len, htl, Nat.sub_self, List.getElem?_drop]; simpa using hx
      obtain ⟨b, o, cs, rfl, hB, hb, y0, g0, y1, g1, y2, y3, hI⟩ := hS.out.2.2.2 j _ hL
      simp only at y0 g0 y1 g1 y2 y3 hI
      have hc := cChs_take hxf
      have hc2 := cChs_take_le (l.map Prod.fst) (j + 1)
      have hdb : 1 ≤ d ∧ d + 3 + (x.item.ids.length : Nat) ≤ 1152921504606846976 := by
        have := hd.out; have := H1.out; have hw : wCh x = 3 + x.item.ids.length := rfl
        omega
      have hlen := hI.len
      obtain ⟨Au, cu, rfl, hU⟩ := hI
      have Cm : ∀ W, Calls Tryz.prog 61 #[.int .i64 (d + 1)] W (Ret (.string (mt (d + 1))) W) := fun W => markText_c (d + 1) W (by omega) (by omega)
      have hsz : o + j * 4 + 3 < cs.size := (Array.getElem?_eq_some_iff.1 y3).1
      have hne : l ≠ [] := fun e => by rw [e] at hx; simp at hx
      have hu : Ints B wr (.slice Au x.item.ids.length cu) x.item.ids := ⟨_, _, rfl, hU⟩
      have K : KeepsT 95 wr wr := KeepsT.refl _ _
      have M := Mod.refl (FootCh (Value.slice (some ⟨b, o, none⟩) n c) l) wr
      obtain ⟨hd1, hd2⟩ := hdb
      have HL := Lib.hid hL; have Hx := Lib.hid hx; have Hc := Lib.hid hc; have Hxf := Lib.hid hxf; have Htl := Lib.hid htl; have Hne := Lib.hid hne; have Hb := Lib.hid hb; have Hb0 := Hb; have HK := Lib.hid K; have HM2 := Lib.hid M; have HU := Lib.hid hu
      have HC : Hid (cs[o + j * 4]? = some (.int .i64 x.kind) ∧ cs[o + j * 4 + 1]? = some (.string x.item.path) ∧ cs[o + j * 4 + 2]? = some (.bool x.item.dir) ∧ cs[o + j * 4 + 3]? = some (.slice Au x.item.ids.length cu)) := Lib.hid ⟨y0, y1, y2, y3⟩
      clear hL hx hc hc2 hxf htl hne hb K M hu hU y0 y1 y2 y3
      have d0 : World.cell? _ ⟨b, o + j * 4, none⟩ = some (.int .i64 x.kind) := (Hb.out.cell _).trans (by exact HC.out.1)
      have f0 := Hb.out.frozen (o + j * 4)
      have d1 : World.cell? _ ⟨b, o + j * 4 + 1, none⟩ = some (.string x.item.path) := (Hb.out.cell _).trans (by exact HC.out.2.1)
      have f1 := Hb.out.frozen (o + j * 4 + 1)
      have d2 : World.cell? _ ⟨b, o + j * 4 + 2, none⟩ = some (.bool x.item.dir) := (Hb.out.cell _).trans (by exact HC.out.2.2.1)
      have f2 := Hb.out.frozen (o + j * 4 + 2)
      have d3 : World.cell? _ ⟨b, o + j * 4 + 3, none⟩ = some (.slice Au x.item.ids.length cu) := (Hb.out.cell _).trans (by exact HC.out.2.2.2)
      go_wp2_with fail
      clear d0 d1 d2 d3 f0 f1 f2
      have HM3 := Lib.hid (HM2.out.trans (Mod.set (S := FootCh (Value.slice (some ⟨b, o, none⟩) n c) l) (p := ⟨b, o + j * 4, none⟩) (.inl ⟨rfl, Hne.out⟩) (.int .i64 (d))))
      have HK3 := Lib.hid (HK.out.trans (KeepsT.set (i := o + j * 4) Hb.out (.int .i64 (d)) rfl))
      have Hb3 := Lib.hid (Hb.out.set_ (o + j * 4) (.int .i64 (d)))
      clear HM2 HK Hb; have HM2 := HM3; have HK := HK3; have Hb := Hb3; clear HM3 HK3 Hb3
      refine (Cm _).mono ?_
      rintro e w1 ⟨rfl, he1⟩
      have HM3 := Lib.hid (HM2.out.trans (he1.mod _)); have HK3 := Lib.hid (HK.out.trans (he1.keepsT _)); have Hb3 := Lib.hid (Hb.out.ext he1)
      clear HM2 HK Hb he1 Cm; have HM2 := HM3; have HK := HK3; have Hb := Hb3; clear HM3 HK3 Hb3
      have d0 : World.cell? _ ⟨b, o + j * 4, none⟩ = some (.int .i64 (d)) := (Hb.out.cell _).trans (by rw [Array.getElem?_setIfInBounds, if_pos rfl, if_pos (by (try simp only [Array.size_setIfInBounds]); omega)])
      have f0 := Hb.out.frozen (o + j * 4)
      have d1 : World.cell? _ ⟨b, o + j * 4 + 1, none⟩ = some (.string x.item.path) := (Hb.out.cell _).trans (by rw [Array.getElem?_setIfInBounds, if_neg (by omega)]; exact HC.out.2.1)
      have f1 := Hb.out.frozen (o + j * 4 + 1)
      have d2 : World.cell? _ ⟨b, o + j * 4 + 2, none⟩ = some (.bool x.item.dir) := (Hb.out.cell _).trans (by rw [Array.getElem?_setIfInBounds, if_neg (by omega)]; exact HC.out.2.2.1)
      have f2 := Hb.out.frozen (o + j * 4 + 2)
      have d3 : World.cell? _ ⟨b, o + j * 4 + 3, none⟩ = some (.slice Au x.item.ids.length cu) := (Hb.out.cell _).trans (by rw [Array.getElem?_setIfInBounds, if_neg (by omega)]; exact HC.out.2.2.2)
      go_wp2_with fail
      clear d0 d1 d2 d3 f0 f1 f2
      have HM3 := Lib.hid (HM2.out.trans (Mod.set (S := FootCh (Value.slice (some ⟨b, o, none⟩) n c) l) (p := ⟨b, o + j * 4 + 1, none⟩) (.inl ⟨rfl, Hne.out⟩) (.string (mt (d + 1)))))
      have HK3 := Lib.hid (HK.out.trans (KeepsT.set (i := o + j * 4 + 1) Hb.out (.string (mt (d + 1))) rfl))
      have Hb3 := Lib.hid (Hb.out.set_ (o + j * 4 + 1) (.string (mt (d + 1))))
      clear HM2 HK Hb; have HM2 := HM3; have HK := HK3; have Hb := Hb3; clear HM3 HK3 Hb3
      have HM3 := Lib.hid (HM2.out.trans (Mod.set (S := FootCh (Value.slice (some ⟨b, o, none⟩) n c) l) (p := ⟨b, o + j * 4 + 2, none⟩) (.inl ⟨rfl, Hne.out⟩) (.bool ((d + 1 + 1) % 3 == 0))))
      have HK3 := Lib.hid (HK.out.trans (KeepsT.set (i := o + j * 4 + 2) Hb.out (.bool ((d + 1 + 1) % 3 == 0)) rfl))
      have Hb3 := Lib.hid (Hb.out.set_ (o + j * 4 + 2) (.bool ((d + 1 + 1) % 3 == 0)))
      clear HM2 HK Hb; have HM2 := HM3; have HK := HK3; have Hb := Hb3; clear HM3 HK3 Hb3
      have hu := HU.out.keepT HK.out (by decide)
      have hbu : ¬ Own (.slice Au x.item.ids.length cu) x.item.ids b := fun ho => by obtain ⟨-, cs', h'⟩ := hu.own ho; exact Blk.ne_ h' Hb.out (by decide) rfl
      refine (markIntS_c (k := d + 1 + 1 + 1) _ hu (by omega) (by omega)).mono ?_
      rintro e w2 ⟨rfl, hu4, hM4⟩
      have HU4 := Lib.hid hu4; have HM4 := Lib.hid hM4; have HK4 := HK
      have HM3 := Lib.hid (HM2.out.trans (hM4.mono fun b' ho => .inr ⟨_, List.mem_of_getElem? Hx.out, ho⟩)); have Hb3 := Lib.hid (hM4.blk Hb.out hbu)
      have HK3 : Hid (KeepsT 95 w2 w2) := Lib.hid (KeepsT.refl _ _)
      clear HM2 HK Hb hu hbu hu4 hM4; have HM2 := HM3; have HK := HK3; have Hb := Hb3; clear HM3 HK3 Hb3
      have hd3 : Hid (d + 1 + 1 + 1 + (x.item.ids.length : Nat) = k + (cChs ((l.map Prod.fst).take (j + 1)) : Nat)) := Lib.hid (by rw [Hc.out, hd.out]; have hw : wCh x = 3 + x.item.ids.length := rfl; omega)
      go_wp2
      have hup : Hid (SlIn B 95 4 (EChU B) _ (some ⟨b, o, none⟩) c (mkChsU k (l.take (j + 1)) ++ l.drop (j + 1))) := Lib.hid (by
        have hdr := drop_cons Hx.out
        have e : mkChsU k (l.take (j + 1)) ++ l.drop (j + 1) = (mkChsU k (l.take j) ++ l.drop j).set j (mkCh d x, .slice Au x.item.ids.length cu) := by
          rw [hdr, set_mid (by rw [mkChsU_len, Htl.out]), List.take_add_one, Hx.out, Option.toList_some, mkChsU_snoc, List.append_assoc, List.map_take, ← hd.out]; rfl
        rw [e]
        refine SlIn.upd hS.out HL.out fun cs2 hb2 he2 => ⟨_, Hb.out, ?_, fun i z hi hz hez => ?_⟩
        · exact ⟨(by rw [Array.getElem?_setIfInBounds, if_neg (by omega)]; rw [Array.getElem?_setIfInBounds, if_neg (by omega)]; rw [Array.getElem?_setIfInBounds, if_pos rfl, if_pos (by (try simp only [Array.size_setIfInBounds]); omega)]; rfl), (show inI (d) by unfold inI; omega), (by rw [Array.getElem?_setIfInBounds, if_neg (by omega)]; rw [Array.getElem?_setIfInBounds, if_pos rfl, if_pos (by (try simp only [Array.size_setIfInBounds]); omega)]; rfl), mt_size _, (by rw [Array.getElem?_setIfInBounds, if_pos rfl, if_pos (by (try simp only [Array.size_setIfInBounds]); omega)]; rfl), (by rw [Array.getElem?_setIfInBounds, if_neg (by omega)]; rw [Array.getElem?_setIfInBounds, if_neg (by omega)]; rw [Array.getElem?_setIfInBounds, if_neg (by omega)]; exact HC.out.2.2.2), HU4.out.keepT HK.out (by decide)⟩
        · obtain rfl := hb2.inj Hb0.out
          obtain ⟨zi, zu⟩ := z
          obtain ⟨q0, g0, q1, g1, q2, q3, qI⟩ := hez
          simp only at q0 g0 q1 g1 q2 q3 qI
          have q3' := ((qI.keepT HK4.out (by decide)).mod HM4.out (fun b' ho ho' => by
            have hii : ∃ zi', l[i]? = some (zi', zu) := by
              have e2 : ((mkChsU k (l.take j) ++ l.drop j).map Prod.snd)[i]? = some zu := by rw [List.getElem?_map, hz]; rfl
              rw [List.map_append, mkChsU_snd, ← List.map_append, List.take_append_drop, List.getElem?_map, Option.map_eq_some_iff] at e2
              obtain ⟨q', h1, rfl⟩ := e2
              exact ⟨q'.1, h1⟩
            obtain ⟨zi', hz'⟩ := hii
            exact HS.out.ne Hx.out hz' (fun e => hi e.symm) ho'.1 ho.1)).keepT HK.out (by decide)
          exact ⟨(by rw [Array.getElem?_setIfInBounds, if_neg (by omega)]; rw [Array.getElem?_setIfInBounds, if_neg (by omega)]; rw [Array.getElem?_setIfInBounds, if_neg (by omega)]; exact q0), g0, (by rw [Array.getElem?_setIfInBounds, if_neg (by omega)]; rw [Array.getElem?_setIfInBounds, if_neg (by omega)]; rw [Array.getElem?_setIfInBounds, if_neg (by omega)]; exact q1), g1, (by rw [Array.getElem?_setIfInBounds, if_neg (by omega)]; rw [Array.getElem?_setIfInBounds, if_neg (by omega)]; rw [Array.getElem?_setIfInBounds, if_neg (by omega)]; exact q2), (by rw [Array.getElem?_setIfInBounds, if_neg (by omega)]; rw [Array.getElem?_setIfInBounds, if_neg (by omega)]; rw [Array.getElem?_setIfInBounds, if_neg (by omega)]; exact q3), q3'⟩)
      go_roundw
      case rel => exact ⟨j + 1, _, by omega, by go_num, rfl, hd3, hup, Lib.hid (hM.out.trans HM2.out)⟩
      case measure => simp [intOf]; omega
    · have hjs : j = n := by omega
      subst hjs
      have ht : l.take j = l := List.take_of_length_le (by rw [Hn.out]; exact Nat.le_refl _)
      have ht2 : (l.map Prod.fst).take j = l.map Prod.fst := by rw [← List.map_take, ht]
      have hS2 : Hid (SlIn B 95 4 (EChU B) wr A c (mkChsU k l)) := Lib.hid (by have := hS.out; rwa [ht, List.drop_eq_nil_of_le (by rw [Hn.out]; exact Nat.le_refl _), List.append_nil] at this)
      have hd2 := hd.out
      rw [ht2] at hd2
      clear hS hd ht ht2
      go_wp2
      go_ret
      exact ⟨ret_v (by rw [hd2]; rfl), ⟨A, c, by rw [mkChsU_len, Hn.out], hS2.out⟩, hM.out⟩
end Go.Sf
