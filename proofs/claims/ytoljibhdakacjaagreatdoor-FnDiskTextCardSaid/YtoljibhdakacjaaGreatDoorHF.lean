/- Files of volumes are read: the reference's way. -/
import Derived.Test.YtoljibhdakacjaaGreatDoorGQ
import Derived.Test.YtoljibhdakacjaaGreatDoorGC
import Derived.Test.YtoljibhdakacjaaGreatDoorHE
/-! Files of volumes are read: the reference's way. -/
namespace Go.Sf
open Go Go.RowKit Go.Proofs
noncomputable def loadOf (s : List Hd) (ids : List Int) : List Int := ids.flatMap fun i => ((findH s i).map (·.bytes)).getD []
def fileOf (t : List It) (p : ByteArray) : Option It := (findIt t p).bind fun x => if x.dir = true then none else some x
noncomputable def readOf (s : List Hd) (t : List It) (p : ByteArray) : Option (List Int) := if volOk s t = true then (fileOf t p).map fun x => loadOf s x.ids else none
theorem loadOf_take {s : List Hd} {ids : List Int} {k : Nat} {i : Int} {h : Hd} (hx : ids[k]? = some i) (hf : findH s i = some h) : loadOf s (ids.take (k + 1)) = loadOf s (ids.take k) ++ h.bytes := by
  unfold loadOf
  rw [List.take_add_one, hx, Option.toList_some, List.flatMap_append]
  simp [hf]
theorem block8 {s : List Hd} (hs : StoreOk s) {i : Int} {h : Hd} (hf : findH s i = some h) : h.bytes.length ≤ 8 := by
  obtain ⟨h1, -⟩ := findH_some hf
  obtain ⟨j, hj⟩ := List.mem_iff_getElem?.1 h1
  exact (block_len (hd_ok (hs.2 j h hj).1).2.1).2
theorem loadOf_len {s : List Hd} (hs : StoreOk s) : ∀ ids : List Int, (loadOf s ids).length ≤ ids.length * 8 := by
  intro ids
  induction ids with
  | nil => simp [loadOf]
  | cons i r ih =>
    unfold loadOf at ih ⊢
    rw [List.flatMap_cons, List.length_append, List.length_cons]
    have : (((findH s i).map (·.bytes)).getD []).length ≤ 8 := by
      cases hf : findH s i with
      | none => simp
      | some h => exact block8 hs hf
    omega
theorem its_sub {B b o c i : Nat} {w : World} {t : List It} {x : It} (h : SlIn B 57 3 (EIt B) w (some ⟨b, o, none⟩) c t) (hx : t[i]? = some x) : Its B w (.slice (some ⟨b, o + i * 3, none⟩) 1 (c - i)) [x] := by
  obtain ⟨h1, h2, h3, h4⟩ := h
  have hi := lt_of_get hx
  obtain ⟨b', o', cs, e, hB, hb, he⟩ := h4 i x hx
  cases e
  refine ⟨_, c - i, rfl, by simp; omega, ⟨by omega, fun e => by cases e⟩, by unfold lim; simp, fun k y hy => ?_⟩
  cases k with
  | succ k => simp at hy
  | zero =>
    simp only [List.getElem?_cons_zero, Option.some.injEq] at hy
    subst hy
    exact ⟨b, o + i * 3, cs, rfl, hB, hb, by simpa using he⟩
set_option maxRecDepth 4000 in
set_option maxHeartbeats 2000000 in
theorem l11Ids_c {B : Nat} {v : Value} {t : List It} (p : ByteArray) (w : World) (h : Its B w v t) : Calls Tryz.prog 41 #[v, .string p] w (RetP (fun r w' => Its 0 w' r (fileOf t p).toList) w) := by
  have H := Lib.hid h
  have Ca := l5At_c p w h
  obtain ⟨A, c, rfl, hA⟩ := h
  have hl := hA.2.2.1
  have hlc := hA.1
  unfold lim at hl
  rcases atG_find (pathIs p) t 0 with ⟨f1, f2⟩ | ⟨i, y, f1, f2, f3, f4, -⟩
  · rw [atPath, f2] at Ca
    have Hr : Hid (fileOf t p = none) := Lib.hid (by unfold fileOf; rw [show findIt t p = none from f1]; rfl)
    clear f1 f2 hA
    go_enter Tryz.func41, Tryz.ntmps41
    go_wp2_with (go_at_call 92; refine Ca.mono ?_; rintro e w2 ⟨rfl, he2⟩)
    go_ret
    exact ⟨_, rfl, by rw [Hr.out]; exact SlOf.empty _ _ _ _ _ _ _ (Nat.zero_le _) (fun _ => rfl), he2.alloc _⟩
  · rw [atPath, f4] at Ca
    simp only [Nat.zero_add] at Ca
    have hi0 : ¬ ((i : Int) < 0) := by omega
    have hil := lt_of_get f1
    obtain ⟨b, o, u, rfl, -, -, -, -, -, hc1, -⟩ := Its.at_ hA f1
    have HA := Lib.hid hA; have F1 := Lib.hid f1
    have hf : fileOf t p = if y.dir = true then none else some y := by unfold fileOf; rw [show findIt t p = some y from f3]; rfl
    have Hf := Lib.hid hf
    obtain ⟨yp, yd, yi⟩ := y
    simp only at hc1
    generalize hn : t.length = n at *
    clear f1 f2 f3 f4 hA hf
    cases yd with
    | true =>
      have Hr : Hid (fileOf t p = none) := Lib.hid (by rw [Hf.out]; rfl)
      go_enter Tryz.func41, Tryz.ntmps41
      go_wp2_with (go_at_call 92; refine Ca.mono ?_; rintro e w2 ⟨rfl, he2⟩; have q1 := hc1 w2 he2)
      go_ret
      exact ⟨_, rfl, by rw [Hr.out]; exact SlOf.empty _ _ _ _ _ _ _ (Nat.zero_le _) (fun _ => rfl), he2.alloc _⟩
    | false =>
      have Hr : Hid (fileOf t p = some ⟨yp, false, yi⟩) := Lib.hid (by rw [Hf.out]; rfl)
      have hw1 : IntKind.i64.wrap ((i : Int) + 1) = (i : Int) + 1 := IntWalk.i64_in _ (by omega)
      have hic : i + 1 ≤ c := by omega
      have hic' : (i : Int) + 1 ≤ (c : Int) := by omega
      have hp1 : (0 : Int) ≤ (i : Int) + 1 := by omega
      have hn1 : ((i : Int) + 1).toNat = i + 1 := by omega
      have hii : (i : Int) ≤ (i : Int) + 1 := by omega
      have hcne : c - i ≠ 0 := by omega
      have hcni : ¬ c = i := by omega
      have hd1 : i + 1 - i = 1 := by omega
      go_enter Tryz.func41, Tryz.ntmps41
      go_wp2_with (go_at_call 92; refine Ca.mono ?_; rintro e w2 ⟨rfl, he2⟩; have q1 := hc1 w2 he2)
      go_ret
      refine ⟨_, rfl, ?_, he2⟩
      rw [Hr.out]
      exact ((its_sub HA.out F1.out).ext he2).keep (Nat.zero_le _) (fun _ _ _ => rfl)
set_option maxRecDepth 4000 in
set_option maxHeartbeats 2000000 in
theorem l4Load_c {B B' : Nat} {v vi : Value} {s : List Hd} {ids : List Int} (w : World) (hs : StoreOk s) (hfit : IdsFit s ids) (h : Hds B w v s) (hi : Ints B' w vi ids) :
    Calls Tryz.prog 99 #[v, vi] w (RetP (fun r w' => Ints w.heap.size w' r (loadOf s ids)) w) := by
  have H := Lib.hid h
  have HS := Lib.hid hs; have HFit := Lib.hid hfit
  obtain ⟨A, c, rfl, hA⟩ := h
  obtain ⟨A2, c2, rfl, hA2⟩ := hi
  have hl := hA.2.2.1
  unfold lim at hl
  have hn4 : ids.length ≤ 4 := hfit.1
  generalize hm : s.length = m at *
  generalize hn : ids.length = n at *
  have Hn := Lib.hid hn; have Hm := Lib.hid hm
  have HA := Lib.hid hA; have HA2 := Lib.hid hA2
  clear hn hm hA hA2 hs hfit
  have e0 : Ext w (w.alloc (.cells #[] 3)) := (Ext.refl w).alloc _
  go_enter Tryz.func99, Tryz.ntmps99
  go_wp2
  go_loopw [5, 6] (fun v i wr => ∃ k : Nat, k ≤ n ∧ i = .int .i64 k ∧ Ext w wr ∧ OwnS w.heap.size 3 1 EInt wr v (loadOf s (ids.take k))) (fun _ i _ => n - (RowKit.intOf i).toNat)
  case atStart => exact ⟨0, by omega, rfl, e0, OwnS.lit _ _ _ _ (Nat.le_refl _) (by simp)⟩
  case round =>
    obtain ⟨k, hk, rfl, he, hO⟩ := hrel
    have HO := Lib.hid hO
    by_cases hlt : k < n
    · obtain ⟨x, hx⟩ := get_of_lt (l := ids) (k := k) (by rw [Hn.out]; exact hlt)
      obtain ⟨b, o, rfl, -, -, -, hc⟩ := Ints.at_ HA2.out hx
      have a0 := hc wr he
      have Hx := Lib.hid hx
      obtain ⟨y, hf, -⟩ := HFit.out.2 k x hx
      have Ca := l3At_c x wr (H.out.ext he)
      rw [hAt] at Ca
      have hy8 := block8 HS.out hf
      have Ht := Lib.hid (loadOf_take hx hf)
      rcases atG_find (idIs x) s 0 with ⟨f1, f2⟩ | ⟨i, z, f1, f2, f3, f4, -⟩
      · rw [show s.find? (idIs x) = findH s x from rfl, hf] at f1; cases f1
      · rw [show s.find? (idIs x) = findH s x from rfl, hf] at f3
        cases f3
        rw [f4] at Ca
        simp only [Nat.zero_add] at Ca
        have him : i < m := by rw [← Hm.out]; exact lt_of_get f1
        obtain ⟨b', o', u, rfl, -, -, -, hu, -, -, hc1, -⟩ := Hds.at_ HA.out f1
        have HU := Lib.hid hu
        obtain ⟨Ay, cy, rfl, -⟩ := hu
        obtain ⟨yk, yb, yu⟩ := y
        simp only at hc1 HU hy8
        have c1 := fun W (e : Ext wr W) => hc1 W (he.trans e)
        have hlb : (loadOf s (ids.take k)).length ≤ 32 := by
          have := loadOf_len HS.out (ids.take k)
          rw [List.length_take] at this
          omega
        obtain ⟨A', c', rfl⟩ := hO.form
        clear hc hx f1 f2 f4 hf hc1 hO
        go_wp2_with (first | (go_at_call 141; refine Ca.mono ?_; rintro e w2 ⟨rfl, he2⟩; have q1 := c1 w2 he2; have HO2 := Lib.hid (HO.out.ext eint_ok he2); have he3 := he.trans he2) | (at_builtin; go_must (refine wp_apS (w0 := w) (by rfl) _ _ (by rfl) el_int eint_ok he3 _ (.slice Ay yb.length cy) (loadOf s (ids.take k)) yb (by rfl) HO2.out (by rfl) ((HU.out.ext he3).keep (Nat.zero_le _) (fun _ _ _ => rfl)) ?_ ?_)))
        · unfold lim; omega
        · intro v' w' hO' he' hk'
          have HO' := Lib.hid hO'
          clear hO' hk'
          go_wp2
          go_roundw
          case rel => exact ⟨k + 1, by omega, by go_num, he', by rw [Ht.out]; exact HO'.out⟩
          case measure => simp [RowKit.intOf]; omega
    · have hks : k = n := by omega
      subst hks
      have hO2 := HO.out
      rw [List.take_of_length_le (by rw [Hn.out]; exact Nat.le_refl _)] at hO2
      have HF := Lib.hid (hO2.sl eint_ok (Nat.le_refl _) (by have := loadOf_len HS.out ids; unfold lim; have := Hn.out; omega))
      clear hO hO2
      go_wp2
      go_ret
      exact ⟨_, rfl, HF.out, he⟩
end Go.Sf

/-! Snapshots are compared. -/
namespace Go.Sf
open Go Go.RowKit Go.Proofs


end Go.Sf

/-! Disks: what is asked of them; the reference's way. -/
namespace Go.Sf
open Go Go.RowKit Go.Proofs
def snIs (n : ByteArray) (x : Sn) : Bool := eqb x.name n
def snAt (l : List Sn) (n : ByteArray) : Int := atG (snIs n) l 0
/-- what is asked of the snapshot at k -/
def SnAt (s : List Hd) (l : List Sn) (k : Nat) (x : Sn) : Prop := wordOk (bl x.name) = true ∧ (∀ j y, j < k → l[j]? = some y → y.name ≠ x.name) ∧ treeOk x.tree = true ∧ filesFit s x.tree = true
def SnapsOk (s : List Hd) (l : List Sn) : Prop := l.length ≤ 6 ∧ ∀ k x, l[k]? = some x → SnAt s l k x
open Classical in
noncomputable def snapsOk (s : List Hd) (l : List Sn) : Bool := decide (SnapsOk s l)
theorem snapsOk_iff {s : List Hd} {l : List Sn} : snapsOk s l = true ↔ SnapsOk s l := by unfold snapsOk; simp
theorem snapsOk_false {s : List Hd} {l : List Sn} : snapsOk s l = false ↔ ¬ SnapsOk s l := by unfold snapsOk; simp
theorem snaps_bad {s : List Hd} {l : List Sn} {k : Nat} {x : Sn} (hx : l[k]? = some x) (h : ¬ SnAt s l k x) : snapsOk s l = false := snapsOk_false.2 fun hs => h (hs.2 k x hx)
def treesOf (t : List It) (l : List Sn) : List (List It) := t :: l.map Sn.tree
noncomputable def diskUses (s : List Hd) (t : List It) (l : List Sn) : Bool := s.all fun h => eqb (cntTs h.id (treesOf t l) : Int) h.uses
noncomputable def diskOk (s : List Hd) (t : List It) (l : List Sn) : Bool := storeOk s && (treeOk t && (filesFit s t && (snapsOk s l && diskUses s t l)))
theorem snAt_of {l : List Sn} {k : Nat} {x : Sn} (hx : l[k]? = some x) : ∃ i, i ≤ k ∧ snAt l x.name = (i : Int) ∧ (i < k → ∃ y, l[i]? = some y ∧ y.name = x.name) ∧ (i = k → ∀ j y, j < k → l[j]? = some y → y.name ≠ x.name) := by
  rcases atG_find (snIs x.name) l 0 with ⟨f1, -⟩ | ⟨i, y, f1, f2, -, f4, f5⟩
  · exact absurd (List.find?_eq_none.1 f1 x (List.mem_of_getElem? hx)) (by simp [snIs, eqb_iff])
  · have hik : i ≤ k := by
      rcases Nat.lt_or_ge k i with h | h
      · have := f5 k x h hx
        rw [snIs, eqb_true.2 rfl] at this; cases this
      · exact h
    refine ⟨i, hik, by unfold snAt; rw [f4, Nat.zero_add], fun _ => ⟨y, f1, by simpa [snIs, eqb_iff] using f2⟩, fun e j z hj hz hn => ?_⟩
    subst e
    have := f5 j z hj hz
    rw [snIs, eqb_true.2 hn] at this; cases this
theorem cntTs_cons (i : Int) (t : List It) (ts : List (List It)) : cntTs i (t :: ts) = cntT i t + cntTs i ts := by simp [cntTs]
theorem cntT_bound {B : Nat} {w : World} {v : Value} {t : List It} (i : Int) (h : Its B w v t) : cntT i t ≤ 17592186044416 := by
  obtain ⟨A, c, -, -, -, hl, he⟩ := h
  have hb : ∀ x, x ∈ t → x.ids.length ≤ 4194304 := fun x hx => by
    obtain ⟨k, hk⟩ := List.mem_iff_getElem?.1 hx
    obtain ⟨_, _, _, -, -, -, -, -, -, u, -, hi⟩ := he k x hk
    have := hi.len
    unfold lim at this; exact this
  have h2 : ∀ l : List It, (∀ x, x ∈ l → x.ids.length ≤ 4194304) → cntT i l ≤ l.length * 4194304 := by
    intro l
    induction l with
    | nil => intro _; simp [cntT]
    | cons a l ih =>
      intro hl
      have h1 := ih fun x hx => hl x (by simp [hx])
      have h3 := hl a (by simp)
      have h4 := cntI_le i a.ids
      unfold cntT at h1 ⊢
      rw [List.map_cons, List.sum_cons, List.length_cons, Nat.add_mul, Nat.one_mul]
      omega
  have h3 := h2 t hb
  unfold lim at hl
  have := Nat.mul_le_mul_right 4194304 hl
  omega
set_option maxHeartbeats 1000000 in
theorem l12At_c {B : Nat} {v : Value} {l : List Sn} (p : ByteArray) (w : World) (h : Sns B w v l) : Calls Tryz.prog 106 #[v, .string p] w (Ret (.int .i64 (snAt l p)) w) := by
  obtain ⟨A, c, rfl, hA⟩ := h
  have hl := hA.2.2.1
  unfold lim at hl
  generalize hn : l.length = n at *
  have Hn := Lib.hid hn; clear hn
  have HA := Lib.hid hA; clear hA
  go_enter Tryz.func106, Tryz.ntmps106
  go_wp2
  go_loopw [5] (fun i wr => ∃ k : Nat, k ≤ n ∧ i = .int .i64 k ∧ Ext w wr ∧ Hid (atG (snIs p) (l.drop k) k = snAt l p)) (fun i _ => n - (RowKit.intOf i).toNat)
  case atStart => exact ⟨0, by omega, rfl, Ext.refl _, Lib.hid rfl⟩
  case round =>
    obtain ⟨k, hk, rfl, he, hrest⟩ := hrel
    by_cases hlt : k < n
    · obtain ⟨x, hx⟩ := get_of_lt (l := l) (k := k) (by rw [Hn.out]; exact hlt)
      obtain ⟨b, o, u2, rfl, -, -, -, -, hc0, -⟩ := Sns.at_ HA.out hx
      have ha := hc0 wr he
      have Hd := Lib.hid (drop_cons hx)
      clear hc0 hx
      go_wp2
      · have hp : (x.name.toList == p.toList) = true := by assumption
        go_ret
        refine ⟨ret_i ?_, he⟩
        have := hrest.out
        rw [bytes_ne_iff, decide_eq_true_iff] at hp
        rw [Hd.out] at this
        simpa [atG, snIs, eqb, hp] using this
      · have hp : (x.name.toList == p.toList) = false := by assumption
        rw [bytes_ne_iff, decide_eq_false_iff_not] at hp
        go_roundw
        case rel => exact ⟨k + 1, by omega, by go_num, he, Lib.hid (by have := hrest.out; rw [Hd.out] at this; simpa [atG, snIs, eqb, hp] using this)⟩
        case measure => simp [RowKit.intOf]; omega
    · have hks : k = n := by omega
      subst hks
      go_wp2
      go_ret
      refine ⟨ret_i ?_, he⟩
      have := hrest.out
      rw [List.drop_of_length_le (by rw [Hn.out]; omega)] at this
      exact this
set_option maxRecDepth 8000 in
set_option maxHeartbeats 2000000 in
theorem l12Snaps_c {B B' B2 : Nat} {vs vt vn : Value} {s : List Hd} {t : List It} {l : List Sn} (w : World) (hs : Hds B w vs s) (ht : Its B' w vt t) (hn : Sns B2 w vn l) : Calls Tryz.prog 54 #[.agg #[vs, vt, vn]] w (Ret (.bool (snapsOk s l)) w) := by
  have HS := Lib.hid hs; have HN := Lib.hid hn
  obtain ⟨A, c, rfl, -⟩ := hs
  obtain ⟨A2, c2, rfl, -⟩ := ht
  obtain ⟨A3, c3, rfl, hA⟩ := hn
  have hl := hA.2.2.1
  unfold lim at hl
  have e0 : Ext w (w.alloc (.cells #[.slice A s.length c, .slice A2 t.length c2, .slice A3 l.length c3] 27)) := (Ext.refl w).alloc _
  have hbk := Blk.new w 27 #[.slice A s.length c, .slice A2 t.length c2, .slice A3 l.length c3]
  have d0 := fun W (e : Ext _ W) => hbk.at_ (i := 0) (u := .slice A s.length c) rfl W e
  have d2 := fun W (e : Ext _ W) => hbk.at_ (i := 2) (u := .slice A3 l.length c3) rfl W e
  have C2 := fun W (p : ByteArray) (e : Ext (w.alloc (.cells #[.slice A s.length c, .slice A2 t.length c2, .slice A3 l.length c3] 27)) W) => l12At_c p W (HN.out.ext (e0.trans e))
  have HA := Lib.hid hA
  clear hbk hA
  generalize hnn : l.length = n at *
  have Hn := Lib.hid hnn; clear hnn
  go_enter Tryz.func54, Tryz.ntmps54
  go_wp2
  go_loopw [3] (fun i wr => ∃ k : Nat, k ≤ n ∧ i = .int .i64 k ∧ Ext (w.alloc (.cells #[.slice A s.length c, .slice A2 t.length c2, .slice A3 n c3] 27)) wr ∧ Hid (∀ j y, j < k → l[j]? = some y → SnAt s l j y)) (fun i _ => n - (RowKit.intOf i).toNat)
  case atStart => exact ⟨0, by omega, rfl, Ext.refl _, Lib.hid fun j y hj => absurd hj (by omega)⟩
  case round =>
    obtain ⟨k, hk, rfl, he, hall⟩ := hrel
    have q2 := d2 wr he
    by_cases hlt : k < n
    · obtain ⟨x, hx⟩ := get_of_lt (l := l) (k := k) (by rw [Hn.out]; exact hlt)
      obtain ⟨b, o, u, rfl, -, -, hns, hu, hc0, hc1⟩ := Sns.at_ HA.out hx
      have a0 := hc0 wr (e0.trans he); have a1 := hc1 wr (e0.trans he)
      have HU := Lib.hid (hu.ext (e0.trans he))
      obtain ⟨i, hik, hsa, hdup, hnd⟩ := snAt_of hx
      have Hx := Lib.hid hx
      obtain ⟨Au, cu, rfl, -⟩ := hu
      obtain ⟨xn, xt⟩ := x
      simp only at a0 a1 HU hns hsa hdup hnd
      have ea : Ext wr (wr.alloc (.cells #[.string xn, .slice Au xt.length cu] 35)) := (Ext.refl wr).alloc _
      have hbs := Blk.new wr 35 #[.string xn, .slice Au xt.length cu]
      have s0 := fun W (e : Ext _ W) => hbs.at_ (i := 0) (u := .string xn) rfl W e
      have s1 := fun W (e : Ext _ W) => hbs.at_ (i := 1) (u := .slice Au xt.length cu) rfl W e
      have D0 := fun W (e : Ext (wr.alloc (.cells #[.string xn, .slice Au xt.length cu] 35)) W) => d0 W (he.trans (ea.trans e))
      have D2 := fun W (e : Ext (wr.alloc (.cells #[.string xn, .slice Au xt.length cu] 35)) W) => d2 W (he.trans (ea.trans e))
      have C1 := l1Word_c xn (wr.alloc (.cells #[.string xn, .slice Au xt.length cu] 35)) hns
      have K2 := fun W (e : Ext (wr.alloc (.cells #[.string xn, .slice Au xt.length cu] 35)) W) => C2 W xn (he.trans (ea.trans e))
      have C3 := fun W (e : Ext (wr.alloc (.cells #[.string xn, .slice Au xt.length cu] 35)) W) => specTreeValid_c W (HU.out.ext (ea.trans e))
      have C4 := fun W (e : Ext (wr.alloc (.cells #[.string xn, .slice Au xt.length cu] 35)) W) => l11Files_c W (HS.out.ext (e0.trans (he.trans (ea.trans e)))) (HU.out.ext (ea.trans e))
      have HE := Lib.hid (e0.trans (he.trans ea))
      have He := Lib.hid (he.trans ea)
      clear hbs hc0 hc1 hx d0 d2 C2
      rw [hsa] at K2
      cases h1 : wordOk (bl xn) with
      | false =>
        rw [h1] at C1
        have Hr : Hid (snapsOk s l = false) := Lib.hid (snaps_bad Hx.out fun h => by have := h.1; rw [h1] at this; cases this)
        clear h1 hall hdup hnd K2 C3 C4 s1 D0 D2
        go_wp2_with (go_at_call 105; refine C1.mono ?_; rintro e w2 ⟨rfl, he2⟩)
        go_ret
        exact ⟨ret_b Hr.out.symm, HE.out.trans he2⟩
      | true =>
      rw [h1] at C1
      by_cases hik2 : i < k
      · have hlti : ((i : Nat) : Int) < (k : Int) := by omega
        have Hr : Hid (snapsOk s l = false) := Lib.hid (snaps_bad Hx.out fun h => by
          obtain ⟨y, hy, hyn⟩ := hdup hik2
          exact h.2.1 i y hik2 hy hyn)
        clear h1 hall hdup hnd C3 C4 s1
        go_wp2_with (first | (go_at_call 105; refine C1.mono ?_; rintro e w2 ⟨rfl, he2⟩; have q3 := D2 w2 he2; have q4 := s0 w2 he2) | (go_at_call 106; refine (K2 _ he2).mono ?_; rintro e w3 ⟨rfl, he3⟩))
        go_ret
        exact ⟨ret_b Hr.out.symm, HE.out.trans (he2.trans he3)⟩
      have hik3 : i = k := by omega
      have Hnd := Lib.hid (hnd hik3)
      have hlti : ¬ ((i : Nat) : Int) < (k : Int) := by omega
      clear hdup hnd
      cases h3 : treeOk xt with
      | false =>
        rw [h3] at C3
        have Hr : Hid (snapsOk s l = false) := Lib.hid (snaps_bad Hx.out fun h => by have := h.2.2.1; rw [h3] at this; cases this)
        clear h1 h3 hall C4
        go_wp2_with (first | (go_at_call 105; refine C1.mono ?_; rintro e w2 ⟨rfl, he2⟩; have q3 := D2 w2 he2; have q4 := s0 w2 he2) | (go_at_call 106; refine (K2 _ he2).mono ?_; rintro e w3 ⟨rfl, he3⟩; have q5 := s1 w3 (he2.trans he3)) | (go_at_call 52; refine (C3 _ (he2.trans he3)).mono ?_; rintro e w4 ⟨rfl, he4⟩))
        go_ret
        exact ⟨ret_b Hr.out.symm, HE.out.trans ((he2.trans he3).trans he4)⟩
      | true =>
      rw [h3] at C3
      cases h4 : filesFit s xt with
      | false =>
        rw [h4] at C4
        have Hr : Hid (snapsOk s l = false) := Lib.hid (snaps_bad Hx.out fun h => by have := h.2.2.2; rw [h4] at this; cases this)
        clear h1 h3 h4 hall
        go_wp2_with (first | (go_at_call 105; refine C1.mono ?_; rintro e w2 ⟨rfl, he2⟩; have q3 := D2 w2 he2; have q4 := s0 w2 he2) | (go_at_call 106; refine (K2 _ he2).mono ?_; rintro e w3 ⟨rfl, he3⟩; have q5 := s1 w3 (he2.trans he3)) | (go_at_call 52; refine (C3 _ (he2.trans he3)).mono ?_; rintro e w4 ⟨rfl, he4⟩; have hh4 := (he2.trans he3).trans he4; have q6 := D0 w4 hh4; have q7 := s1 w4 hh4) | (go_at_call 53; refine (C4 _ hh4).mono ?_; rintro e w5 ⟨rfl, he5⟩))
        go_ret
        exact ⟨ret_b Hr.out.symm, HE.out.trans (hh4.trans he5)⟩
      | true =>
        rw [h4] at C4
        have Hr : Hid (∀ j y, j < k + 1 → l[j]? = some y → SnAt s l j y) := Lib.hid fun j y hj hy => by
          rcases Nat.lt_or_ge j k with h | h
          · exact hall.out j y h hy
          · obtain rfl : j = k := by omega
            rw [Hx.out] at hy
            cases hy
            exact ⟨h1, Hnd.out, h3, h4⟩
        clear h1 h3 h4 hall
        go_wp2_with (first | (go_at_call 105; refine C1.mono ?_; rintro e w2 ⟨rfl, he2⟩; have q3 := D2 w2 he2; have q4 := s0 w2 he2) | (go_at_call 106; refine (K2 _ he2).mono ?_; rintro e w3 ⟨rfl, he3⟩; have q5 := s1 w3 (he2.trans he3)) | (go_at_call 52; refine (C3 _ (he2.trans he3)).mono ?_; rintro e w4 ⟨rfl, he4⟩; have hh4 := (he2.trans he3).trans he4; have q6 := D0 w4 hh4; have q7 := s1 w4 hh4) | (go_at_call 53; refine (C4 _ hh4).mono ?_; rintro e w5 ⟨rfl, he5⟩))
        go_roundw
        case rel => exact ⟨k + 1, by omega, by go_num, He.out.trans (hh4.trans he5), Hr⟩
        case measure => simp [RowKit.intOf]; omega
    · have hks : k = n := by omega
      subst hks
      have Hr : Hid (snapsOk s l = decide (k ≤ 6)) := Lib.hid (by
        rw [Bool.eq_iff_iff, snapsOk_iff]
        simp only [decide_eq_true_eq]
        exact ⟨fun h => by have := h.1; have := Hn.out; omega, fun h => ⟨by have := Hn.out; omega, fun j x hj => hall.out j x (by have := lt_of_get hj; have := Hn.out; omega) hj⟩⟩)
      clear hall
      by_cases h6 : k ≤ 6
      · have h6' : ((k : Int) ≤ 6) := by omega
        go_wp2
        go_ret
        exact ⟨ret_b (by rw [Hr.out]; simp [h6]), e0.trans he⟩
      · have h6' : ¬ ((k : Int) ≤ 6) := by omega
        go_wp2
        go_ret
        exact ⟨ret_b (by rw [Hr.out]; simp [h6]), e0.trans he⟩
set_option maxRecDepth 8000 in
set_option maxHeartbeats 2000000 in
theorem l12Count_c {B B' B2 : Nat} {vs vt vn : Value} {s : List Hd} {t : List It} {l : List Sn} (p : Int) (w : World) (hs : Hds B w vs s) (ht : Its B' w vt t) (hn : Sns B2 w vn l) (h6 : l.length ≤ 6) : Calls Tryz.prog 55 #[.agg #[vs, vt, vn], .int .i64 p] w (Ret (.int .i64 (cntTs p (treesOf t l) : Nat)) w) := by
  have hb0 := cntT_bound p ht
  have HT := Lib.hid ht
  obtain ⟨A, c, rfl, -⟩ := hs
  obtain ⟨A2, c2, rfl, -⟩ := ht
  obtain ⟨A3, c3, rfl, hA⟩ := hn
  have hbs : Hid (∀ k, k ≤ 6 → cntTs p ((l.take k).map Sn.tree) ≤ k * 17592186044416) := Lib.hid fun k => by
    induction k with
    | zero => intro _; exact Nat.zero_le _
    | succ k ih =>
      intro hk
      have h1 := ih (by omega)
      cases hx : l[k]? with
      | none => rw [List.take_add_one, hx, Option.toList_none, List.append_nil]; exact Nat.le_trans h1 (Nat.mul_le_mul_right _ (Nat.le_succ k))
      | some x =>
        obtain ⟨_, _, u, -, -, -, -, hu, -, -⟩ := Sns.at_ hA hx
        have := cntT_bound p hu
        rw [List.take_add_one, hx, Option.toList_some, List.map_append, Nat.add_mul, Nat.one_mul]
        unfold cntTs at h1 ⊢
        rw [List.map_append, List.sum_append]
        refine Nat.add_le_add h1 ?_
        simpa using this
  have e0 : Ext w (w.alloc (.cells #[.slice A s.length c, .slice A2 t.length c2, .slice A3 l.length c3] 27)) := (Ext.refl w).alloc _
  have hbk := Blk.new w 27 #[.slice A s.length c, .slice A2 t.length c2, .slice A3 l.length c3]
  have d2 := fun W (e : Ext _ W) => hbk.at_ (i := 2) (u := .slice A3 l.length c3) rfl W e
  have Ct := l11Count_c p _ (HT.out.ext e0)
  have HA := Lib.hid hA
  clear hbk hA
  generalize hC0 : cntT p t = C0 at *
  have HC0 := Lib.hid hC0; clear hC0
  generalize hnn : l.length = n at *
  have Hn := Lib.hid hnn; clear hnn
  go_enter Tryz.func55, Tryz.ntmps55
  go_wp2_with (go_at_call 107; refine Ct.mono ?_; rintro e w1 ⟨rfl, he1⟩)
  clear Ct
  go_loopw [5, 6] (fun v i wr => ∃ k : Nat, k ≤ n ∧ i = .int .i64 k ∧ v = .int .i64 ((C0 + cntTs p ((l.take k).map Sn.tree) : Nat) : Int) ∧ Ext (w.alloc (.cells #[.slice A s.length c, .slice A2 t.length c2, .slice A3 n c3] 27)) wr) (fun _ i _ => n - (RowKit.intOf i).toNat)
  case atStart => exact ⟨0, by omega, rfl, by simp [cntTs], he1⟩
  case round =>
    obtain ⟨k, hk, rfl, rfl, he⟩ := hrel
    have q2 := d2 wr he
    by_cases hlt : k < n
    · obtain ⟨x, hx⟩ := get_of_lt (l := l) (k := k) (by rw [Hn.out]; exact hlt)
      obtain ⟨b, o, u, rfl, -, -, hns, hu, hc0, hc1⟩ := Sns.at_ HA.out hx
      have a1 := hc1 wr (e0.trans he)
      have Cu := l11Count_c p wr (hu.ext (e0.trans he))
      have hb2 := cntT_bound p hu
      have hb1 := hbs.out k (by omega)
      have Hnx : Hid (cntTs p ((l.take (k + 1)).map Sn.tree) = cntTs p ((l.take k).map Sn.tree) + cntT p x.tree) := Lib.hid (by
        rw [List.take_add_one, hx, Option.toList_some, List.map_append]
        unfold cntTs
        rw [List.map_append, List.sum_append]; simp)
      obtain ⟨Au, cu, rfl, -⟩ := hu
      generalize cntTs p ((l.take k).map Sn.tree) = D at *
      generalize cntT p x.tree = E at *
      have hD : D ≤ 105553116266496 := by omega
      clear hc0 hc1 hx hb1
      go_wp2_with (go_at_call 107; refine Cu.mono ?_; rintro e w2 ⟨rfl, he2⟩)
      go_roundw
      case rel => exact ⟨k + 1, by omega, by go_num, by rw [Hnx.out]; go_num, he.trans he2⟩
      case measure => simp [RowKit.intOf]; omega
    · have hks : k = n := by omega
      subst hks
      have Hr : Hid (C0 + cntTs p ((l.take k).map Sn.tree) = cntTs p (treesOf t l)) := Lib.hid (by rw [List.take_of_length_le (by rw [Hn.out]; exact Nat.le_refl _), treesOf, cntTs_cons, HC0.out])
      generalize C0 + cntTs p ((l.take k).map Sn.tree) = D at *
      go_wp2
      go_ret
      exact ⟨by rw [← Hr.out]; rfl, e0.trans he⟩
end Go.Sf

/-! What stays where only rows of one element type are written; disks that are worked on, in memory. -/
namespace Go.Sf
open Go Go.RowKit Go.Proofs Go.Maps
/-- all objects but cells of type t are as they were -/
def Keep1 (t : TypeId) (w w' : World) : Prop := ∀ (b : Nat) (o : Obj), w.heap[b]? = some o → (∀ cs, o ≠ Obj.cells cs t (0, 0)) → w'.heap[b]? = some o
theorem heap_lt {w : World} {b : Nat} {o : Obj} (h : w.heap[b]? = some o) : b < w.heap.size := by
  rcases Nat.lt_or_ge b w.heap.size with hlt | hge
  · exact hlt
  · rw [Array.getElem?_eq_none hge] at h; cases h
theorem Ext.keep1 {w w' : World} (h : Ext w w') (t : TypeId) : Keep1 t w w' := fun _ _ hb _ => (h.block (heap_lt hb)).trans hb
theorem Keep1.trans {t : TypeId} {a b c : World} (h : Keep1 t a b) (k : Keep1 t b c) : Keep1 t a c := fun i o hi ho => k i o (h i o hi ho) ho
theorem Keep1.keepsT {t : TypeId} {w w' : World} (h : Keep1 t w w') : KeepsT t w w' := fun b t' cs hne hb => h b _ hb (by intro cs' e; cases e; exact hne rfl)
theorem Keep1.set {t : TypeId} {w : World} {b i : Nat} {cs : Array Value} (hb : Blk w b t cs) (u : Value) : Keep1 t w (w.setCell ⟨b, i, none⟩ u) := fun j o hj ho => by
  refine (Below.heap_setCell w ⟨b, i, none⟩ u j ?_).trans hj
  rintro rfl
  unfold Blk at hb
  rw [hb] at hj
  exact ho cs (Option.some.inj hj).symm
theorem grown_keep1 {α : Type} {base : Nat} {t : TypeId} {sz : Nat} {E : World → Array Value → Nat → α → Prop} {W w' : World} {v : Value} {l : List α} (hO : OwnS base t sz E W v l) (hg : W.grownBy w' v.ownBlock) : Keep1 t W w' := fun j o hj ho => by
  refine (hg.block j (heap_lt hj) fun e => ?_).trans hj
  obtain ⟨-, cs, hb⟩ := hO.block e.symm
  unfold Blk at hb
  rw [hb] at hj
  exact ho cs (Option.some.inj hj).symm
theorem own_grown_ext {α : Type} {t : TypeId} {sz : Nat} {E : World → Array Value → Nat → α → Prop} {w0 W w' : World} {v : Value} {l : List α} (h : OwnS w0.heap.size t sz E W v l) (h0 : Ext w0 W) (hg : W.grownBy w' v.ownBlock) : Ext w0 w' := by
  obtain ⟨xs, hrow, -⟩ := h
  exact grown_ext h0 hrow hg
theorem StoreAt.keep1 {B b n : Nat} {t : TypeId} {w w' : World} {l : List Hd} (h : StoreAt B b n l w) (hk : Keep1 t w w') (ht : 3 ≠ t) : StoreAt B b n l w' := by
  refine h.keepT hk.keepsT ht ?_
  obtain ⟨M, ⟨D, ⟨es, cl, h1, -⟩, -⟩, -⟩ := h
  exact (hk b _ h1 (fun cs e => by cases e)).trans h1.symm
theorem StoreAt.low {B B' b n : Nat} {w : World} {l : List Hd} (h : StoreAt B b n l w) (hB : B' ≤ B) : StoreAt B' b n l w := let ⟨M, q1, q2⟩ := h; ⟨M, q1, fun i => ⟨(q2 i).1, fun y hy => let ⟨u, r1, r2⟩ := (q2 i).2 y hy; ⟨u, r1, r2.keep hB (fun _ _ _ => rfl)⟩⟩⟩
theorem TreeAt.low {B B' : Nat} {w : World} {l : List It} {adr : Key → Nat} {kv : Key → Value} (h : TreeAt B w l adr kv) (hB : B' ≤ B) : TreeAt B' w l adr kv := ⟨h.root.low hB, fun x hx => (h.nodes x hx).low hB, h.inj, h.sep⟩
/-- no kids of the tree lie in block g -/
def Clear (g : Option Nat) (l : List It) (kv : Key → Value) : Prop := ∀ k b, isKey l k → (kv k).ownBlock = some b → some b ≠ g
theorem TreeAt.kid_block {B : Nat} {w : World} {l : List It} {adr : Key → Nat} {kv : Key → Value} (h : TreeAt B w l adr kv) {k : Key} (hk : isKey l k) {b : Nat} (hb : (kv k).ownBlock = some b) : B ≤ b ∧ b < w.heap.size := by
  obtain ⟨dir, ids, ⟨-, hO, -⟩, -⟩ := h.node hk
  obtain ⟨h1, cs, h2⟩ := hO.block hb
  exact ⟨h1, h2.lt⟩
/-- a row of pointers apart from the tree is written -/
theorem TreeAt.frame {B : Nat} {w w' : World} {l : List It} {adr : Key → Nat} {kv : Key → Value} {g : Option Nat} (h : TreeAt B w l adr kv) (hk : KeepsT 81 w w') (hg : w.grownBy w' g) (hc : Clear g l kv) : TreeAt B w' l adr kv := by
  have key : ∀ {k dir ids}, isKey l k → Node B w l adr kv k dir ids → Node B w' l adr kv k dir ids := fun {k dir ids} hik ⟨h1, h2, u, h3, h4⟩ =>
    ⟨h1, h2.frame (fun b hb => hg.block b (h.kid_block hik hb).2 (hc k b hik hb)) (fun _ _ _ e => e), u, hk _ _ _ (by decide) h3, h4.keepT hk (by decide)⟩
  exact ⟨key (.inl rfl) h.root, fun x hx => key (.inr ⟨x, hx, rfl⟩) (h.nodes x hx), h.inj, h.sep⟩
/-- a name and where a tree's root lies -/
def ESP (_ : World) (cs : Array Value) (p : Nat) (q : ByteArray × Nat) : Prop := cs[p]? = some (.string q.1) ∧ cs[p + 1]? = some (.pointer (some ⟨q.2, 0, none⟩)) ∧ q.1.size < lim
theorem esp_ok : ElOk 88 2 ESP := ⟨fun _ _ _ _ _ _ h => h, fun _ _ _ p p' _ hj h => by
  have h0 := hj 0 (by omega); have h1 := hj 1 (by omega)
  simp only [Nat.add_zero] at h0
  exact ⟨by rw [h0]; exact h.1, by rw [h1]; exact h.2.1, h.2.2⟩, fun _ _ _ q h j hj => by
  rcases (by omega : j = 0 ∨ j = 1) with rfl | rfl
  · exact ⟨_, h.1, rfl⟩
  · exact ⟨_, h.2.1, rfl⟩⟩
theorem el_Sp : Elem Tryz.prog 84 88 2 :=
  elem_of (z := .agg #[.string ⟨#[]⟩, .pointer none]) (b := 24) Tryz.underlying84 (by kernel_rfl) (by decide) rfl (by decide)
def spAt (aq : List (ByteArray × Nat)) (p : ByteArray) : Int := atG (fun q => eqb q.1 p) aq 0
/-- snapshots as a row tells them: where their trees lie; none of them has kids in block g -/
def SnapsIn (B : Nat) (w : World) (l : List Sn) (aq : List (ByteArray × Nat)) (g : Option Nat) : Prop := aq.length = l.length ∧ ∀ (k : Nat) (x : Sn), l[k]? = some x → x.name.size < lim ∧ treeOk x.tree = true ∧ ∃ adr kv, aq[k]? = some (x.name, adr []) ∧ TreeAt B w x.tree adr kv ∧ Clear g x.tree kv
section
variable {B : Nat} {w w' : World} {l : List Sn} {aq : List (ByteArray × Nat)} {g : Option Nat}
theorem SnapsIn.ext (h : SnapsIn B w l aq g) (e : Ext w w') : SnapsIn B w' l aq g := ⟨h.1, fun k x hx => let ⟨a, b, adr, kv, c, d, f⟩ := h.2 k x hx; ⟨a, b, adr, kv, c, d.ext e, f⟩⟩
theorem SnapsIn.keep1 {t : TypeId} (h : SnapsIn B w l aq g) (hk : Keep1 t w w') (h1 : 81 ≠ t) (h2 : 92 ≠ t) (h3 : 3 ≠ t) : SnapsIn B w' l aq g := ⟨h.1, fun k x hx => let ⟨a, b, adr, kv, c, d, f⟩ := h.2 k x hx; ⟨a, b, adr, kv, c, d.keepT hk.keepsT h1 h2 h3, f⟩⟩
theorem SnapsIn.frame {g' : Option Nat} (h : SnapsIn B w l aq g) (hk : KeepsT 81 w w') (hg : w.grownBy w' g) (hg' : g' = g ∨ ∃ n, g' = some n ∧ w.heap.size ≤ n) : SnapsIn B w' l aq g' := ⟨h.1, fun k x hx => by
  obtain ⟨a, b, adr, kv, c, d, f⟩ := h.2 k x hx
  refine ⟨a, b, adr, kv, c, d.frame hk hg f, fun k' b' hk' hb' => ?_⟩
  rcases hg' with rfl | ⟨n, rfl, hn⟩
  · exact f k' b' hk' hb'
  · have := (d.kid_block hk' hb').2
    intro e; cases e; omega⟩
theorem SnapsIn.nil (B : Nat) (w : World) (g : Option Nat) : SnapsIn B w [] [] g := ⟨rfl, fun k x h => by simp at h⟩
theorem SnapsIn.none (h : SnapsIn B w l aq g) : SnapsIn B w l aq none := ⟨h.1, fun k x hx => let ⟨a, b, adr, kv, c, d, _⟩ := h.2 k x hx; ⟨a, b, adr, kv, c, d, fun _ _ _ _ e => by cases e⟩⟩
theorem SnapsIn.names (h : SnapsIn B w l aq g) : aq.map Prod.fst = l.map Sn.name := by
  refine List.ext_getElem? fun k => ?_
  rw [List.getElem?_map, List.getElem?_map]
  cases hx : l[k]? with
  | none => rw [List.getElem?_eq_none_iff] at hx; rw [List.getElem?_eq_none (by rw [h.1]; exact hx)]; rfl
  | some x =>
    obtain ⟨-, -, adr, kv, c, -⟩ := h.2 k x hx
    rw [c]; rfl
end
theorem atG_map {α β : Type} (f : β → α) (p : α → Bool) (l : List β) : ∀ k, atG (fun x => p (f x)) l k = atG p (l.map f) k := by
  induction l with
  | nil => intro k; rfl
  | cons x xs ih => intro k; simp only [atG, List.map_cons, ih]
theorem spAt_sn {aq : List (ByteArray × Nat)} {l : List Sn} (h : aq.map Prod.fst = l.map Sn.name) (p : ByteArray) : spAt aq p = snAt l p := by
  have h1 := atG_map Prod.fst (fun n => eqb n p) aq 0
  have h2 := atG_map Sn.name (fun n => eqb n p) l 0
  unfold spAt snAt
  rw [h1, h, ← h2]; rfl
/-- a disk that is worked on at g -/
def DiskAt (B : Nat) (w : World) (g : Nat) (s : List Hd) (t : List It) (l : List Sn) : Prop :=
  ∃ b adr kv v aq, B ≤ g ∧ Blk w g 86 #[.int .i32 0, .int .u32 0, .map (some b), .pointer (some ⟨adr [], 0, none⟩), v] ∧ StoreAt B b 16 s w ∧ TreeAt B w t adr kv ∧ OwnS B 88 2 ESP w v aq ∧ SnapsIn B w l aq none
theorem DiskAt.ext {B : Nat} {w w' : World} {g : Nat} {s : List Hd} {t : List It} {l : List Sn} (h : DiskAt B w g s t l) (e : Ext w w') : DiskAt B w' g s t l :=
  let ⟨b, adr, kv, v, aq, h0, h1, h2, h3, h4, h5⟩ := h; ⟨b, adr, kv, v, aq, h0, h1.ext e, h2.ext e, h3.ext e, h4.ext esp_ok e, h5.ext e⟩
theorem DiskAt.low {B B' : Nat} {w : World} {g : Nat} {s : List Hd} {t : List It} {l : List Sn} (h : DiskAt B w g s t l) (hB : B' ≤ B) : DiskAt B' w g s t l :=
  let ⟨b, adr, kv, v, aq, h0, h1, h2, h3, h4, h5⟩ := h; ⟨b, adr, kv, v, aq, Nat.le_trans hB h0, h1, h2.low hB, h3.low hB, h4.mono hB, h5.1, fun k x hx => let ⟨q, r, adr, kv, c, d, f⟩ := h5.2 k x hx; ⟨q, r, adr, kv, c, d.low hB, f⟩⟩
theorem sps_ext {B : Nat} {w w' : World} {v : Value} {aq : List (ByteArray × Nat)} (h : SlOf B 88 2 ESP w v aq) (e : Ext w w') : SlOf B 88 2 ESP w' v aq := h.mono (Nat.le_refl _) (e.keeps _) (fun _ _ _ e => e)
theorem TreesAt.ext {B : Nat} {w w' : World} {A : Option Addr} {c : Nat} {ts : List (List It)} (h : TreesAt B w A c ts) (e : Ext w w') : TreesAt B w' A c ts := ⟨h.1, h.2.1, fun k t ht => let ⟨b, o, adr, kv, h1, h2, h3, h4⟩ := h.2.2 k t ht; ⟨b, o, adr, kv, h1, e.cell h2, h3.ext e, h4⟩⟩
theorem Sps.at_ {B : Nat} {w : World} {A : Option Addr} {c : Nat} {aq : List (ByteArray × Nat)} (h : SlIn B 88 2 ESP w A c aq) {k : Nat} {q : ByteArray × Nat} (hx : aq[k]? = some q) :
    ∃ b o, A = some ⟨b, o, none⟩ ∧ q.1.size < lim ∧ (∀ W, Ext w W → W.cell? ⟨b, o + k * 2, none⟩ = some (.string q.1)) ∧ ∀ W, Ext w W → W.cell? ⟨b, o + k * 2 + 1, none⟩ = some (.pointer (some ⟨q.2, 0, none⟩)) := by
  obtain ⟨b, o, cs, rfl, -, hb, h1, h2, h3⟩ := h.2.2.2 k q hx
  exact ⟨b, o, rfl, h3, hb.at_ h1, hb.at_ h2⟩
set_option maxHeartbeats 1000000 in
theorem snapAt_c {B g : Nat} {v : Value} {aq : List (ByteArray × Nat)} (p : ByteArray) (w : World) (hc : w.cell? ⟨g, 4, none⟩ = some v) (hv : SlOf B 88 2 ESP w v aq) :
    Calls Tryz.prog 88 #[.pointer (some ⟨g, 0, none⟩), .string p] w (Ret (.int .i64 (spAt aq p)) w) := by
  obtain ⟨A, c, rfl, hA⟩ := hv
  have hl := hA.2.2.1
  unfold lim at hl
  generalize hn : aq.length = n at *
  have Hn := Lib.hid hn; clear hn
  have HA := Lib.hid hA; clear hA
  go_enter Tryz.func88, Tryz.ntmps88
  go_wp2
  go_loopw [12] (fun i wr => ∃ k : Nat, k ≤ n ∧ i = .int .i64 k ∧ Ext w wr ∧ Hid (atG (fun q => eqb q.1 p) (aq.drop k) k = spAt aq p)) (fun i _ => n - (RowKit.intOf i).toNat)
  case atStart => exact ⟨0, by omega, rfl, Ext.refl _, Lib.hid rfl⟩
  case round =>
    obtain ⟨k, hk, rfl, he, hrest⟩ := hrel
    by_cases hlt : k < n
    · obtain ⟨x, hx⟩ := get_of_lt (l := aq) (k := k) (by rw [Hn.out]; exact hlt)
      obtain ⟨b, o, rfl, -, hc0, hc1⟩ := Sps.at_ HA.out hx
      have ha := hc0 wr he; have hb := hc1 wr he
      have Hd := Lib.hid (drop_cons hx)
      clear hc0 hc1 hx
      go_wp2
      · have hp : (x.1.toList == p.toList) = true := by assumption
        go_ret
        refine ⟨ret_i ?_, he.trans (by (repeat' (first | exact Ext.refl _ | assumption | refine Ext.alloc ?_ _ | refine Ext.drew ?_ | refine Ext.drewN ?_ _)))⟩
        have := hrest.out
        rw [bytes_ne_iff, decide_eq_true_iff] at hp
        rw [Hd.out] at this
        simpa [atG, eqb, hp] using this
      · have hp : (x.1.toList == p.toList) = false := by assumption
        rw [bytes_ne_iff, decide_eq_false_iff_not] at hp
        go_roundw
        case rel => exact ⟨k + 1, by omega, by go_num, he.trans (by (repeat' (first | exact Ext.refl _ | assumption | refine Ext.alloc ?_ _ | refine Ext.drew ?_ | refine Ext.drewN ?_ _))), Lib.hid (by have := hrest.out; rw [Hd.out] at this; simpa [atG, eqb, hp] using this)⟩
        case measure => simp [RowKit.intOf]; omega
    · have hks : k = n := by omega
      subst hks
      go_wp2
      go_ret
      refine ⟨ret_i ?_, he⟩
      have := hrest.out
      rw [List.drop_of_length_le (by rw [Hn.out]; omega)] at this
      exact this
end Go.Sf

/-! Disks, plain: what is asked of them in the program's order; what is read of them. -/
namespace Go.Sf
open Go Go.RowKit Go.Proofs
/-- what the program asks of the snapshot at k, the store apart -/
def SnAtI (l : List Sn) (k : Nat) (x : Sn) : Prop := treeOk x.tree = true ∧ wordOk (bl x.name) = true ∧ ∀ (j : Nat) (y : Sn), j < k → l[j]? = some y → y.name ≠ x.name
def SnapsI (l : List Sn) : Prop := l.length ≤ 6 ∧ ∀ (k : Nat) (x : Sn), l[k]? = some x → SnAtI l k x
theorem diskOk_iff {s : List Hd} {t : List It} {l : List Sn} : diskOk s t l = true ↔ storeOk s = true ∧ treeOk t = true ∧ SnapsI l ∧ usedOk s (treesOf t l) = true := by
  have h2 : ((treesOf t l).all fun t => filesFit s t) = true ↔ filesFit s t = true ∧ ∀ x, x ∈ l → filesFit s x.tree = true := by
    unfold treesOf
    simp only [List.all_cons, Bool.and_eq_true, List.all_eq_true, List.mem_map]
    constructor
    · rintro ⟨h1, h2⟩; exact ⟨h1, fun x hx => h2 _ ⟨x, hx, rfl⟩⟩
    · rintro ⟨h1, h2⟩; exact ⟨h1, by rintro _ ⟨x, hx, rfl⟩; exact h2 x hx⟩
  unfold diskOk usedOk
  simp only [Bool.and_eq_true, snapsOk_iff, h2]
  unfold SnapsOk SnapsI SnAt SnAtI diskUses
  constructor
  · rintro ⟨h1, h3, h4, ⟨h5, h6⟩, h7⟩
    refine ⟨h1, h3, ⟨h5, fun k x hx => ?_⟩, ⟨h4, fun x hx => ?_⟩, h7⟩
    · obtain ⟨a, b, c, d⟩ := h6 k x hx; exact ⟨c, a, b⟩
    · obtain ⟨k, hk⟩ := List.mem_iff_getElem?.1 hx; exact (h6 k x hk).2.2.2
  · rintro ⟨h1, h3, ⟨h5, h6⟩, ⟨h4, h8⟩, h7⟩
    refine ⟨h1, h3, h4, ⟨h5, fun k x hx => ?_⟩, h7⟩
    obtain ⟨a, b, c⟩ := h6 k x hx
    exact ⟨b, c, a, h8 x (List.mem_of_getElem? hx)⟩
theorem fits_all {s : List Hd} {t : List It} (h : filesFit s t = true) : ∀ x, x ∈ t → IdsFit s x.ids := fun x hx => idsFit_iff.1 (by
  unfold filesFit at h
  exact List.all_eq_true.1 h x hx)
theorem disk_parts {s : List Hd} {t : List It} {l : List Sn} (h : diskOk s t l = true) : StoreOk s ∧ treeOk t = true ∧ (∀ x, x ∈ t → IdsFit s x.ids) ∧ l.length ≤ 6 ∧
    ∀ y, y ∈ l → wordOk (bl y.name) = true ∧ treeOk y.tree = true ∧ ∀ x, x ∈ y.tree → IdsFit s x.ids := by
  unfold diskOk at h
  simp only [Bool.and_eq_true, snapsOk_iff] at h
  obtain ⟨h1, h2, h3, ⟨h4, h5⟩, -⟩ := h
  refine ⟨storeOk_iff.1 h1, h2, fits_all h3, h4, fun y hy => ?_⟩
  obtain ⟨k, hk⟩ := List.mem_iff_getElem?.1 hy
  obtain ⟨a, -, c, d⟩ := h5 k y hk
  exact ⟨a, c, fits_all d⟩
/-- the last snapshot with a file -/
def lastStep (p : ByteArray) (a : ByteArray) (x : Sn) : ByteArray := if (fileOf x.tree p).isSome then x.name else a
def lastSn (l : List Sn) (p : ByteArray) : ByteArray := l.foldl (lastStep p) ⟨#[]⟩
theorem foldl_take {α β : Type} (f : β → α → β) (a : β) {l : List α} {k : Nat} {x : α} (h : l[k]? = some x) : (l.take (k + 1)).foldl f a = f ((l.take k).foldl f a) x := by
  rw [List.take_add_one, h, Option.toList_some, List.foldl_append]; rfl
/-- the file of a snapshot -/
noncomputable def readSn (s : List Hd) (t : List It) (l : List Sn) (n p : ByteArray) : Option (List Int) :=
  if diskOk s t l = true then (l.find? (snIs n)).bind fun y => (fileOf y.tree p).map fun x => loadOf s x.ids else none
end Go.Sf
