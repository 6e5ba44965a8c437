/- Files of volumes are read: the reference's way. -/
import Derived.Test.YtdnnojghjnjnfaaGreatDoorGQ
namespace Go.Sf
open Go Go.RowKit Go.Proofs
noncomputable def loadOf (s : List Hd) (ids : List Int) : List Int := ids.flatMap fun i => ((findH s i).map (·.bytes)).getD []
def fileOf (t : List It) (p : ByteArray) : Option It := (findIt t p).bind fun x => if x.dir = true then none else some x
noncomputable def readOf (s : List Hd) (t : List It) (p : ByteArray) : Option (List Int) := if volOk s t = true then (fileOf t p).map fun x => loadOf s x.ids else none
theorem loadOf_take {s : List Hd} {ids : List Int} {k : Nat} {i : Int} {h : Hd} (hx : ids[k]? = some i) (hf : findH s i = some h) : loadOf s (ids.take (k + 1)) = loadOf s (ids.take k) ++ h.bytes := by
  unfold loadOf
  rw [List.take_add_one, hx, Option.toList_some, List.flatMap_append]
  simp [hf]
theorem block8 {s : List Hd} (hs : StoreOk s) {i : Int} {h : Hd} (hf : findH s i = some h) : h.bytes.length ≤ 8 := by
  obtain ⟨h1, -⟩ := findH_some hf
  obtain ⟨j, hj⟩ := List.mem_iff_getElem?.1 h1
  exact (block_len (hd_ok (hs.2 j h hj).1).2.1).2
theorem loadOf_len {s : List Hd} (hs : StoreOk s) : ∀ ids : List Int, (loadOf s ids).length ≤ ids.length * 8 := by
  intro ids
  induction ids with
  | nil => simp [loadOf]
  | cons i r ih =>
    unfold loadOf at ih ⊢
    rw [List.flatMap_cons, List.length_append, List.length_cons]
    have : (((findH s i).map (·.bytes)).getD []).length ≤ 8 := by
      cases hf : findH s i with
      | none => simp
      | some h => exact block8 hs hf
    omega
theorem its_sub {B b o c i : Nat} {w : World} {t : List It} {x : It} (h : SlIn B 47 3 (EIt B) w (some ⟨b, o, none⟩) c t) (hx : t[i]? = some x) : Its B w (.slice (some ⟨b, o + i * 3, none⟩) 1 (c - i)) [x] := by
  obtain ⟨h1, h2, h3, h4⟩ := h
  have hi := lt_of_get hx
  obtain ⟨b', o', cs, e, hB, hb, he⟩ := h4 i x hx
  cases e
  refine ⟨_, c - i, rfl, by simp; omega, ⟨by omega, fun e => by cases e⟩, by unfold lim; simp, fun k y hy => ?_⟩
  cases k with
  | succ k => simp at hy
  | zero =>
    simp only [List.getElem?_cons_zero, Option.some.injEq] at hy
    subst hy
    exact ⟨b, o + i * 3, cs, rfl, hB, hb, by simpa using he⟩
set_option maxRecDepth 4000 in
set_option maxHeartbeats 2000000 in
theorem l11Ids_c {B : Nat} {v : Value} {t : List It} (p : ByteArray) (w : World) (h : Its B w v t) : Calls Tryz.prog 72 #[v, .string p] w (RetP (fun r w' => Its 0 w' r (fileOf t p).toList) w) := by
  have H := Lib.hid h
  have Ca := l5At_c p w h
  obtain ⟨A, c, rfl, hA⟩ := h
  have hl := hA.2.2.1
  have hlc := hA.1
  unfold lim at hl
  rcases atG_find (pathIs p) t 0 with ⟨f1, f2⟩ | ⟨i, y, f1, f2, f3, f4, -⟩
  · rw [atPath, f2] at Ca
    have Hr : Hid (fileOf t p = none) := Lib.hid (by unfold fileOf; rw [show findIt t p = none from f1]; rfl)
    clear f1 f2 hA
    go_enter Tryz.func72, Tryz.ntmps72
    go_wp2_with (go_at_call 100; refine Ca.mono ?_; rintro e w2 ⟨rfl, he2⟩)
    go_ret
    exact ⟨_, rfl, by rw [Hr.out]; exact SlOf.empty _ _ _ _ _ _ _ (Nat.zero_le _) (fun _ => rfl), he2.alloc _⟩
  · rw [atPath, f4] at Ca
    simp only [Nat.zero_add] at Ca
    have hi0 : ¬ ((i : Int) < 0) := by omega
    have hil := lt_of_get f1
    obtain ⟨b, o, u, rfl, -, -, -, -, -, hc1, -⟩ := Its.at_ hA f1
    have HA := Lib.hid hA; have F1 := Lib.hid f1
    have hf : fileOf t p = if y.dir = true then none else some y := by unfold fileOf; rw [show findIt t p = some y from f3]; rfl
    have Hf := Lib.hid hf
    obtain ⟨yp, yd, yi⟩ := y
    simp only at hc1
    generalize hn : t.length = n at *
    clear f1 f2 f3 f4 hA hf
    cases yd with
    | true =>
      have Hr : Hid (fileOf t p = none) := Lib.hid (by rw [Hf.out]; rfl)
      go_enter Tryz.func72, Tryz.ntmps72
      go_wp2_with (go_at_call 100; refine Ca.mono ?_; rintro e w2 ⟨rfl, he2⟩; have q1 := hc1 w2 he2)
      go_ret
      exact ⟨_, rfl, by rw [Hr.out]; exact SlOf.empty _ _ _ _ _ _ _ (Nat.zero_le _) (fun _ => rfl), he2.alloc _⟩
    | false =>
      have Hr : Hid (fileOf t p = some ⟨yp, false, yi⟩) := Lib.hid (by rw [Hf.out]; rfl)
      have hw1 : IntKind.i64.wrap ((i : Int) + 1) = (i : Int) + 1 := IntWalk.i64_in _ (by omega)
      have hic : i + 1 ≤ c := by omega
      have hic' : (i : Int) + 1 ≤ (c : Int) := by omega
      have hp1 : (0 : Int) ≤ (i : Int) + 1 := by omega
      have hn1 : ((i : Int) + 1).toNat = i + 1 := by omega
      have hii : (i : Int) ≤ (i : Int) + 1 := by omega
      have hcne : c - i ≠ 0 := by omega
      have hcni : ¬ c = i := by omega
      have hd1 : i + 1 - i = 1 := by omega
      go_enter Tryz.func72, Tryz.ntmps72
      go_wp2_with (go_at_call 100; refine Ca.mono ?_; rintro e w2 ⟨rfl, he2⟩; have q1 := hc1 w2 he2)
      go_ret
      refine ⟨_, rfl, ?_, he2⟩
      rw [Hr.out]
      exact ((its_sub HA.out F1.out).ext he2).keep (Nat.zero_le _) (fun _ _ _ => rfl)
set_option maxRecDepth 4000 in
set_option maxHeartbeats 2000000 in
theorem l4Load_c {B B' : Nat} {v vi : Value} {s : List Hd} {ids : List Int} (w : World) (hs : StoreOk s) (hfit : IdsFit s ids) (h : Hds B w v s) (hi : Ints B' w vi ids) :
    Calls Tryz.prog 73 #[v, vi] w (RetP (fun r w' => Ints w.heap.size w' r (loadOf s ids)) w) := by
  have H := Lib.hid h
  have HS := Lib.hid hs; have HFit := Lib.hid hfit
  obtain ⟨A, c, rfl, hA⟩ := h
  obtain ⟨A2, c2, rfl, hA2⟩ := hi
  have hl := hA.2.2.1
  unfold lim at hl
  have hn4 : ids.length ≤ 4 := hfit.1
  generalize hm : s.length = m at *
  generalize hn : ids.length = n at *
  have Hn := Lib.hid hn; have Hm := Lib.hid hm
  have HA := Lib.hid hA; have HA2 := Lib.hid hA2
  clear hn hm hA hA2 hs hfit
  have e0 : Ext w (w.alloc (.cells #[] 3)) := (Ext.refl w).alloc _
  go_enter Tryz.func73, Tryz.ntmps73
  go_wp2
  go_loopw [5, 6] (fun v i wr => ∃ k : Nat, k ≤ n ∧ i = .int .i64 k ∧ Ext w wr ∧ OwnS w.heap.size 3 1 EInt wr v (loadOf s (ids.take k))) (fun _ i _ => n - (RowKit.intOf i).toNat)
  case atStart => exact ⟨0, by omega, rfl, e0, OwnS.lit _ _ _ _ (Nat.le_refl _) (by simp)⟩
  case round =>
    obtain ⟨k, hk, rfl, he, hO⟩ := hrel
    have HO := Lib.hid hO
    by_cases hlt : k < n
    · obtain ⟨x, hx⟩ := get_of_lt (l := ids) (k := k) (by rw [Hn.out]; exact hlt)
      obtain ⟨b, o, rfl, -, -, -, hc⟩ := Ints.at_ HA2.out hx
      have a0 := hc wr he
      have Hx := Lib.hid hx
      obtain ⟨y, hf, -⟩ := HFit.out.2 k x hx
      have Ca := l3At_c x wr (H.out.ext he)
      rw [hAt] at Ca
      have hy8 := block8 HS.out hf
      have Ht := Lib.hid (loadOf_take hx hf)
      rcases atG_find (idIs x) s 0 with ⟨f1, f2⟩ | ⟨i, z, f1, f2, f3, f4, -⟩
      · rw [show s.find? (idIs x) = findH s x from rfl, hf] at f1; cases f1
      · rw [show s.find? (idIs x) = findH s x from rfl, hf] at f3
        cases f3
        rw [f4] at Ca
        simp only [Nat.zero_add] at Ca
        have him : i < m := by rw [← Hm.out]; exact lt_of_get f1
        obtain ⟨b', o', u, rfl, -, -, -, hu, -, -, hc1, -⟩ := Hds.at_ HA.out f1
        have HU := Lib.hid hu
        obtain ⟨Ay, cy, rfl, -⟩ := hu
        obtain ⟨yk, yb, yu⟩ := y
        simp only at hc1 HU hy8
        have c1 := fun W (e : Ext wr W) => hc1 W (he.trans e)
        have hlb : (loadOf s (ids.take k)).length ≤ 32 := by
          have := loadOf_len HS.out (ids.take k)
          rw [List.length_take] at this
          omega
        obtain ⟨A', c', rfl⟩ := hO.form
        clear hc hx f1 f2 f4 hf hc1 hO
        go_wp2_with (first | (go_at_call 119; refine Ca.mono ?_; rintro e w2 ⟨rfl, he2⟩; have q1 := c1 w2 he2; have HO2 := Lib.hid (HO.out.ext eint_ok he2); have he3 := he.trans he2) | (at_builtin; go_must (refine wp_apS (w0 := w) (by rfl) _ _ (by rfl) el_int eint_ok he3 _ (.slice Ay yb.length cy) (loadOf s (ids.take k)) yb (by rfl) HO2.out (by rfl) ((HU.out.ext he3).keep (Nat.zero_le _) (fun _ _ _ => rfl)) ?_ ?_)))
        · unfold lim; omega
        · intro v' w' hO' he' hk'
          have HO' := Lib.hid hO'
          clear hO' hk'
          go_wp2
          go_roundw
          case rel => exact ⟨k + 1, by omega, by go_num, he', by rw [Ht.out]; exact HO'.out⟩
          case measure => simp [RowKit.intOf]; omega
    · have hks : k = n := by omega
      subst hks
      have hO2 := HO.out
      rw [List.take_of_length_le (by rw [Hn.out]; exact Nat.le_refl _)] at hO2
      have HF := Lib.hid (hO2.sl eint_ok (Nat.le_refl _) (by have := loadOf_len HS.out ids; unfold lim; have := Hn.out; omega))
      clear hO hO2
      go_wp2
      go_ret
      exact ⟨_, rfl, HF.out, he⟩
end Go.Sf
