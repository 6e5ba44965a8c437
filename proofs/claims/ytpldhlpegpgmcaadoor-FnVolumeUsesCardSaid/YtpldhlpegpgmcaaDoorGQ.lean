/- The program counts the uses of blocks. -/
import Derived.Test.YtpldhlpegpgmcaaDoorGP
import Derived.Test.YtpldhlpegpgmcaaDoorHG
import Derived.Test.YtpldhlpegpgmcaaDoorGF
import Derived.Maps.RangeWalk
/-! The program counts the uses of blocks. -/
namespace Go.Sf
open Go Go.RowKit Go.Proofs Go.Maps Go.WideShapes
theorem zeroInt (w : World) : (zeroValue 3).run Tryd.prog w = .ok (.int .i64 0) w := by kernel_rfl
theorem underUses : Tryd.prog.underlying 73 = some (.map 3 3) := Tryd.underlying73
/-- block b is a map that tells numbers U by ids -/
def UsesAt (b N : Nat) (U : Int → Nat) (w : World) : Prop := ∃ n M, n ≤ N ∧ MapV Tryd.prog 3 b n M w ∧ ∀ i, (M (kI i)).getD (.int .i64 0) = .int .i64 (U i : Nat)
theorem UsesAt.ext {b N : Nat} {U : Int → Nat} {w w' : World} (h : UsesAt b N U w) (e : Ext w w') : UsesAt b N U w' := let ⟨n, M, h1, h2, h3⟩ := h; ⟨n, M, h1, h2.ext e, h3⟩
theorem UsesAt.mono {b N N' : Nat} {U : Int → Nat} {w : World} (h : UsesAt b N U w) (e : N ≤ N') : UsesAt b N' U w := let ⟨n, M, h1, h2, h3⟩ := h; ⟨n, M, Nat.le_trans h1 e, h2, h3⟩
theorem UsesAt.eq {b N : Nat} {U U' : Int → Nat} {w : World} (h : UsesAt b N U w) (e : U = U') : UsesAt b N U' w := e ▸ h
theorem UsesAt.made (w : World) : UsesAt w.heap.size 0 (fun _ => 0) (w.alloc (.map #[] 0)) := ⟨0, _, Nat.le_refl _, MapV.made w, fun _ => rfl⟩
/-- how often trees have an id -/
def cntTs (i : Int) (ts : List (List It)) : Nat := (ts.map (cntT i)).sum
theorem cntTs_take {i : Int} {ts : List (List It)} {k : Nat} {t : List It} (h : ts[k]? = some t) : cntTs i (ts.take (k + 1)) = cntTs i (ts.take k) + cntT i t := by
  unfold cntTs
  rw [List.take_add_one, h, Option.toList_some, List.map_append, List.sum_append]; simp
noncomputable def usedOk (s : List Hd) (ts : List (List It)) : Bool := (ts.all fun t => filesFit s t) && s.all fun h => eqb (cntTs h.id ts : Int) h.uses
/-- a row of pointers to trees -/
def TreesAt (B : Nat) (w : World) (A : Option Addr) (c : Nat) (ts : List (List It)) : Prop :=
  ts.length ≤ c ∧ ts.length ≤ lim ∧ ∀ k t, ts[k]? = some t → ∃ b o adr kv, A = some ⟨b, o, none⟩ ∧ w.cell? ⟨b, o + k, none⟩ = some (.pointer (some ⟨adr [], 0, none⟩)) ∧ TreeAt B w t adr kv ∧ treeOk t = true
theorem sameK (i j : Int) : (kI i).sameKey (kI j) = decide (i = j) := by
  unfold kI
  by_cases h : i = j
  · subst h; simp [Lit.sameKey]
  · simp [Lit.sameKey, h]
section
variable {B b n r cnt : Nat} {l : List Hd} {D : DataW Value} {M : Lit → Option Value} {left : Lit → Bool} {w w0 : World} {ops : Array Oper} {rest : List Oper} {o : Oper} {a : Act} {Q : Exit → Act → World → Prop}
/-- the step of a range over a store -/
theorem wp_next_hd (hg : o.guard = none) (it : Operand) (hop : o.op = Op.next it false) (hit : a.eval it = .pointer (some ⟨r, 0, none⟩)) (h : w.ranges Tryd.prog 3 rV b r n D left cnt) (hD : MapD D M) (hM : MapHd B w0 l M)
    (hDone : (∀ kl, left kl = false) → wpList Tryd.prog ops Q rest (a.put o.dst (.tuple #[.bool false])) w)
    (hMore : ∀ (x : Hd) (u : Value) (w' : World) (cnt' : Nat), findH l x.id = some x → inI x.id → Ints B w0 u x.bytes → w'.ranges Tryd.prog 3 rV b r n D (fun z => left z && !z.sameKey (kI x.id)) cnt' → cnt' < cnt → w.grownBy w' (some r) →
      (Instr.entry (.pointer (some ⟨r, 0, none⟩))).run Tryd.prog w' = .ok (.tuple #[.int .i64 x.id, .agg #[.int .i64 x.id, u, .int .i64 x.uses]]) w' → wpList Tryd.prog ops Q rest (a.put o.dst (.tuple #[.bool true, .int .i64 x.id, .agg #[.int .i64 x.id, u, .int .i64 x.uses]])) w') :
    wpList Tryd.prog ops Q (o :: rest) a w := by
  refine wpList_next_ranges (α := Int) (β := Value) w hg it hop 3 lawI rV (Value.int .i64) id (fun key kl hkey => by obtain ⟨x, rfl, _⟩ := Maps.keyOf_int_inv Tryd.underlying3 hkey; exact ⟨x, rfl⟩) (fun v y hv => ⟨v, rfl⟩) b r n D left cnt hit h (fun _ => hDone) ?_
  intro x c kl y w' cnt' hkey hlk hv hat hrg hlt hgr hsz hen
  obtain ⟨x', ex, rfl, hwx⟩ := Maps.keyOf_int_inv Tryd.underlying3 hkey
  cases ex
  simp only [rV, id, Option.some.injEq] at hv
  subst hv
  have hk : WideAt.IsKeyLit (Lit.int .i64 x) := lawI.key hkey
  have hxi : inI x := by
    simp [Lit.wf, IntKind.min, IntKind.max, IntKind.signed, IntKind.bits] at hwx
    unfold inI; omega
  have hMx : M (kI x) = some c := by
    cases hm : M (kI x) with
    | none =>
      have h1 := (hD (kI x) hk).1
      rw [hm] at h1
      have h2 := atKey_of_not_has (by simpa using h1) (.nil : DataW Value)
      have h3 := hat (.nil)
      rw [show (Lit.int .i64 x) = kI x from rfl, h2] at h3
      cases h3
    | some v =>
      have h2 := (hD (kI x) hk).2 v hm .nil
      have h3 := hat .nil
      rw [show (Lit.int .i64 x) = kI x from rfl, h2] at h3
      cases h3; rfl
  cases hf : findH l x with
  | none => rw [(hM x).1 hf] at hMx; cases hMx
  | some hd =>
    obtain ⟨u, h1, h2⟩ := (hM x).2 hd hf
    rw [h1] at hMx
    have e := (findH_some hf).2
    subst e
    cases hMx
    exact hMore hd u w' cnt' hf hxi h2 hrg hlt hgr hen
end
end Go.Sf

/-! The program's count of uses against a store. -/
namespace Go.Sf
open Go Go.RowKit Go.Proofs Go.Maps Go.WideShapes
section
variable {P : Program} {k e t : TypeId} {b n : Nat} {M : Lit → Option Value} {w : World} {ops : Array Oper} {rest : List Oper} {o : Oper} {a : Act} {Q : Exit → Act → World → Prop}
theorem wp_mlook_get (hg : o.guard = none) (m x : Operand) (hop : o.op = Op.lookup t m x false) (K : Keyed P k) (ht : P.underlying t = some (.map k e)) {z v : Value} (hz : (zeroValue e).run P w = .ok z w)
    (hm : a.eval m = .map (some b)) (hown : MapV P k b n M w) (key : Value) (kl : Lit) (hx : a.eval x = key) (hkey : keyOf P k key = some kl)
    (hr : (M kl).getD z = v) (hK : wpList P ops Q rest (a.put o.dst v) w) : wpList P ops Q (o :: rest) a w := wp_mlook hg m x hop K ht hz hm hown key kl hx hkey rfl (by rw [hr]; exact hK)
end
theorem uses_put {b N n : Nat} {U : Int → Nat} {M : Lit → Option Value} {y : Int} {w' : World} (hn : n ≤ N) (hM : ∀ i, (M (kI i)).getD (.int .i64 0) = .int .i64 (U i : Nat)) (h : MapV Tryd.prog 3 b (n + 1) (updM M (kI y) (some (.int .i64 ((U y : Nat) + 1)))) w') :
    UsesAt b (N + 1) (fun i => U i + if y = i then 1 else 0) w' := by
  refine ⟨n + 1, _, by omega, h, fun i => ?_⟩
  by_cases e : y = i
  · subst e
    rw [updM_same]; simp
  · rw [updM_other (kI_ne fun h => e h.symm), hM i]
    simp [e]
theorem used_bad {s : List Hd} {ts : List (List It)} {k j : Nat} {t : List It} {x : It} (ht : ts[k]? = some t) (hx : t[j]? = some x) (h : idsFit s x.ids = false) : usedOk s ts = false := by
  have h1 : filesFit s t = false := by
    unfold filesFit
    exact all_bad (p := fun x => idsFit s x.ids) hx h
  unfold usedOk
  rw [all_bad (p := fun t => filesFit s t) ht h1]; rfl
set_option maxRecDepth 8000 in
set_option maxHeartbeats 4000000 in
theorem usedBy_c {B B' b n : Nat} {A : Option Addr} {c : Nat} {s : List Hd} {ts : List (List It)} (w : World) (hs : StoreOk s) (h : StoreAt B b n s w) (ht : TreesAt B' w A c ts) :
    Calls Tryd.prog 21 #[.map (some b), .slice A ts.length c] w (Ret (.bool (usedOk s ts)) w) := by
  have HS := Lib.hid hs
  have HSt := Lib.hid h
  obtain ⟨ht1, ht2, ht3⟩ := ht
  have HT := Lib.hid ht3
  unfold lim at ht2
  generalize hn : ts.length = q at *
  have Hq := Lib.hid hn; clear hn hs h ht3
  have hmk := @run_makeMap Tryd.prog
  go_enter Tryd.func21, Tryd.ntmps21
  go_wp2
  clear hmk
  have HU0 := Lib.hid (UsesAt.made w)
  have e0 : Ext w (w.alloc (.map #[] 0)) := (Ext.refl w).alloc _
  go_loopw [17] (fun i wr => ∃ k : Nat, k ≤ q ∧ i = .int .i64 k ∧ Ext w wr ∧ Hid (UsesAt w.heap.size (k * 48) (fun i => cntTs i (ts.take k)) wr) ∧ Hid (∀ i, cntTs i (ts.take k) ≤ k * 48) ∧ Hid ((ts.take k).all (fun t => filesFit s t) = true)) (fun i _ => q - (RowKit.intOf i).toNat)
  case atStart => exact ⟨0, by omega, rfl, e0, HU0, Lib.hid fun i => by simp [cntTs], Lib.hid rfl⟩
  case round =>
    obtain ⟨k, hk, rfl, he, hUs, hUb, hfit⟩ := hrel
    by_cases hlt : k < q
    · obtain ⟨t, hx⟩ := get_of_lt (l := ts) (k := k) (by rw [Hq.out]; exact hlt)
      obtain ⟨b2, o, adr, kv, rfl, hcell, hTr, hok⟩ := HT.out k t hx
      have q0 := he.cell hcell
      have hgr := treeOk_iff'.1 hok
      have Hx := Lib.hid hx
      have Cl := listU_c (hTr.ext he) hgr.2 hgr.1
      have ht12 := hgr.1
      generalize hU0 : (fun i => cntTs i (ts.take k)) = U0 at *
      have HUb : Hid (∀ i, U0 i ≤ k * 48) := Lib.hid fun i => by rw [← hU0]; exact hUb.out i
      have Hnext : Hid (∀ i, cntTs i (ts.take (k + 1)) = U0 i + cntT i t) := Lib.hid fun i => by rw [← hU0]; exact cntTs_take hx
      clear hcell hTr hgr hx hok hU0 hUb
      go_wp2_with fail
      refine Cl.mono ?_
      rintro e w3 ⟨v3, rfl, ⟨lu, hlu, hU3, -, -⟩, he3⟩
      have hI3 := hU3.its
      rw [hlu] at hI3
      have HI3 := Lib.hid hI3
      have hUs3 := Lib.hid (hUs.out.ext he3)
      have E3 := he.trans he3
      obtain ⟨A3, c3, rfl, -⟩ := hI3
      have HI0 : Hid (Its 0 w3 (.slice A3 t.length c3) t) := Lib.hid (HI3.out.keep (Nat.zero_le _) (fun _ _ _ => rfl))
      generalize hn3 : t.length = n3 at *
      have Hn3 := Lib.hid hn3
      clear hU3 hlu Cl hUs he3 hn3 HI3
      go_wp2
      go_loopw [24] (fun i wr => ∃ j : Nat, j ≤ n3 ∧ i = .int .i64 j ∧ Ext w wr ∧ Hid (Its 0 wr (.slice A3 n3 c3) t) ∧ Hid (UsesAt w.heap.size (k * 48 + j * 4) (fun i => U0 i + cntT i (t.take j)) wr) ∧ Hid (∀ i, U0 i + cntT i (t.take j) ≤ k * 48 + j * 4) ∧ Hid ((t.take j).all (fun x => idsFit s x.ids) = true)) (fun i _ => n3 - (RowKit.intOf i).toNat)
      case atStart => exact ⟨0, by omega, rfl, E3, HI0, Lib.hid ((hUs3.out.mono (by omega)).eq (by funext i; simp [cntT])), Lib.hid fun i => by have := HUb.out i; simp [cntT]; omega, Lib.hid rfl⟩
      case round =>
        obtain ⟨j, hj, rfl, he4, hI4, hUs4, hUb4, hfit4⟩ := hrel
        by_cases hlt2 : j < n3
        · obtain ⟨x, hx⟩ := get_of_lt (l := t) (k := j) (by rw [Hn3.out]; exact hlt2)
          have hI4' := hI4.out
          obtain ⟨A3', c3', hv3, hA3⟩ := hI4'
          rw [Hn3.out] at hv3
          injection hv3 with e1 e2 e3
          subst e1; subst e3
          clear e2
          obtain ⟨b3, o3, u, rfl, -, -, hps, hu, hc0, hc1, hc2⟩ := Its.at_ hA3 hx
          obtain ⟨Ax, cx, rfl, hux⟩ := hu
          have Hx2 := Lib.hid hx
          obtain ⟨xp, xd, xi⟩ := x
          simp only at hps hux hc0 hc1 hc2
          have r0 := hc0 wr (Ext.refl _); have r1 := hc1 wr (Ext.refl _); have r2 := hc2 wr (Ext.refl _)
          have HI : Hid (∀ W, Ext wr W → Ints 0 W (.slice Ax xi.length cx) xi) := Lib.hid fun W e => Ints.ext (w := wr) ⟨_, _, rfl, hux⟩ e
          have hbk := Blk.new wr 34 #[.string xp, .bool xd, .slice Ax xi.length cx]
          have d2 := fun W (e : Ext _ W) => hbk.at_ (i := 2) (u := .slice Ax xi.length cx) rfl W e
          have ea : Ext wr (wr.alloc (.cells #[.string xp, .bool xd, .slice Ax xi.length cx] 34)) := (Ext.refl wr).alloc _
          have Cf := fileIds_c _ HS.out (HSt.out.ext (he4.trans ea)) (HI.out _ ea)
          clear hc0 hc1 hc2 hux hx hbk hA3
          cases hf : idsFit s xi with
          | false =>
            have Hr := Lib.hid (used_bad Hx.out Hx2.out hf)
            rw [hf] at Cf
            clear hf hfit4 hfit
            go_wp2_with (go_at_call 38; refine Cf.mono ?_; rintro e w5 ⟨rfl, he5⟩)
            go_ret
            exact ⟨ret_b Hr.out.symm, he4.trans (ea.trans he5)⟩
          | true =>
          have hxi4 : xi.length ≤ 4 := (idsFit_iff.1 hf).1
          have Hfit5 := Lib.hid (all_take hfit4.out Hx2.out hf)
          rw [hf] at Cf
          generalize hU1 : (fun i => U0 i + cntT i (t.take j)) = U1 at *
          have HUb1 : Hid (∀ i, U1 i ≤ k * 48 + j * 4) := Lib.hid fun i => by rw [← hU1]; exact hUb4.out i
          have Hnext2 : Hid (∀ i, U0 i + cntT i (t.take (j + 1)) = U1 i + cntI i xi) := Lib.hid fun i => by rw [← hU1, cntT_take Hx2.out, Nat.add_assoc]
          generalize hn4 : xi.length = n4 at *
          have Hn4 := Lib.hid hn4
          clear hf hfit4 hU1 hUb4 hn4
          go_wp2_with (go_at_call 38; refine Cf.mono ?_; rintro e w5 ⟨rfl, he5⟩; have r5 := d2 w5 he5)
          have E5 := ea.trans he5
          have hUs5 := Lib.hid (hUs4.out.ext E5)
          have hI5 := Lib.hid (hI4.out.ext E5)
          have hIi5 := Lib.hid (HI.out _ E5)
          have E6 := he4.trans E5
          clear r0 r1 r2 r5 d2 Cf he5 hUs4 hI4 HI ea
          go_loopw [36] (fun i wr => ∃ m : Nat, m ≤ n4 ∧ i = .int .i64 m ∧ Ext w wr ∧ Hid (Its 0 wr (.slice (some ⟨b3, o3, none⟩) n3 c3) t) ∧ Hid (Ints 0 wr (.slice Ax n4 cx) xi) ∧ Hid (UsesAt w.heap.size (k * 48 + j * 4 + m) (fun i => U1 i + cntI i (xi.take m)) wr)) (fun i _ => n4 - (RowKit.intOf i).toNat)
          case atStart => exact ⟨0, by omega, rfl, E6, hI5, hIi5, Lib.hid (hUs5.out.eq (by funext i; simp [cntI]))⟩
          case round =>
            obtain ⟨m, hm, rfl, he6, hI6, hIi6, hUs6⟩ := hrel
            by_cases hlt3 : m < n4
            · obtain ⟨y, hy⟩ := get_of_lt (l := xi) (k := m) (by rw [Hn4.out]; exact hlt3)
              have hIi6' := hIi6.out
              obtain ⟨A4', c4', hv4, hA4⟩ := hIi6'
              rw [Hn4.out] at hv4
              injection hv4 with e1 e2 e3
              subst e1; subst e3
              clear e2
              obtain ⟨b4, o4, rfl, -, -, hyi, hy0⟩ := Ints.at_ hA4 hy
              have s0 := hy0 wr (Ext.refl _)
              have hkey := keyI hyi
              obtain ⟨n6, M6, hn6, hV6, hM6⟩ := hUs6.out
              have hUy := hM6 y
              have hbd : U1 y + cntI y (xi.take m) ≤ k * 48 + j * 4 + m := by
                have h1 := HUb1.out y
                have h2 := cntI_le y (xi.take m)
                rw [List.length_take] at h2
                omega
              have hnm : n6 < maxLen := by unfold maxLen; omega
              have Hyt : Hid ((fun i => (U1 i + cntI i (xi.take m)) + if y = i then 1 else 0) = fun i => U1 i + cntI i (xi.take (m + 1))) := Lib.hid (by funext i; rw [cntI_take hy, Nat.add_assoc])
              have HM6 := Lib.hid hM6; have Hn6 := Lib.hid hn6
              simp only at hUy
              generalize hC : U1 y + cntI y (xi.take m) = C at *
              have HC := Lib.hid hC
              have hw1 : IntKind.i64.wrap ((C : Int) + 1) = (C : Int) + 1 := IntWalk.i64_in _ (by omega)
              clear hy hy0 hUs6 hM6 hC hA4 hn6
              go_wp2_with (first | (at_lookup; refine wp_mlook_get rfl _ _ rfl lawI underUses (zeroInt _) rfl hV6 _ _ rfl hkey hUy ?_) | (at_mapUpdate; refine wp_mput (w0 := w) rfl _ _ _ rfl lawI underUses he6 (Nat.le_refl _) rfl hV6 hnm _ _ _ rfl rfl hkey ?_; intro w7 hV7 he7 hg7))
              have hk7 := map_keepsT hV6 hg7 9
              have hI7 := Lib.hid (hI6.out.keepT hk7 (by decide) (by decide))
              have hIi7 := Lib.hid (hIi6.out.keepT hk7 (by decide))
              have hUs7 := Lib.hid ((uses_put Hn6.out HM6.out (y := y) (by rw [HC.out]; exact hV7)).eq Hyt.out)
              clear hV7 hg7 hk7 hV6
              go_roundw
              case rel => exact ⟨m + 1, by omega, by go_num, he7, hI7, hIi7, hUs7⟩
              case measure => simp [RowKit.intOf]; omega
            · have hmn : m = n4 := by omega
              subst hmn
              have hUs7 : Hid (UsesAt w.heap.size (k * 48 + (j + 1) * 4) (fun i => U0 i + cntT i (t.take (j + 1))) wr) := Lib.hid ((hUs6.out.mono (by omega)).eq (by
                funext i
                rw [Hnext2.out, List.take_of_length_le (by rw [Hn4.out]; exact Nat.le_refl _)]))
              have hUb7 : Hid (∀ i, U0 i + cntT i (t.take (j + 1)) ≤ k * 48 + (j + 1) * 4) := Lib.hid fun i => by
                rw [Hnext2.out]
                have h1 := HUb1.out i
                have h2 := cntI_le i xi
                rw [Hn4.out] at h2
                omega
              clear hUs6
              go_wp2
              go_roundw
              case rel => exact ⟨j + 1, by omega, by go_num, he6, hI6, hUs7, hUb7, Hfit5⟩
              case measure => simp [RowKit.intOf]; omega
        · have hjn : j = n3 := by omega
          subst hjn
          have hte : t.take j = t := List.take_of_length_le (by rw [Hn3.out]; exact Nat.le_refl _)
          have hUs5 : Hid (UsesAt w.heap.size ((k + 1) * 48) (fun i => cntTs i (ts.take (k + 1))) wr) := Lib.hid ((hUs4.out.mono (by omega)).eq (by funext i; rw [Hnext.out, hte]))
          have hUb5 : Hid (∀ i, cntTs i (ts.take (k + 1)) ≤ (k + 1) * 48) := Lib.hid fun i => by
            have := hUb4.out i
            rw [Hnext.out]
            rw [hte] at this
            omega
          have hfit5 : Hid ((ts.take (k + 1)).all (fun t => filesFit s t) = true) := Lib.hid (all_take hfit.out Hx.out (by
            have := hfit4.out
            rwa [hte] at this))
          clear hUs4 hUb4 hfit4 hte
          go_wp2
          go_roundw
          case rel => exact ⟨k + 1, by omega, by go_num, he4, hUs5, hUb5, hfit5⟩
          case measure => simp [RowKit.intOf]; omega
    · have hkq : k = q := by omega
      subst hkq
      have hte : ts.take k = ts := List.take_of_length_le (by rw [Hq.out]; exact Nat.le_refl _)
      have hUs5 : Hid (∀ W, Ext wr W → UsesAt w.heap.size (k * 48) (fun i => cntTs i ts) W) := Lib.hid fun W e => by
        have := hUs.out
        rw [hte] at this
        exact this.ext e
      have hfit5 : Hid ((ts.all fun t => filesFit s t) = true) := Lib.hid (by have := hfit.out; rwa [hte] at this)
      obtain ⟨M, ⟨D, hO, hD⟩, hM⟩ := HSt.out.ext he
      have HD := Lib.hid hD; have HM := Lib.hid hM
      clear hUs hfit hte hUb hD hM
      go_wp2_with (at_range; refine wpList_range_own _ rfl _ 40 rfl 3 31 lawI underStore rV b n D rfl hO ?_; intro w8 hrg8 hg8 hs8)
      go_frame
      have e8 : Ext wr w8 := Below.grown (Ext.refl wr) hg8 (Ext.refl wr).size (fun j hj => by cases hj)
      have HL : Hid (∀ h, findH s h.id = some h → Maps.has D (kI h.id) = false → eqb (cntTs h.id ts : Int) h.uses = true) := Lib.hid fun h hf hh => by
        obtain ⟨u, h1, -⟩ := (HM.out h.id).2 h hf
        have := (HD.out (kI h.id) (by simp [kI, WideAt.IsKeyLit])).1
        rw [hh, h1] at this
        cases this
      have hex : ∃ r, r = wr.heap.size := ⟨_, rfl⟩
      obtain ⟨r, hr⟩ := hex
      rw [← hr] at hrg8 ⊢
      have hrw : w.heap.size ≤ r := by rw [hr]; exact he.size
      have hrw2 : wr.heap.size ≤ r := Nat.le_of_eq hr.symm
      have hex : ∃ wa, wa = wr := ⟨_, rfl⟩
      obtain ⟨wa, hwa⟩ := hex
      rw [← hwa] at e8 hUs5 hrw2 HM he
      clear hO hr hwa hg8 hs8
      go_loopw [12] (fun _ wr => ∃ (left : Lit → Bool) (cnt : Nat), wr.ranges Tryd.prog 3 rV b r n D left cnt ∧ Ext wa wr ∧ Hid (∀ h, findH s h.id = some h → left (kI h.id) = false → eqb (cntTs h.id ts : Int) h.uses = true)) (fun _ wr => wr.rangeLeft b r)
      case atStart => exact ⟨_, _, hrg8, e8, HL⟩
      case round =>
        obtain ⟨left, cnt, hrg, he9, hdone⟩ := hrel
        go_wp2_with (at_next; refine wp_next_hd rfl _ rfl rfl hrg HD.out HM.out ?_ ?_)
        · intro hl0
          have Hr : Hid (usedOk s ts = true) := Lib.hid (by
            unfold usedOk
            rw [hfit5.out, Bool.true_and, List.all_eq_true]
            intro h hh
            obtain ⟨j, hj⟩ := List.mem_iff_getElem?.1 hh
            exact hdone.out h (HS.out.find hj) (hl0 _))
          clear hdone
          go_wp2
          go_ret
          exact ⟨ret_b Hr.out.symm, he.trans he9⟩
        · intro x u w1 cnt1 hf hxi hu hrg1 hlt1 hg1 hen
          obtain ⟨Ah, ch, rfl, -⟩ := hu
          have e1 : Ext wa w1 := Below.grown he9 hg1 he9.size (fun j hj => by cases hj; exact hrw2)
          have Hf := Lib.hid hf
          obtain ⟨n9, M9, hn9, hV9, hM9⟩ := hUs5.out w1 e1
          have hUx := hM9 x.id
          have hkey := keyI hxi
          have hV9a := fun W (e : Ext w1 W) => hV9.ext e
          obtain ⟨xk, xb, xu⟩ := x
          simp only at hUx hkey hxi hf hrg1 hen
          generalize hC : cntTs xk ts = C at *
          have HC := Lib.hid hC
          clear hf hM9 hC hV9
          by_cases hcu : (C : Int) = xu
          · have hbq : ((C : Int) != xu) = false := by simp [hcu]
            have Hd9 : Hid (∀ h, findH s h.id = some h → (left (kI h.id) && !(kI h.id).sameKey (kI xk)) = false → eqb (cntTs h.id ts : Int) h.uses = true) := Lib.hid fun h hh hl => by
              rw [sameK] at hl
              by_cases e : h.id = xk
              · have h1 := Hf.out
                simp only at h1
                rw [e, h1] at hh
                cases hh
                simp only
                rw [HC.out]
                exact eqb_true.2 hcu
              · exact hdone.out h hh (by simpa [e] using hl)
            clear hdone
            go_wp2_with (at_lookup; refine wp_mlook_get rfl _ _ rfl lawI underUses (zeroInt _) rfl (hV9a _ (by (repeat' (first | exact Ext.refl _ | assumption | refine Ext.alloc ?_ _ | refine Ext.drew ?_ | refine Ext.drewN ?_ _)))) _ _ rfl hkey hUx ?_)
            go_roundw
            case rel => exact ⟨_, cnt1, hrg1.alloc _, e1.alloc _, Hd9⟩
            case measure => rw [(hrg1.alloc _).left_eq, hrg.left_eq]; exact hlt1
          · have hbq : ((C : Int) != xu) = true := by simp [hcu]
            have Hr : Hid (usedOk s ts = false) := Lib.hid (by
              unfold usedOk
              rw [hfit5.out, Bool.true_and]
              obtain ⟨h1, h2⟩ := findH_some Hf.out
              obtain ⟨j, hj⟩ := List.mem_iff_getElem?.1 h1
              exact all_bad hj (by simp only; rw [HC.out]; exact eqb_false.2 hcu))
            clear hdone
            go_wp2_with (at_lookup; refine wp_mlook_get rfl _ _ rfl lawI underUses (zeroInt _) rfl (hV9a _ (by (repeat' (first | exact Ext.refl _ | assumption | refine Ext.alloc ?_ _ | refine Ext.drew ?_ | refine Ext.drewN ?_ _)))) _ _ rfl hkey hUx ?_)
            go_ret
            exact ⟨ret_b Hr.out.symm, he.trans (e1.alloc _)⟩
end Go.Sf

/-! The program opens a volume. -/
namespace Go.Sf
open Go Go.RowKit Go.Proofs Go.Maps
theorem volOk_used (s : List Hd) (t : List It) : volOk s t = (storeOk s && (treeOk t && usedOk s [t])) := by
  have h : usedOk s [t] = (filesFit s t && usesFit s t) := by
    unfold usedOk usesFit
    simp [cntTs]
  unfold volOk
  rw [h]
section
variable {B : Nat} {w w' : World} {l : List It} {adr : Key → Nat} {kv : Key → Value} {t : TypeId}
theorem Node.keepT {k : Key} {dir : Bool} {ids : List Int} (h : Node B w l adr kv k dir ids) (hk : KeepsT t w w') (h1 : 41 ≠ t) (h2 : 87 ≠ t) (h3 : 3 ≠ t) : Node B w' l adr kv k dir ids :=
  let ⟨a1, a2, u, a3, a4⟩ := h; ⟨a1, a2.keepT hk h1 (fun _ _ _ h => h), u, hk _ _ _ h2 a3, a4.keepT hk h3⟩
theorem Node.low {B' : Nat} {k : Key} {dir : Bool} {ids : List Int} (h : Node B w l adr kv k dir ids) (hB : B' ≤ B) : Node B' w l adr kv k dir ids :=
  let ⟨a1, a2, u, a3, a4⟩ := h; ⟨Nat.le_trans hB a1, a2.mono hB, u, a3, a4.keep hB (fun _ _ _ => rfl)⟩
theorem TreeAt.keepT (h : TreeAt B w l adr kv) (hk : KeepsT t w w') (h1 : 41 ≠ t) (h2 : 87 ≠ t) (h3 : 3 ≠ t) : TreeAt B w' l adr kv :=
  ⟨h.root.keepT hk h1 h2 h3, fun x hx => (h.nodes x hx).keepT hk h1 h2 h3, h.inj, h.sep⟩
end
theorem StoreAt.keepT {B b n : Nat} {t : TypeId} {w w' : World} {l : List Hd} (h : StoreAt B b n l w) (hk : KeepsT t w w') (ht : 3 ≠ t) (hb : w'.heap[b]? = w.heap[b]?) : StoreAt B b n l w' := let ⟨M, h1, h2⟩ := h; ⟨M, h1.block hb, h2.keepT hk ht⟩
/-- the two cells of a volume that is open are written -/
theorem put_vol {w : World} {g : Nat} {a b c d : Value} (h : Blk w g 43 #[c, d]) :
    Blk ((w.setCell ⟨g, 0, none⟩ a).setCell ⟨g, 1, none⟩ b) g 43 #[a, b] ∧ KeepsT 43 w ((w.setCell ⟨g, 0, none⟩ a).setCell ⟨g, 1, none⟩ b) ∧
    (∀ w0, Ext w0 w → w0.heap.size ≤ g → Ext w0 ((w.setCell ⟨g, 0, none⟩ a).setCell ⟨g, 1, none⟩ b)) ∧ ∀ k, k ≠ g → ((w.setCell ⟨g, 0, none⟩ a).setCell ⟨g, 1, none⟩ b).heap[k]? = w.heap[k]? := by
  have h1 := h.set_ 0 a
  have h2 := h1.set_ 1 b
  refine ⟨by simpa using h2, (KeepsT.set (i := 0) h a rfl).trans (KeepsT.set (i := 1) h1 b rfl), fun w0 e hg => (e.setCell (p := ⟨g, 0, none⟩) hg a).setCell (p := ⟨g, 1, none⟩) hg b, fun k hk => ?_⟩
  rw [RowKit.Below.heap_setCell _ _ _ _ hk, RowKit.Below.heap_setCell _ _ _ _ hk]
theorem store_ne {B b n g : Nat} {t : TypeId} {cs : Array Value} {w : World} {l : List Hd} (h : StoreAt B b n l w) (hb : Blk w g t cs) : b ≠ g := by
  rintro rfl
  obtain ⟨M, ⟨D, ⟨es, cl, h1, -⟩, -⟩, -⟩ := h
  unfold Blk at hb
  rw [h1] at hb
  cases hb
/-- what opening a store and a tree leaves -/
def NewVP (w0 : World) (s : List Hd) (t : List It) (e : Ending) (w' : World) : Prop :=
  Ext w0 w' ∧ (((storeOk s && treeOk t) = false ∧ e = .returned (.tuple #[.agg #[.map none, .pointer none], .bool false])) ∨
    (storeOk s = true ∧ treeOk t = true ∧ ∃ b adr kv, e = .returned (.tuple #[.agg #[.map (some b), .pointer (some ⟨adr [], 0, none⟩)], .bool true]) ∧ StoreAt w0.heap.size b 16 s w' ∧ TreeAt w0.heap.size w' t adr kv ∧ w0.heap.size ≤ b))
set_option maxRecDepth 8000 in
set_option maxHeartbeats 2000000 in
theorem newVolume_c {B B' : Nat} {vs vt : Value} {s : List Hd} {t : List It} (w : World) (hs : Hds B w vs s) (ht : Its B' w vt t) (hm : ML w) : Calls Tryd.prog 20 #[vs, vt] w (NewVP w s t) := by
  have e0 : Ext w (w.alloc (.cells #[.map none, .pointer none] 43)) := (Ext.refl w).alloc _
  have HBk := Lib.hid (Blk.new w 43 #[.map none, .pointer none])
  have Co := openStore_c _ (hs.ext e0)
  have HT := Lib.hid ht; have HM := Lib.hid hm
  clear hs ht hm
  go_enter Tryd.func20, Tryd.ntmps20
  go_wp2_with fail
  refine Co.mono ?_
  rintro e w1 ⟨he1, ⟨hs1, rfl⟩ | ⟨hs1, b, rfl, hSt, hbB⟩⟩
  · have hb1 := HBk.out.ext he1
    have c0 := hb1.cell 0; have c1 := hb1.cell 1
    have f0 := hb1.frozen 0; have f1 := hb1.frozen 1
    simp at c0 c1
    have Hs1 := Lib.hid hs1; have Hb1 := Lib.hid hb1
    clear hs1 hb1 Co
    go_wp2
    obtain ⟨p1, -, p3, -⟩ := put_vol (a := .map none) (b := .pointer none) Hb1.out
    have z0 := p1.cell 0; have z1 := p1.cell 1
    simp at z0 z1
    exact bodyPost_ret (v := .tuple #[.agg #[.map none, .pointer none], .bool false]) (by simp [results, Tryd.results20, go_sem, z0, z1]) rfl ⟨p3 w (e0.trans he1) (Nat.le_refl _), .inl ⟨by rw [Hs1.out]; rfl, rfl⟩⟩
  · have Ho := openTree_c w1 (HT.out.ext (e0.trans he1)) (HM.out.ext (e0.trans he1))
    have hb1 := HBk.out.ext he1
    have Hs1 := Lib.hid hs1; have Hb1 := Lib.hid hb1; have HSt := Lib.hid hSt
    clear hs1 hb1 Co hSt
    go_wp2_with fail
    refine Ho.mono ?_
    rintro e w2 ⟨he2, ⟨ht1, rfl⟩ | ⟨ht1, adr, kv, rfl, hTr⟩⟩
    · have hb2 := Hb1.out.ext he2
      have c0 := hb2.cell 0; have c1 := hb2.cell 1
      have f0 := hb2.frozen 0; have f1 := hb2.frozen 1
      simp at c0 c1
      have Ht1 := Lib.hid ht1; have Hb2 := Lib.hid hb2
      clear ht1 hb2 Ho
      go_wp2
      obtain ⟨p1, -, p3, -⟩ := put_vol (a := .map none) (b := .pointer none) Hb2.out
      have z0 := p1.cell 0; have z1 := p1.cell 1
      simp at z0 z1
      exact bodyPost_ret (v := .tuple #[.agg #[.map none, .pointer none], .bool false]) (by simp [results, Tryd.results20, go_sem, z0, z1]) rfl ⟨p3 w ((e0.trans he1).trans he2) (Nat.le_refl _), .inl ⟨by rw [Ht1.out, Bool.and_false], rfl⟩⟩
    · have hb2 := Hb1.out.ext he2
      have c0 := hb2.cell 0; have c1 := hb2.cell 1
      have f0 := hb2.frozen 0; have f1 := hb2.frozen 1
      simp at c0 c1
      have Ht1 := Lib.hid ht1; have Hb2 := Lib.hid hb2; have HTr := Lib.hid hTr; have HSt2 := Lib.hid (HSt.out.ext he2)
      clear ht1 hb2 Ho hTr
      go_wp2
      obtain ⟨p1, p2, p3, p4⟩ := put_vol (a := .map (some b)) (b := .pointer (some ⟨adr [], 0, none⟩)) Hb2.out
      have z0 := p1.cell 0; have z1 := p1.cell 1
      simp at z0 z1
      have hw : w.heap.size ≤ w1.heap.size := (e0.trans he1).size
      have h1 : StoreAt w.heap.size b 16 s w2 := let ⟨M, q1, q2⟩ := HSt2.out; ⟨M, q1, fun i => ⟨(q2 i).1, fun y hy => let ⟨u, r1, r2⟩ := (q2 i).2 y hy; ⟨u, r1, r2.keep e0.size (fun _ _ _ => rfl)⟩⟩⟩
      have h2 := h1.keepT p2 (by decide) (p4 b (store_ne h1 Hb2.out))
      have h3 : TreeAt w.heap.size w2 t adr kv := ⟨HTr.out.root.low hw, fun x hx => (HTr.out.nodes x hx).low hw, HTr.out.inj, HTr.out.sep⟩
      have h4 := h3.keepT p2 (by decide) (by decide) (by decide)
      exact bodyPost_ret (v := .tuple #[.agg #[.map (some b), .pointer (some ⟨adr [], 0, none⟩)], .bool true]) (by simp [results, Tryd.results20, go_sem, z0, z1]) rfl ⟨p3 w ((e0.trans he1).trans he2) (Nat.le_refl _), .inr ⟨Hs1.out, Ht1.out, b, adr, kv, rfl, h2, h4, Nat.le_trans e0.size hbB⟩⟩
/-- what opening a volume leaves -/
def OpenVP (w0 : World) (s : List Hd) (t : List It) (e : Ending) (w' : World) : Prop :=
  Ext w0 w' ∧ ((volOk s t = false ∧ e = .returned (.tuple #[.agg #[.map none, .pointer none], .bool false])) ∨
    (volOk s t = true ∧ ∃ b adr kv, e = .returned (.tuple #[.agg #[.map (some b), .pointer (some ⟨adr [], 0, none⟩)], .bool true]) ∧ StoreAt w0.heap.size b 16 s w' ∧ TreeAt w0.heap.size w' t adr kv ∧ w0.heap.size ≤ b))
set_option maxRecDepth 8000 in
set_option maxHeartbeats 2000000 in
theorem openVol_c {B B' : Nat} {vs vt : Value} {s : List Hd} {t : List It} (w : World) (hs : Hds B w vs s) (ht : Its B' w vt t) (hm : ML w) : Calls Tryd.prog 11 #[.agg #[vs, vt]] w (OpenVP w s t) := by
  have HS := Lib.hid hs; have HT := Lib.hid ht; have HM := Lib.hid hm
  obtain ⟨A, c, rfl, -⟩ := hs
  obtain ⟨A2, c2, rfl, -⟩ := ht
  have e0 : Ext w ((w.alloc (.cells #[.slice A s.length c, .slice A2 t.length c2] 26)).alloc (.cells #[.map none, .pointer none] 43)) := ((Ext.refl w).alloc _).alloc _
  have HBk : Hid (Blk ((w.alloc (.cells #[.slice A s.length c, .slice A2 t.length c2] 26)).alloc (.cells #[.map none, .pointer none] 43)) (w.heap.size + 1) 43 #[.map none, .pointer none]) := Lib.hid (by
    have := Blk.new (w.alloc (.cells #[.slice A s.length c, .slice A2 t.length c2] 26)) 43 #[.map none, .pointer none]
    simpa using this)
  have Cn := newVolume_c _ (HS.out.ext e0) (HT.out.ext e0) (HM.out.ext e0)
  clear hm
  go_enter Tryd.func11, Tryd.ntmps11
  go_wp2_with fail
  refine Cn.mono ?_
  rintro e w1 ⟨he1, ⟨hs1, rfl⟩ | ⟨hs1, ht1, b, adr, kv, rfl, hSt, hTr, hbB⟩⟩
  · have hb1 := (HBk.out.ext he1).alloc (.cells #[.map none, .pointer none] 43)
    have c0 := hb1.cell 0; have c1 := hb1.cell 1
    have f0 := hb1.frozen 0; have f1 := hb1.frozen 1
    simp at c0 c1 f0 f1
    have Hr : Hid (volOk s t = false) := Lib.hid (by
      rw [volOk_used]
      cases h1 : storeOk s with
      | false => rfl
      | true => rw [h1, Bool.true_and] at hs1; rw [hs1]; rfl)
    have Hb1 := Lib.hid hb1
    clear hs1 hb1 Cn
    go_wp2
    obtain ⟨p1, -, p3, -⟩ := put_vol (a := .map none) (b := .pointer none) Hb1.out
    have z0 := p1.cell 0; have z1 := p1.cell 1
    simp at z0 z1
    exact bodyPost_ret (v := .tuple #[.agg #[.map none, .pointer none], .bool false]) (by simp [results, Tryd.results11, go_sem, z0, z1]) rfl ⟨p3 w ((e0.trans he1).alloc _) (by omega), .inl ⟨Hr.out, rfl⟩⟩
  · have e1 := e0.trans he1
    have hw : w.heap.size ≤ w1.heap.size := e1.size
    have hw0 := e0.size
    have e3 : Ext w1 ((w1.alloc (.cells #[.map (some b), .pointer (some ⟨adr [], 0, none⟩)] 43)).alloc (.cells #[.pointer (some ⟨adr [], 0, none⟩)] 41)) := ((Ext.refl w1).alloc _).alloc _
    have hTs : TreesAt 0 ((w1.alloc (.cells #[.map (some b), .pointer (some ⟨adr [], 0, none⟩)] 43)).alloc (.cells #[.pointer (some ⟨adr [], 0, none⟩)] 41)) (some ⟨w1.heap.size + 1, 0, none⟩) 1 [t] := by
      refine ⟨Nat.le_refl _, by unfold lim; simp, fun k t' h => ?_⟩
      cases k with
      | succ k => simp at h
      | zero =>
        simp only [List.getElem?_cons_zero, Option.some.injEq] at h
        subst h
        have hb := Blk.new (w1.alloc (.cells #[.map (some b), .pointer (some ⟨adr [], 0, none⟩)] 43)) 41 #[.pointer (some ⟨adr [], 0, none⟩)]
        have hc := hb.cell 0
        simp only [World.size_alloc] at hc
        have hT0 : TreeAt 0 w1 t adr kv := ⟨hTr.root.low (Nat.zero_le _), fun x hx => (hTr.nodes x hx).low (Nat.zero_le _), hTr.inj, hTr.sep⟩
        exact ⟨_, 0, adr, kv, rfl, by simp, hT0.ext e3, ht1⟩
    have Cu := usedBy_c _ (storeOk_iff.1 hs1) (hSt.ext e3) hTs
    have Hv : Hid (volOk s t = usedOk s [t]) := Lib.hid (by rw [volOk_used, hs1, ht1]; rfl)
    have HSt := Lib.hid hSt; have HTr := Lib.hid hTr
    have hb2 := Lib.hid (HBk.out.ext (he1.trans e3))
    have hb4 := Lib.hid ((Blk.new w1 43 #[.map (some b), .pointer (some ⟨adr [], 0, none⟩)]).alloc (.cells #[.pointer (some ⟨adr [], 0, none⟩)] 41))
    clear hs1 ht1 hSt hTr hTs Cn
    cases hu : usedOk s [t] with
    | false =>
      rw [hu] at Cu
      have Hr : Hid (volOk s t = false) := Lib.hid (by rw [Hv.out, hu])
      clear hu
      go_wp2_with (go_at_call 21; refine Cu.mono ?_; rintro e w5 ⟨rfl, he5⟩; have Hb5 := Lib.hid (hb2.out.ext he5); have c0 := Hb5.out.cell 0; have c1 := Hb5.out.cell 1; have f0 := Hb5.out.frozen 0; have f1 := Hb5.out.frozen 1; simp at c0 c1)
      obtain ⟨p1, -, p3, -⟩ := put_vol (a := .map none) (b := .pointer none) Hb5.out
      have z0 := p1.cell 0; have z1 := p1.cell 1
      simp at z0 z1
      exact bodyPost_ret (v := .tuple #[.agg #[.map none, .pointer none], .bool false]) (by simp [results, Tryd.results11, go_sem, z0, z1]) rfl ⟨p3 w (e1.trans (e3.trans he5)) (by omega), .inl ⟨Hr.out, rfl⟩⟩
    | true =>
      rw [hu] at Cu
      have Hr : Hid (volOk s t = true) := Lib.hid (by rw [Hv.out, hu])
      clear hu
      go_wp2_with (go_at_call 21; refine Cu.mono ?_; rintro e w5 ⟨rfl, he5⟩; have Hb5 := Lib.hid (hb2.out.ext he5); have c0 := Hb5.out.cell 0; have c1 := Hb5.out.cell 1; have f0 := Hb5.out.frozen 0; have f1 := Hb5.out.frozen 1; simp at c0 c1; have Hb6 := Lib.hid (hb4.out.ext he5); have r0 := Hb6.out.cell 0; have r1 := Hb6.out.cell 1; simp at r0 r1)
      obtain ⟨p1, p2, p3, p4⟩ := put_vol (a := .map (some b)) (b := .pointer (some ⟨adr [], 0, none⟩)) Hb5.out
      have z0 := p1.cell 0; have z1 := p1.cell 1
      simp at z0 z1
      have h1 : StoreAt w.heap.size b 16 s w5 := let ⟨M, q1, q2⟩ := HSt.out.ext (e3.trans he5); ⟨M, q1, fun i => ⟨(q2 i).1, fun y hy => let ⟨u, r1, r2⟩ := (q2 i).2 y hy; ⟨u, r1, r2.keep hw0 (fun _ _ _ => rfl)⟩⟩⟩
      have h2 := h1.keepT p2 (by decide) (p4 b (store_ne h1 Hb5.out))
      have h3 : TreeAt w.heap.size w1 t adr kv := ⟨HTr.out.root.low hw0, fun x hx => (HTr.out.nodes x hx).low hw0, HTr.out.inj, HTr.out.sep⟩
      have h4 := (h3.ext (e3.trans he5)).keepT p2 (by decide) (by decide) (by decide)
      exact bodyPost_ret (v := .tuple #[.agg #[.map (some b), .pointer (some ⟨adr [], 0, none⟩)], .bool true]) (by simp [results, Tryd.results11, go_sem, z0, z1]) rfl ⟨p3 w (e1.trans (e3.trans he5)) (by omega), .inr ⟨Hr.out, b, adr, kv, rfl, h2, h4, Nat.le_trans e0.size hbB⟩⟩
set_option maxRecDepth 4000 in
set_option maxHeartbeats 1000000 in
theorem VolumeValid_c {B B' : Nat} {vs vt : Value} {s : List Hd} {t : List It} (w : World) (hs : Hds B w vs s) (ht : Its B' w vt t) (hm : ML w) : Calls Tryd.prog 6 #[.agg #[vs, vt]] w (Ret (.bool (volOk s t)) w) := by
  have HS := Lib.hid hs; have HT := Lib.hid ht; have HM := Lib.hid hm
  obtain ⟨A, c, rfl, -⟩ := hs
  obtain ⟨A2, c2, rfl, -⟩ := ht
  have e0 : Ext w (w.alloc (.cells #[.slice A s.length c, .slice A2 t.length c2] 26)) := (Ext.refl w).alloc _
  have Cn := openVol_c _ (HS.out.ext e0) (HT.out.ext e0) (HM.out.ext e0)
  clear hm
  go_enter Tryd.func6, Tryd.ntmps6
  go_wp2_with fail
  refine Cn.mono ?_
  rintro e w1 ⟨he1, ⟨hv, rfl⟩ | ⟨hv, b, adr, kv, rfl, -, -⟩⟩
  · have Hv := Lib.hid hv
    clear hv Cn
    go_wp2
    go_ret
    exact ⟨ret_b Hv.out.symm, (e0.trans he1).alloc _⟩
  · have Hv := Lib.hid hv
    clear hv Cn
    go_wp2
    go_ret
    exact ⟨ret_b Hv.out.symm, (e0.trans he1).alloc _⟩
end Go.Sf
