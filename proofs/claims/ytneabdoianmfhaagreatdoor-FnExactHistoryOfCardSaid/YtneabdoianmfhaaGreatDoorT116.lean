/- The turns of a path: plain, and the reference's way. -/
import Derived.Test.YtneabdoianmfhaaGreatDoorT97
import Derived.Test.YtneabdoianmfhaaGreatDoorT103
namespace Go.Sf
open Go Go.RowKit Go.Proofs Go.Maps
/-- how a path changes from one tree to another one -/
def turnK : Option It → Option It → Int
  | none, none => 0
  | none, some _ => 1
  | some _, none => 2
  | some x, some y => if eqb x y = true then 0 else 3
def turnsL (p : ByteArray) : Option It → List Sn → List Tn
  | _, [] => []
  | a, x :: l => (if turnK a (findIt x.tree p) = 0 then [] else [⟨x.name, turnK a (findIt x.tree p)⟩]) ++ turnsL p (findIt x.tree p) l
noncomputable def histOf (s : List Hd) (t : List It) (l : List Sn) (p : ByteArray) : List Tn := if diskOk s t l = true ∧ pathOk p = true then turnsL p none l else []
theorem turnsL_drop (p : ByteArray) (a : Option It) {l : List Sn} {k : Nat} {x : Sn} (h : l[k]? = some x) : turnsL p a (l.drop k) = (if turnK a (findIt x.tree p) = 0 then [] else [⟨x.name, turnK a (findIt x.tree p)⟩]) ++ turnsL p (findIt x.tree p) (l.drop (k + 1)) := by
  rw [drop_cons h]; rfl
theorem turnsL_len (p : ByteArray) : ∀ (l : List Sn) (a : Option It), (turnsL p a l).length ≤ l.length := by
  intro l
  induction l with
  | nil => intro a; exact Nat.le_refl _
  | cons x l ih =>
    intro a
    have := ih (findIt x.tree p)
    unfold turnsL
    rw [List.length_append, List.length_cons]
    split
    · show 0 + _ ≤ _; omega
    · show 1 + _ ≤ _; omega
theorem turnK_bd (a b : Option It) : 0 ≤ turnK a b ∧ turnK a b ≤ 3 := by
  unfold turnK
  split
  · omega
  · omega
  · omega
  · split <;> omega
theorem at_cases (l : List It) (p : ByteArray) : (findIt l p = none ∧ atPath l p = -1) ∨ ∃ (i : Nat) (x : It), l[i]? = some x ∧ findIt l p = some x ∧ atPath l p = (i : Int) := by
  rcases atG_find (pathIs p) l 0 with h | ⟨i, x, h1, -, h3, h4, -⟩
  · exact .inl h
  · exact .inr ⟨i, x, h1, h3, by unfold atPath; rw [h4]; simp⟩
set_option maxRecDepth 8000 in
set_option maxHeartbeats 2000000 in
theorem l33Turn_c {B B' : Nat} {va vb : Value} {a b : List It} (p : ByteArray) (w : World) (ha : Its B w va a) (hb : Its B' w vb b) : Calls Tryz.prog 69 #[va, vb, .string p] w (Ret (.int .i64 (turnK (findIt a p) (findIt b p))) w) := by
  have Ca := l5At_c p w ha
  have Cb := fun W (e : Ext w W) => l5At_c p W (hb.ext e)
  obtain ⟨Aa, ca, rfl, hA⟩ := ha
  obtain ⟨Ab, cb, rfl, hB⟩ := hb
  have hla := hA.2.2.1; have hlb := hB.2.2.1
  unfold lim at hla hlb
  have HA := Lib.hid hA; have HB := Lib.hid hB
  clear hA hB
  rcases at_cases a p with ⟨ha1, ha2⟩ | ⟨i, x, hx, ha1, ha2⟩
  · rw [ha2] at Ca
    rcases at_cases b p with ⟨hb1, hb2⟩ | ⟨j, y, hy, hb1, hb2⟩
    · rw [hb2] at Cb
      rw [ha1, hb1]
      clear ha1 ha2 hb1 hb2
      go_enter Tryz.func69, Tryz.ntmps69
      go_wp2_with (go_at_call 106; first | (refine Ca.mono ?_; clear Ca; rintro e w1 ⟨rfl, he1⟩) | (refine (Cb _ he1).mono ?_; rintro e w2 ⟨rfl, he2⟩))
      refine wp_region_ext (by kernel_rfl) (by kernel_rfl) ?_
      repeat (first | (apply q_plain rfl; (· intro W eW; go_simp; (first | done | rfl | (rw [if_pos] <;> first | omega | rfl))); (try simp only [Act.put, List.setIfInBounds_toArray, List.set_cons_zero, List.set_cons_succ])) | (refine qg_skip (by rfl) ?_; (try simp only [Act.put, List.setIfInBounds_toArray, List.set_cons_zero, List.set_cons_succ])) | (apply qg_plain (by rfl); (· intro W eW; go_simp; (first | done | rfl | (rw [if_pos] <;> first | omega | rfl))); (try simp only [Act.put, List.setIfInBounds_toArray, List.set_cons_zero, List.set_cons_succ])))
      refine q_nil ?_
      intro w3 e3
      go_wp2
      go_ret
      exact ⟨rfl, (he1.trans he2).trans e3⟩
    · rw [hb2] at Cb
      rw [ha1, hb1]
      clear ha1 ha2 hb1 hb2 hy
      go_enter Tryz.func69, Tryz.ntmps69
      go_wp2_with (go_at_call 106; first | (refine Ca.mono ?_; clear Ca; rintro e w1 ⟨rfl, he1⟩) | (refine (Cb _ he1).mono ?_; rintro e w2 ⟨rfl, he2⟩))
      go_ret
      exact ⟨rfl, he1.trans he2⟩
  · rw [ha2] at Ca
    rcases at_cases b p with ⟨hb1, hb2⟩ | ⟨j, y, hy, hb1, hb2⟩
    · rw [hb2] at Cb
      rw [ha1, hb1]
      have hi0 : ¬ ((i : Int) < 0) := by omega
      clear ha1 ha2 hb1 hb2 hx
      go_enter Tryz.func69, Tryz.ntmps69
      go_wp2_with (go_at_call 106; first | (refine Ca.mono ?_; clear Ca; rintro e w1 ⟨rfl, he1⟩) | (refine (Cb _ he1).mono ?_; rintro e w2 ⟨rfl, he2⟩))
      go_ret
      exact ⟨rfl, he1.trans he2⟩
    · rw [hb2] at Cb
      rw [ha1, hb1]
      have hi0 : ¬ ((i : Int) < 0) := by omega
      have hj0 : ¬ ((j : Int) < 0) := by omega
      have hil := lt_of_get hx; have hjl := lt_of_get hy
      obtain ⟨b1, o1, u1, rfl, -, -, hps1, hu1, hc0, hc1, hc2⟩ := Its.at_ HA.out hx
      obtain ⟨b2, o2, u2, rfl, -, -, hps2, hu2, hd0, hd1, hd2⟩ := Its.at_ HB.out hy
      obtain ⟨Ax, cx, rfl, hux⟩ := hu1
      obtain ⟨Ay, cy, rfl, huy⟩ := hu2
      have Cs : ∀ W, Ext w W → Calls Tryz.prog 132 #[.agg #[.string x.path, .bool x.dir, .slice Ax x.ids.length cx], .agg #[.string y.path, .bool y.dir, .slice Ay y.ids.length cy]] W (Ret (.bool (eqb x y)) W) := fun W e =>
        spec_l13Same_c W ⟨_, rfl, hps1, Ints.ext (w := w) ⟨_, _, rfl, hux⟩ e⟩ ⟨_, rfl, hps2, Ints.ext (w := w) ⟨_, _, rfl, huy⟩ e⟩
      clear ha1 ha2 hb1 hb2 hx hy hux huy
      generalize a.length = na at *
      generalize b.length = nb at *
      have fin : turnK (some x) (some y) = if eqb x y = true then 0 else 3 := rfl
      rw [fin]
      cases he : eqb x y with
      | true =>
        rw [he] at Cs
        clear he fin
        go_enter Tryz.func69, Tryz.ntmps69
        go_wp2_with (go_at_call 106; first | (refine Ca.mono ?_; clear Ca; rintro e w1 ⟨rfl, he1⟩) | (refine (Cb _ he1).mono ?_; rintro e w2 ⟨rfl, he2⟩))
        have e12 := he1.trans he2
        have a0 := fun W (e : Ext w2 W) => hc0 W (e12.trans e); have a1 := fun W (e : Ext w2 W) => hc1 W (e12.trans e); have a2 := fun W (e : Ext w2 W) => hc2 W (e12.trans e)
        have d0 := fun W (e : Ext w2 W) => hd0 W (e12.trans e); have d1 := fun W (e : Ext w2 W) => hd1 W (e12.trans e); have d2 := fun W (e : Ext w2 W) => hd2 W (e12.trans e)
        clear hc0 hc1 hc2 hd0 hd1 hd2
        refine wp_region_ext (by kernel_rfl) (by kernel_rfl) ?_
        repeat (first | (apply q_plain rfl; (· intro W eW; go_simp; (first | done | rfl | (rw [if_pos] <;> first | omega | rfl))); (try simp only [Act.put, List.setIfInBounds_toArray, List.set_cons_zero, List.set_cons_succ])) | (refine qg_skip (by rfl) ?_; (try simp only [Act.put, List.setIfInBounds_toArray, List.set_cons_zero, List.set_cons_succ])) | (apply qg_plain (by rfl); (· intro W eW; go_simp; (first | done | rfl | (rw [if_pos] <;> first | omega | rfl))); (try simp only [Act.put, List.setIfInBounds_toArray, List.set_cons_zero, List.set_cons_succ])))
        ((first | apply q_call rfl | apply qg_call (by rfl)); (· intro W eW; go_simp; (first | done | (constructor <;> rfl))); (· intro W eW; exact Cs W (e12.trans eW)); (try simp only [Act.put, List.setIfInBounds_toArray, List.set_cons_zero, List.set_cons_succ]))
        repeat (first | (apply q_plain rfl; (· intro W eW; go_simp; (first | done | rfl | (rw [if_pos] <;> first | omega | rfl))); (try simp only [Act.put, List.setIfInBounds_toArray, List.set_cons_zero, List.set_cons_succ])) | (refine qg_skip (by rfl) ?_; (try simp only [Act.put, List.setIfInBounds_toArray, List.set_cons_zero, List.set_cons_succ])) | (apply qg_plain (by rfl); (· intro W eW; go_simp; (first | done | rfl | (rw [if_pos] <;> first | omega | rfl))); (try simp only [Act.put, List.setIfInBounds_toArray, List.set_cons_zero, List.set_cons_succ])))
        refine q_nil ?_
        intro w3 e3
        go_wp2
        go_ret
        exact ⟨rfl, e12.trans e3⟩
      | false =>
        rw [he] at Cs
        clear he fin
        go_enter Tryz.func69, Tryz.ntmps69
        go_wp2_with (go_at_call 106; first | (refine Ca.mono ?_; clear Ca; rintro e w1 ⟨rfl, he1⟩) | (refine (Cb _ he1).mono ?_; rintro e w2 ⟨rfl, he2⟩))
        have e12 := he1.trans he2
        have a0 := fun W (e : Ext w2 W) => hc0 W (e12.trans e); have a1 := fun W (e : Ext w2 W) => hc1 W (e12.trans e); have a2 := fun W (e : Ext w2 W) => hc2 W (e12.trans e)
        have d0 := fun W (e : Ext w2 W) => hd0 W (e12.trans e); have d1 := fun W (e : Ext w2 W) => hd1 W (e12.trans e); have d2 := fun W (e : Ext w2 W) => hd2 W (e12.trans e)
        clear hc0 hc1 hc2 hd0 hd1 hd2
        refine wp_region_ext (by kernel_rfl) (by kernel_rfl) ?_
        repeat (first | (apply q_plain rfl; (· intro W eW; go_simp; (first | done | rfl | (rw [if_pos] <;> first | omega | rfl))); (try simp only [Act.put, List.setIfInBounds_toArray, List.set_cons_zero, List.set_cons_succ])) | (refine qg_skip (by rfl) ?_; (try simp only [Act.put, List.setIfInBounds_toArray, List.set_cons_zero, List.set_cons_succ])) | (apply qg_plain (by rfl); (· intro W eW; go_simp; (first | done | rfl | (rw [if_pos] <;> first | omega | rfl))); (try simp only [Act.put, List.setIfInBounds_toArray, List.set_cons_zero, List.set_cons_succ])))
        ((first | apply q_call rfl | apply qg_call (by rfl)); (· intro W eW; go_simp; (first | done | (constructor <;> rfl))); (· intro W eW; exact Cs W (e12.trans eW)); (try simp only [Act.put, List.setIfInBounds_toArray, List.set_cons_zero, List.set_cons_succ]))
        repeat (first | (apply q_plain rfl; (· intro W eW; go_simp; (first | done | rfl | (rw [if_pos] <;> first | omega | rfl))); (try simp only [Act.put, List.setIfInBounds_toArray, List.set_cons_zero, List.set_cons_succ])) | (refine qg_skip (by rfl) ?_; (try simp only [Act.put, List.setIfInBounds_toArray, List.set_cons_zero, List.set_cons_succ])) | (apply qg_plain (by rfl); (· intro W eW; go_simp; (first | done | rfl | (rw [if_pos] <;> first | omega | rfl))); (try simp only [Act.put, List.setIfInBounds_toArray, List.set_cons_zero, List.set_cons_succ])))
        refine q_nil ?_
        intro w3 e3
        go_wp2
        go_ret
        exact ⟨rfl, e12.trans e3⟩
theorem etn_of {B : Nat} {w : World} {x : Tn} (h1 : x.snap.size < lim) (h2 : inI x.kind) : ETn B w #[.string x.snap, .int .i64 x.kind] 0 x := ⟨rfl, h1, rfl, h2⟩
set_option maxRecDepth 8000 in
set_option maxHeartbeats 4000000 in
theorem specHistoryOf_c {B B' B2 : Nat} {vs vt vn : Value} {s : List Hd} {t : List It} {l : List Sn} (p : ByteArray) (w : World) (hs : Hds B w vs s) (ht : Its B' w vt t) (hn : Sns B2 w vn l) (hp : p.size < lim) :
    Calls Tryz.prog 18 #[.agg #[vs, vt, vn], .string p] w (RetP (fun r w' => Tns w.heap.size w' r (histOf s t l p)) w) := by
  have HS := Lib.hid hs; have HT := Lib.hid ht; have HN := Lib.hid hn
  obtain ⟨A, c, rfl, -⟩ := hs
  obtain ⟨A2, c2, rfl, -⟩ := ht
  obtain ⟨A3, c3, rfl, hA⟩ := hn
  have hl := hA.2.2.1
  unfold lim at hl
  have e0 : Ext w (w.alloc (.cells #[.slice A s.length c, .slice A2 t.length c2, .slice A3 l.length c3] 33)) := (Ext.refl w).alloc _
  have hbk := Blk.new w 33 #[.slice A s.length c, .slice A2 t.length c2, .slice A3 l.length c3]
  have d0 := fun W (e : Ext (w.alloc (.cells #[.slice A s.length c, .slice A2 t.length c2, .slice A3 l.length c3] 33)) W) => hbk.at_ (i := 0) (u := .slice A s.length c) rfl W e
  have d1 := fun W (e : Ext (w.alloc (.cells #[.slice A s.length c, .slice A2 t.length c2, .slice A3 l.length c3] 33)) W) => hbk.at_ (i := 1) (u := .slice A2 t.length c2) rfl W e
  have d2 := fun W (e : Ext (w.alloc (.cells #[.slice A s.length c, .slice A2 t.length c2, .slice A3 l.length c3] 33)) W) => hbk.at_ (i := 2) (u := .slice A3 l.length c3) rfl W e
  have HA := Lib.hid hA
  have HO0 : Hid (OwnS (w.alloc (.cells #[.slice A s.length c, .slice A2 t.length c2, .slice A3 l.length c3] 33)).heap.size 125 2 (ETn (w.alloc (.cells #[.slice A s.length c, .slice A2 t.length c2, .slice A3 l.length c3] 33)).heap.size) ((w.alloc (.cells #[.slice A s.length c, .slice A2 t.length c2, .slice A3 l.length c3] 33)).alloc (.cells #[] 125)) (.slice (some ⟨w.heap.size + 1, 0, none⟩) 0 0) []) := Lib.hid (OwnS.lit _ _ _ _ (Nat.le_refl _) (by simp))
  have e1 : Ext (w.alloc (.cells #[.slice A s.length c, .slice A2 t.length c2, .slice A3 l.length c3] 33)) ((w.alloc (.cells #[.slice A s.length c, .slice A2 t.length c2, .slice A3 l.length c3] 33)).alloc (.cells #[] 125)) := (Ext.refl _).alloc _
  have Cd := specDiskValid_c _ (HS.out.ext (e0.trans e1)) (HT.out.ext (e0.trans e1)) (HN.out.ext (e0.trans e1))
  have Cp := fun W => specPathValid_c p W hp
  have q0 := d0 _ e1; have q1 := d1 _ e1; have q2 := d2 _ e1
  clear hbk hA
  generalize hnn : l.length = n at *
  have Hn := Lib.hid hnn; clear hnn
  have Bad : histOf s t l p = [] → Hid (∀ W, Tns w.heap.size W (.slice (some ⟨w.heap.size + 1, 0, none⟩) 0 0) (histOf s t l p)) := fun hr => Lib.hid fun W => by
    rw [hr]
    exact SlOf.empty _ _ _ _ _ _ _ (Nat.zero_le _) (fun h => by cases h)
  cases hd : diskOk s t l with
  | false =>
    rw [hd] at Cd
    have Hr := Bad (by unfold histOf; rw [hd, if_neg (by simp)])
    clear hd Bad
    go_enter Tryz.func18, Tryz.ntmps18
    go_wp2_with (go_at_call 53; refine Cd.mono ?_; rintro e w2 ⟨rfl, he2⟩)
    go_ret
    exact ⟨_, rfl, Hr.out _, e0.trans (e1.trans he2)⟩
  | true =>
    rw [hd] at Cd
    cases hpo : pathOk p with
    | false =>
      rw [hpo] at Cp
      have Hr := Bad (by unfold histOf; rw [hpo, if_neg (by simp)])
      clear hd hpo Bad
      go_enter Tryz.func18, Tryz.ntmps18
      go_wp2_with (first | (go_at_call 53; refine Cd.mono ?_; rintro e w2 ⟨rfl, he2⟩) | (go_at_call 68; refine (Cp _).mono ?_; rintro e w3 ⟨rfl, he3⟩))
      go_ret
      exact ⟨_, rfl, Hr.out _, e0.trans (e1.trans (he2.trans he3))⟩
    | true =>
      rw [hpo] at Cp
      have Hr : Hid (histOf s t l p = turnsL p none l) := Lib.hid (by unfold histOf; rw [if_pos ⟨hd, hpo⟩])
      clear hd hpo Bad
      go_enter Tryz.func18, Tryz.ntmps18
      go_wp2_with (first | (go_at_call 53; refine Cd.mono ?_; rintro e w2 ⟨rfl, he2⟩) | (go_at_call 68; refine (Cp _).mono ?_; rintro e w3 ⟨rfl, he3⟩))
      obtain ⟨wa, hwa⟩ : ∃ wa, wa = (w.alloc (.cells #[.slice A s.length c, .slice A2 t.length c2, .slice A3 n c3] 33)) := ⟨_, rfl⟩
      rw [← hwa] at he2 e0 e1 d0 d1 d2 HO0
      have HWs : Hid (wa.heap.size = w.heap.size + 1) := Lib.hid (by rw [hwa]; simp)
      clear hwa
      have e23 := he2.trans he3
      have HO3 := Lib.hid (HO0.out.ext (ETn_ok _) (e23.alloc (.cells #[] 100)))
      have E3 := e1.trans (e23.alloc (.cells #[] 100))
      clear Cd Cp q0 q1 q2 he2 he3
      go_loopw [5, 6, 7] (fun v o i wr => ∃ (k : Nat) (a : Option It) (la : List It) (L : List Tn), k ≤ n ∧ i = .int .i64 k ∧ Ext wa wr ∧ OwnS wa.heap.size 125 2 (ETn wa.heap.size) wr v L ∧ Hid (L ++ turnsL p a (l.drop k) = turnsL p none l) ∧ Hid (Its 0 wr o la) ∧ Hid (findIt la p = a) ∧ Hid (L.length ≤ k)) (fun _ _ i _ => n - (RowKit.intOf i).toNat)
      case atStart => exact ⟨0, none, [], [], by omega, rfl, E3, HO3.out, Lib.hid rfl, Lib.hid (SlOf.empty _ _ _ _ _ _ _ (Nat.zero_le _) (fun h => by cases h)), Lib.hid rfl, Lib.hid (Nat.le_refl _)⟩
      case round =>
        obtain ⟨k, a, la, L, hk, rfl, he, hO, hL, hIa, hfa, hLk⟩ := hrel
        have q0 := d0 wr he; have q1 := d1 wr he; have q2 := d2 wr he
        by_cases hlt : k < n
        · obtain ⟨x, hx⟩ := get_of_lt (l := l) (k := k) (by rw [Hn.out]; exact hlt)
          obtain ⟨b, o, u, rfl, -, -, hns, hu, hc0, hc1⟩ := Sns.at_ HA.out hx
          have E := e0.trans he
          have Hnx : Hid (turnsL p a (l.drop k) = (if turnK a (findIt x.tree p) = 0 then [] else [⟨x.name, turnK a (findIt x.tree p)⟩]) ++ turnsL p (findIt x.tree p) (l.drop (k + 1))) := Lib.hid (turnsL_drop p a hx)
          have HU := Lib.hid hu
          have HI : Hid (∀ W, Ext wr W → Its 0 W u x.tree) := Lib.hid fun W e => (HU.out.ext (E.trans e)).keep (Nat.zero_le _) (fun _ _ _ => rfl)
          obtain ⟨Au, cu, rfl, -⟩ := hu
          have a0 := fun W (e : Ext wr W) => hc0 W (E.trans e)
          have a1 := fun W (e : Ext wr W) => hc1 W (E.trans e)
          have z2 := fun W (e : Ext wr W) => d2 W (he.trans e)
          have Ct := l33Turn_c p wr hIa.out (HI.out wr (Ext.refl _))
          rw [hfa.out] at Ct
          have hbd := turnK_bd a (findIt x.tree p)
          have HO := Lib.hid hO
          have r1 := a1 wr (Ext.refl _)
          obtain ⟨AL, cL, rfl⟩ := hO.form
          obtain ⟨Aa, ca, rfl, -⟩ := hIa.out
          clear hc0 hx hO
          by_cases hz : turnK a (findIt x.tree p) = 0
          · rw [hz] at Ct
            have Hnx2 : Hid (turnsL p a (l.drop k) = turnsL p (findIt x.tree p) (l.drop (k + 1))) := Lib.hid (by rw [Hnx.out, if_pos hz]; rfl)
            clear hz hbd Hnx
            go_wp2_with (go_at_call 69; refine Ct.mono ?_; rintro e w4 ⟨rfl, he4⟩; have s1 := a1 w4 he4; have s2 := z2 w4 he4)
            go_roundw
            case rel => exact ⟨k + 1, _, x.tree, L, by omega, by go_num, he.trans he4, HO.out.ext (ETn_ok _) he4, Lib.hid (by rw [← Hnx2.out]; exact hL.out), Lib.hid (HI.out _ he4), Lib.hid rfl, Lib.hid (by have := hLk.out; omega)⟩
            case measure => simp [RowKit.intOf]; omega
          · have Hnx2 : Hid (L ++ turnsL p a (l.drop k) = (L ++ [⟨x.name, turnK a (findIt x.tree p)⟩]) ++ turnsL p (findIt x.tree p) (l.drop (k + 1))) := Lib.hid (by rw [Hnx.out, if_neg hz, List.append_assoc])
            have hgt : (0 : Int) < turnK a (findIt x.tree p) := by omega
            have hki : inI (turnK a (findIt x.tree p)) := by unfold inI; omega
            generalize turnK a (findIt x.tree p) = kd at *
            clear hz hbd Hnx
            go_wp2_with (first | (go_at_call 69; refine Ct.mono ?_; rintro e w4 ⟨rfl, he4⟩; have s0 := a0 w4 he4; have s2 := z2 w4 he4; have HO4 := Lib.hid (HO.out.ext (ETn_ok _) he4); have he4' := he.trans he4; have HI4 := Lib.hid (HI.out w4 he4)) | (at_builtin; go_must (refine wp_ap1 (w0 := wa) (by rfl) _ _ (by rfl) el_Tn (ETn_ok _) he4' _ L [⟨x.name, kd⟩] (by rfl) HO4.out 1 1 rfl #[.string x.name, .int .i64 kd] _ (by rfl) (by first | rfl | simp) rfl (one_cells rfl) (one_E (etn_of (x := ⟨x.name, kd⟩) hns hki)) ?_ ?_)))
            · have := hLk.out; simp; unfold lim; omega
            · intro v' w' hO' he' hk'
              have HO' := Lib.hid hO'
              have HI' := Lib.hid (HI4.out.keepT hk' (by decide) (by decide))
              have t2 := d2 w' he'
              have t1 := hc1 w' (e0.trans he')
              clear hO' hk' Ct
              go_wp2
              go_roundw
              case rel => exact ⟨k + 1, _, x.tree, L ++ [⟨x.name, kd⟩], by omega, by go_num, he', HO'.out, Lib.hid (by rw [← Hnx2.out]; exact hL.out), HI', Lib.hid rfl, Lib.hid (by rw [List.length_append]; have := hLk.out; simp; omega)⟩
              case measure => simp [RowKit.intOf]; omega
        · have hks : k = n := by omega
          subst hks
          have hLe : L = turnsL p none l := by
            rw [← hL.out, List.drop_eq_nil_of_le (by rw [Hn.out]; exact Nat.le_refl _)]
            cases a <;> simp [turnsL]
          obtain ⟨AL, cL, rfl⟩ := hO.form
          have HF : Hid (Tns w.heap.size wr (.slice AL L.length cL) (histOf s t l p)) := Lib.hid (by
            rw [Hr.out, ← hLe]
            exact Tns.keep (B := wa.heap.size) (hO.sl (ETn_ok _) (Nat.le_refl _) (by have := hLk.out; unfold lim; omega)) e0.size (fun _ _ _ => rfl))
          clear hO
          go_wp2
          go_ret
          exact ⟨_, rfl, HF.out, e0.trans he⟩
end Go.Sf
