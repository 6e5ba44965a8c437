/- The turns of a path come one by one: the program's iterator, and the list that is made of it. -/
import Derived.Test.YtneabdoianmfhaaGreatDoorT117
import Derived.RangeFuncNested
import Derived.RangeFuncBox
import Derived.RangeFuncBound
import Derived.RangeFuncCalls
import Derived.RangeFuncLeaves
import Derived.Shelf.Abstract
import Derived.Shelf.RegionOpen
import Derived.WalkKit
import Derived.OwnWalkIn
import Derived.TacticsInMore
import Derived.LoopNIn
import Derived.LoopIn
import Derived.Maps.AppendAt
namespace Go.Sf
open Go Go.RowKit Go.Proofs Go.Maps Go.Shelf
attribute [local go_sem] Oper.semAt_some
/-- a turn that fits -/
abbrev TnS := { x : Tn // x.snap.size < lim ∧ inI x.kind }
abbrev encT (x : TnS) : Array Value := #[.agg #[.string x.1.snap, .int .i64 x.1.kind]]
/-- what a round keeps: all that lay below n0, and block bp -/
def KpT (n0 bp : Nat) (A B : World) : Prop := Below n0 A B ∧ ∀ o, A.heap[bp]? = some o → B.heap[bp]? = some o
theorem grown_of_ext {w w' : World} (e : Ext w w') : w.grownBy w' none := ⟨Below.os e, Below.tape e, Below.output e, e.size, fun _ hk _ => e.block hk⟩
set_option maxRecDepth 100000 in
set_option maxHeartbeats 4000000 in
theorem turns1_in {n B g bd bp : Nat} {s : List Hd} {t : List It} {l : List Sn} {w1 w : World} (p : ByteArray) (hn : 3 ≤ n) (hD : DiskAt B w1 g s t l) (h6 : l.length ≤ 6) (hp : p.size < lim) (hm : ML w1) (he : Ext w1 w)
    (hbd : w.cell? ⟨bd, 0, none⟩ = some (.pointer (some ⟨g, 0, none⟩))) (hbp : w.heap[bp]? = some (.cells #[.string p] 9 (0, 0))) :
    SeqStopsK Fence.wide n Tryz.prog 138 #[.pointer (some ⟨bd, 0, none⟩), .pointer (some ⟨bp, 0, none⟩)] encT (KpT w1.heap.size bp) (fun ys => ys.map Subtype.val = turnsL p none l) (fun _ => True) (turnsL p none l).length w := by
  intro lp J Jx W hW hJ hJx hY h0
  obtain ⟨b, adr, kv, v, aq, -, hDb, -, -, hO, hSn⟩ := hD
  have hal := hSn.1
  obtain ⟨A8, c8, rfl, hA8⟩ := hO.sl esp_ok (Nat.le_refl _) (by rw [hal]; unfold lim; omega)
  have heW := he.trans hW
  have c4 := hDb.at_ (i := 4) (u := .slice A8 aq.length c8) rfl W heW
  rw [hal] at c4
  have hbd1 := Ext.cell hW hbd
  have hbp1 : W.heap[bp]? = some (.cells #[.string p] 9 (0, 0)) := (Ext.block hW (heap_lt hbp)).trans hbp
  have HSn := Lib.hid hSn; have HA8 := Lib.hid hA8; have HM := Lib.hid hm; have HJ := Lib.hid hJ; have HJx := Lib.hid hJx; have HY := Lib.hid hY
  have hfn : ∀ k, Fence.wide.fn k := fun _ => trivial
  have h1n : 1 ≤ n := by omega
  generalize hnn : l.length = nl at *
  have Hn := Lib.hid hnn
  clear hSn hA8 hDb hO hnn hal hbd hbp hW hJ hJx hY he
  refine callsIn_of_wp Tryz.func138 rfl (hfn _) ?_ rfl
  simp only [Tryz.ntmps138, List.size_toArray, List.length_cons, List.length_nil, Nat.reduceAdd, Nat.reduceSub, Array.replicate_succ, Array.replicate_zero, List.push_toArray, List.append_toArray, List.nil_append, List.cons_append]
  gi_wp2
  gi_loopw [4, 14] (fun bv i wr => ∃ (k : Nat) (a : Option It) (pre : List TnS), k ≤ nl ∧ i = .int .i64 k ∧ Hid (∀ W, Ext w1 W → NodeIs 0 W bv p a) ∧ Hid (J pre wr) ∧ Ext w1 wr ∧ Hid (wr.heap[bp]? = some (.cells #[.string p] 9 (0, 0))) ∧ Hid (pre.map Subtype.val ++ turnsL p a (l.drop k) = turnsL p none l)) (fun _ i _ => nl - (RowKit.intOf i).toNat)
  case atStart => exact ⟨0, none, [], by omega, rfl, Lib.hid fun W _ => NodeIs.none _ _ _, Lib.hid h0, heW, Lib.hid hbp1, Lib.hid rfl⟩
  case round =>
    clear h0 hbp1 hbd1 c4
    obtain ⟨k, a, pre, hk, rfl, hN, hJp, he, hB, hL⟩ := hrel
    by_cases hlt : k < nl
    · obtain ⟨x, hx⟩ := get_of_lt (l := l) (k := k) (by rw [Hn.out]; exact hlt)
      obtain ⟨hns, hok, adr2, kv2, has, hT2, -⟩ := HSn.out.2 k x hx
      obtain ⟨b8, o8, rfl, -, hc0, hc1⟩ := Sps.at_ HA8.out has
      simp only at hc0 hc1
      have a0 := hc0 wr he; have a1 := hc1 wr he
      have hgr := treeOk_iff'.1 hok
      have ea : Ext wr (wr.alloc (.cells #[.string x.name, .pointer (some ⟨adr2 [], 0, none⟩)] 194)) := (Ext.refl wr).alloc _
      have hbs := Blk.new wr 194 #[.string x.name, .pointer (some ⟨adr2 [], 0, none⟩)]
      have s0 := fun W (e : Ext _ W) => hbs.at_ (i := 0) (u := .string x.name) rfl W e
      have hbc : ∀ W, Ext wr W → W.cell? ⟨bp, 0, none⟩ = some (.string p) := fun W e => Blk.at_ (show Blk wr bp 9 #[.string p] from hB.out) (i := 0) (u := .string p) rfl W e
      have z0 := hbc _ ea
      have Cf := nodeFind_c (hT2.ext (he.trans ea)) hgr.2 (by unfold lim; have := hgr.1; omega) p hp (HM.out.ext (he.trans ea))
      have HNx : Hid (∀ W, Ext w1 W → NodeIs 0 W (findV x.tree adr2 p) p (findIt x.tree p)) := Lib.hid fun W e => NodeIs.find ((hT2.ext e).low (Nat.zero_le _)) hok p
      have Hnx : Hid (turnsL p a (l.drop k) = (if turnK a (findIt x.tree p) = 0 then [] else [⟨x.name, turnK a (findIt x.tree p)⟩]) ++ turnsL p (findIt x.tree p) (l.drop (k + 1))) := Lib.hid (turnsL_drop p a hx)
      have hbk := turnK_bd a (findIt x.tree p)
      generalize findV x.tree adr2 p = fv at *
      generalize hfx : findIt x.tree p = b at *
      have Hfx := Lib.hid hfx
      have Ck : ∀ W, Ext w1 W → Calls Tryz.prog 140 #[_, fv] W (Ret (.int .i64 (turnK a b)) W) := fun W e => turnKind_c W (hN.out W e) (HNx.out W e)
      clear hx hc0 hc1 has hT2 hgr hbs hfx hok
      by_cases hz : turnK a b = 0
      · have Hnx2 : Hid (turnsL p a (l.drop k) = turnsL p b (l.drop (k + 1))) := Lib.hid (by rw [Hnx.out, if_pos hz]; rfl)
        rw [hz] at Ck
        clear hz hbk Hnx
        gi_wp2_with (first | (gi_at_call 139; refine (callsIn_wide.2 Cf).mono ?_; rintro e w2 ⟨rfl, he2⟩; have e2 := ea.trans he2) | (gi_at_call 140; refine (callsIn_wide.2 (Ck _ (he.trans e2))).mono ?_; rintro e w3 ⟨rfl, he3⟩; have e3 := e2.trans he3))
        go_roundw
        case rel => exact ⟨k + 1, b, pre, by omega, by go_num, HNx, Lib.hid (HJ.out pre wr w3 none hJp.out (grown_of_ext e3) (fun r h => by cases h)), he.trans e3, Lib.hid ((e3.block (heap_lt hB.out)).trans hB.out), Lib.hid (by rw [← Hnx2.out]; exact hL.out)⟩
        case measure => simp [RowKit.intOf]; omega
      · have Hnx2 : Hid (pre.map Subtype.val ++ turnsL p a (l.drop k) = (pre.map Subtype.val ++ [⟨x.name, turnK a b⟩]) ++ turnsL p b (l.drop (k + 1))) := Lib.hid (by rw [Hnx.out, if_neg hz, List.append_assoc])
        have hki : inI (turnK a b) := by unfold inI; omega
        have hlen : pre.length < (turnsL p none l).length := by
          rw [← hL.out, Hnx2.out, List.length_append, List.length_append, List.length_map]
          simp; omega
        generalize hkd : turnK a b = kd at *
        have hne : (kd != 0) = true := by simpa using hz
        clear hz hbk Hnx hkd
        gi_wp2_with (first | (gi_at_call 139; refine (callsIn_wide.2 Cf).mono ?_; rintro e w2 ⟨rfl, he2⟩; have e2 := ea.trans he2) | (gi_at_call 140; refine (callsIn_wide.2 (Ck _ (he.trans e2))).mono ?_; rintro e w3 ⟨rfl, he3⟩; have e3 := e2.trans he3; have y0 := s0 _ (he2.trans he3); have hJ3 : J pre w3 := HJ.out pre wr w3 none hJp.out (grown_of_ext e3) (fun r h => by cases h); obtain ⟨fn, tmps, assign, body, hy, hR⟩ := HY.out pre ⟨⟨x.name, kd⟩, hns, hki⟩ w3 hJ3 hlen; (unfold encT at hy; dsimp only at hy)))
        refine hR.mono ?_
        rintro e W' (⟨rfl, hJ', hk'⟩ | ⟨rfl, hJx'⟩)
        · have hE' : Ext w1 W' := Below.trans (he.trans e3) hk'.1
          have hB' := hk'.2 _ ((e3.block (heap_lt hB.out)).trans hB.out)
          clear hy hR
          gi_wp2
          go_roundw
          case rel => exact ⟨k + 1, b, pre ++ [⟨⟨x.name, kd⟩, hns, hki⟩], by omega, by go_num, HNx, Lib.hid hJ', hE', Lib.hid hB', Lib.hid (by rw [List.map_append, ← hL.out, Hnx2.out]; rfl)⟩
          case measure => simp [RowKit.intOf]; omega
        · clear hy hR
          gi_wp2
          refine bodyPost_ret (results_none rfl _ _ _) rfl ?_
          exact ⟨⟨_, rfl⟩, .inr ⟨_, trivial, hJx'⟩⟩
    · have hks : k = nl := by omega
      subst hks
      have hLe : Hid (pre.map Subtype.val = turnsL p none l) := Lib.hid (by
        rw [← hL.out, List.drop_eq_nil_of_le (by rw [Hn.out]; exact Nat.le_refl _)]
        cases a <;> simp [turnsL])
      gi_wp2
      go_end0
      exact ⟨⟨_, rfl⟩, .inl ⟨pre, hLe.out, hJp.out⟩⟩
set_option maxHeartbeats 1000000 in
theorem turns_c (v : Value) (p : ByteArray) (w : World) (hv : ∃ g, v = .pointer (some ⟨g, 0, none⟩)) : Calls Tryz.prog 72 #[v, .string p] w (fun e w' => e = .returned (.func (.func 138) #[] #[.pointer (some ⟨w.heap.size, 0, none⟩), .pointer (some ⟨w.heap.size + 1, 0, none⟩)]) ∧ w' = (w.alloc (.cells #[v] 88)).alloc (.cells #[.string p] 9)) := by
  obtain ⟨g, rfl⟩ := hv
  go_enter Tryz.func72, Tryz.ntmps72
  go_wp2
  go_ret
  exact ⟨rfl, rfl⟩
/-- turns as cells -/
def tnCells (pre : List TnS) : List Value := pre.flatMap fun x => [.string x.1.snap, .int .i64 x.1.kind]
theorem tnCells_len (pre : List TnS) : (tnCells pre).length = pre.length * 2 := by
  induction pre with
  | nil => rfl
  | cons x r ih => unfold tnCells at *; rw [List.flatMap_cons, List.length_append, ih, List.length_cons]; simp; omega
theorem tnCells_snoc (pre : List TnS) (x : TnS) : tnCells (pre ++ [x]) = tnCells pre ++ [.string x.1.snap, .int .i64 x.1.kind] := by unfold tnCells; simp
theorem tnCells_at {pre : List TnS} {k : Nat} {x : TnS} (h : pre[k]? = some x) : (tnCells pre)[k * 2]? = some (.string x.1.snap) ∧ (tnCells pre)[k * 2 + 1]? = some (.int .i64 x.1.kind) := by
  induction pre generalizing k with
  | nil => simp at h
  | cons y r ih =>
    have e : tnCells (y :: r) = [.string y.1.snap, .int .i64 y.1.kind] ++ tnCells r := rfl
    rw [e]
    cases k with
    | zero => simp at h; subst h; exact ⟨rfl, rfl⟩
    | succ k =>
      rw [List.getElem?_cons_succ] at h
      obtain ⟨h1, h2⟩ := ih h
      rw [show (k + 1) * 2 = 2 + k * 2 by omega, show 2 + k * 2 + 1 = 2 + (k * 2 + 1) by omega]
      rw [List.getElem?_append_right (by simp), List.getElem?_append_right (by simp)]
      simp only [List.length_cons, List.length_nil, Nat.zero_add, Nat.reduceAdd, Nat.add_sub_cancel_left]
      exact ⟨h1, h2⟩
theorem tns_of_row {base : Nat} {w : World} {v : Value} {pre : List TnS} {L : List Tn} (h : w.ownsRow base 125 2 v pre.length (tnCells pre)) (hL : pre.map Subtype.val = L) (hl : pre.length ≤ lim) : Tns base w v L := by
  subst hL
  refine SlOf.of_own (by rw [List.length_map]; exact h) (Nat.le_refl _) (by rw [List.length_map]; exact hl) fun k x cs hx hj => ?_
  rw [List.getElem?_map, Option.map_eq_some_iff] at hx
  obtain ⟨y, hy, rfl⟩ := hx
  obtain ⟨h1, h2⟩ := tnCells_at hy
  have j0 := hj 0 (by omega); have j1 := hj 1 (by omega)
  rw [Nat.add_zero] at j0
  exact ⟨by rw [j0]; exact h1, y.2.1, by rw [j1]; exact h2, y.2.2⟩
theorem infoTn : (Tryz.prog.info? 125).map (fun i => (i.zero, i.size, i.bytes)) = some (some (.agg #[.string ⟨#[]⟩, .int .i64 0]), 2, 24) := by kernel_rfl
set_option maxRecDepth 100000 in
set_option maxHeartbeats 4000000 in
theorem HistoryOf_c {B B' B2 : Nat} {vs vt vn : Value} {s : List Hd} {t : List It} {l : List Sn} (p : ByteArray) (w : World) (hs : Hds B w vs s) (ht : Its B' w vt t) (hn : Sns B2 w vn l) (hp : p.size < lim) (hm : ML w) :
    Calls Tryz.prog 19 #[.agg #[vs, vt, vn], .string p] w (RetP (fun r w' => Tns w.heap.size w' r (histOf s t l p)) w) := by
  have HS := Lib.hid hs; have HT := Lib.hid ht; have HN := Lib.hid hn; have HM := Lib.hid hm
  obtain ⟨A, c, rfl, -⟩ := hs
  obtain ⟨A2, c2, rfl, -⟩ := ht
  obtain ⟨A3, c3, rfl, -⟩ := hn
  have e0 : Ext w (w.alloc (.cells #[.slice A s.length c, .slice A2 t.length c2, .slice A3 l.length c3] 33)) := (Ext.refl w).alloc _
  have Cn := newDisk_c _ (HS.out.ext e0) (HT.out.ext e0) (HN.out.ext e0) (HM.out.ext e0)
  have hfn : ∀ k, Fence.wide.fn k := fun _ => trivial
  obtain ⟨n, hn6⟩ : ∃ n, n = 8 := ⟨_, rfl⟩
  have h1n : 1 ≤ n := by omega
  clear hm
  refine (callsIn_wide (n := n)).1 ?_
  refine callsIn_of_wp_marks Tryz.func19 rfl (hfn _) ?_ rfl
  simp only [Tryz.ntmps19, List.size_toArray, List.length_cons, List.length_nil, Nat.reduceAdd, Nat.reduceSub, Array.replicate_succ, Array.replicate_zero, List.push_toArray, List.append_toArray, List.nil_append, List.cons_append]
  gi_wp2_with fail
  refine (callsIn_wide.2 Cn).mono ?_
  rintro e w1 ⟨he1, ⟨hv, rfl⟩ | ⟨hv, g, rfl, hD⟩⟩
  · have Hr : Hid (histOf s t l p = []) := Lib.hid (by unfold histOf; rw [hv, if_neg (by simp)])
    clear hv Cn
    gi_wp2
    refine ⟨_, results_tmp rfl _ _ _, _, rfl, ?_, e0.trans he1⟩
    rw [Hr.out]
    exact SlOf.nil _ _ _ _ _
  have Hv := Lib.hid hv
  have h6 := (disk_parts hv).2.2.2.1
  have E1 := e0.trans he1
  have HD := Lib.hid (hD.low (Nat.zero_le _))
  have Cp := PathValid_c p w1 hp (HM.out.ext E1)
  clear hv Cn hD
  cases hpo : pathOk p with
  | false =>
    rw [hpo] at Cp
    have Hr : Hid (histOf s t l p = []) := Lib.hid (by unfold histOf; rw [hpo, if_neg (by simp)])
    clear hpo
    gi_wp2_with (gi_at_call 71; refine (callsIn_wide.2 Cp).mono ?_; rintro e w2 ⟨rfl, he2⟩)
    refine ⟨_, results_tmp rfl _ _ _, _, rfl, ?_, E1.trans he2⟩
    rw [Hr.out]
    exact SlOf.nil _ _ _ _ _
  | true =>
    rw [hpo] at Cp
    have Hr : Hid (histOf s t l p = turnsL p none l) := Lib.hid (by unfold histOf; rw [if_pos ⟨Hv.out, hpo⟩])
    clear hpo
    gi_wp2_with (first | (gi_at_call 71; refine (callsIn_wide.2 Cp).mono ?_; rintro e w2 ⟨rfl, he2⟩) | (gi_at_call 72; refine (callsIn_wide.2 (turns_c _ p _ ⟨g, rfl⟩)).mono ?_; rintro e w3 ⟨rfl, rfl⟩))
    obtain ⟨W0, hW0⟩ : ∃ W0, ((w2.alloc (.cells #[.slice none 0 0] 40)).alloc (.cells #[.pointer (some ⟨g, 0, none⟩)] 88)).alloc (.cells #[.string p] 9) = W0 := ⟨_, rfl⟩
    have bL := ((Boxed.new w2 40 (.slice none 0 0)).alloc (.cells #[.pointer (some ⟨g, 0, none⟩)] 88)).alloc (.cells #[.string p] 9)
    have bD := (Boxed.new (w2.alloc (.cells #[.slice none 0 0] 40)) 88 (.pointer (some ⟨g, 0, none⟩))).alloc (.cells #[.string p] 9)
    have bP := Boxed.new ((w2.alloc (.cells #[.slice none 0 0] 40)).alloc (.cells #[.pointer (some ⟨g, 0, none⟩)] 88)) 9 (.string p)
    have hE0 : Ext w2 (((w2.alloc (.cells #[.slice none 0 0] 40)).alloc (.cells #[.pointer (some ⟨g, 0, none⟩)] 88)).alloc (.cells #[.string p] 9)) := (((Ext.refl w2).alloc _).alloc _).alloc _
    have hsz : (((w2.alloc (.cells #[.slice none 0 0] 40)).alloc (.cells #[.pointer (some ⟨g, 0, none⟩)] 88)).alloc (.cells #[.string p] 9)).heap.size = w2.heap.size + 3 := by simp
    simp only [World.size_alloc] at bD bP
    rw [hW0] at bL bD bP hE0 hsz ⊢
    clear hW0 Cp
    obtain ⟨i0, hi, hz0, hz1, hz2⟩ := info_parts infoTn
    have Hs := turns1_in (n := n - 1) p (by omega) HD.out h6 hp (HM.out.ext E1) (he2.trans hE0) bD.cell bP
    have hlen : Hid ((turnsL p none l).length ≤ 6) := Lib.hid (Nat.le_trans (turnsL_len p l none) h6)
    have E2 := Lib.hid (E1.trans he2)
    have Hsz := Lib.hid hsz
    have h12 := he2.size
    clear hsz
    refine wpIn_rangeFunc_ownH rfl h1n (gf := 138) (lb := #[.pointer (some ⟨w2.heap.size + 1, 0, none⟩), .pointer (some ⟨w2.heap.size + 1 + 1, 0, none⟩)]) rfl (hfn _) (enters_of Tryz.func138 (by kernel_rfl) rfl)
      Hs (fun h k => ⟨h.1.trans k.1, fun o ho => k.2 o (h.2 o ho)⟩)
      (fun W l o o' hl hWl hc hw => ⟨belowK_b (w := W0) (by rw [Hsz.out]; omega) W l o o' hl hWl hc hw, fun q hq => (World.putObj_heap_other (by rw [Hsz.out] at hl; omega)).trans hq⟩)
      (Below.refl _ _) (fun _ => rfl)
      (fun pre W => ((∃ v, Boxed W w2.heap.size 40 v ∧ W.ownsRow w2.heap.size 125 2 v pre.length (tnCells pre) ∧ True) ∧ Boxed W (w2.heap.size + 1 + 1) 9 (.string p)) ∧ Below w2.heap.size w2 W)
      (fun _ _ _ => False)
      (OwnFrom.and (OwnFrom.and (Own.from (holdsRow_own w2.heap.size w2.heap.size 40 125 2 (fun pre : List TnS => pre.length) (fun pre => tnCells pre) (fun _ _ => True)) _) (Own.from (boxed_own (w2.heap.size + 1 + 1) 9 (fun _ => .string p)) _)) (ownFrom_below (Nat.le_refl _) (by rw [Hsz.out]; omega)))
      (fun _ _ _ _ _ hs _ _ => hs)
      ⟨⟨⟨_, bL, World.ownsRow_nil _ _ _ _, trivial⟩, bP⟩, hE0⟩
      (fun x a' W => ∃ Bx, W.heap[Bx]? = some (.cells #[.string x.1.snap, .int .i64 x.1.kind] 125 (0, 0)) ∧ a' = { tmps := #[.agg #[.slice A s.length c, .slice A2 t.length c2, .slice A3 l.length c3], .string p, .pointer (some ⟨w.heap.size, 0, none⟩), undef, .slice none 0 0, .pointer (some ⟨g, 0, none⟩), .bool true, .pointer (some ⟨w2.heap.size, 0, none⟩), .pointer (some ⟨Bx, 0, none⟩),
          .tuple #[.pointer (some ⟨g, 0, none⟩), .bool true], .agg #[.slice A s.length c, .slice A2 t.length c2, .slice A3 l.length c3], .tuple #[.pointer (some ⟨g, 0, none⟩), .bool true], .pointer (some ⟨g, 0, none⟩), .bool true, .bool true, .bool false, .bool false, .string p, .bool true, .bool false, .bool false, .pointer (some ⟨g, 0, none⟩), .string p,
          .func (.func 138) #[] #[.pointer (some ⟨w2.heap.size + 1, 0, none⟩), .pointer (some ⟨w2.heap.size + 1 + 1, 0, none⟩)], .agg #[.string x.1.snap, .int .i64 x.1.kind], undef, undef, undef, undef, undef], defers := [] })
      (fun x a' => by
        intro _ W W' row hs hg hr
        obtain ⟨Bx, h1, h2⟩ := hs
        have hne : some Bx ≠ row := fun e => by
          obtain ⟨-, o, ho, hc⟩ := hr Bx e.symm
          rw [h1] at ho
          cases ho; cases hc
        exact ⟨Bx, (hg.block Bx (heap_lt h1) hne).trans h1, h2⟩)
      ?assign ?body ?done ?stop
    case assign =>
      rintro lq pre x W K ⟨⟨⟨v, hv, hrow, -⟩, hbp⟩, hB⟩ hK
      dsimp only [encT]
      gi_wp2
      exact hK _ _ ((KeepsOthers.alloc _ _).from _) ⟨(Below.refl _ W).alloc (Nat.le_trans h12 hB.size) _, fun o ho => (Below.heap_alloc _ _ _ (heap_lt ho)).trans ho⟩
        ⟨⟨⟨v, hv.alloc _, hrow.alloc _, trivial⟩, hbp.alloc _⟩, hB.alloc hB.size _⟩ ⟨W.heap.size, Blk.new W 125 #[.string x.1.snap, .int .i64 x.1.kind], rfl⟩
    case body =>
      rintro lq pre x a' W hlq hr ⟨⟨⟨v, hv, hrow, -⟩, hbp⟩, hB⟩ ⟨Bx, hbx, rfl⟩ hlt
      have hc := hv.cell
      have hbx' : Blk W Bx 125 #[.string x.1.snap, .int .i64 x.1.kind] := hbx
      have hx0 := hbx'.cell 0; have hx1 := hbx'.cell 1
      simp at hx0 hx1
      have hpl : pre.length ≤ 6 := by have := hlen.out; omega
      have hmx : pre.length + 1 ≤ maxLen := by unfold maxLen; omega
      have hbs : w2.heap.size ≤ (W.alloc (.cells #[.string x.1.snap, .int .i64 x.1.kind] 125)).heap.size := by have := hB.size; simp; omega
      gi_wp2_with (gi_at_builtin; refine wpListIn_append_own _ rfl _ _ 40 rfl w2.heap.size 125 i0 (.agg #[.string ⟨#[]⟩, .int .i64 0]) 2 24 Tryz.underlying40 hi hz0 hz1 hz2 rfl (by decide) _ _ _ rfl (hrow.alloc _) ⟨W.heap.size, 0, none⟩ 1 1 [.string x.1.snap, .int .i64 x.1.kind] rfl rfl (cell_two_new _ _ _ _) (by simp [Value.oneCell']) hmx (by omega) hbs ?_; intro v' wz hown' hgrow _; obtain ⟨g', cap', rfl⟩ := ownsRow_succ hown'; obtain ⟨hv1, hv2, hr2, hk2, hb2⟩ := hv.appended (by decide) hrow hB.size (Nat.le_refl _) hown' hgrow; have hp1 : Boxed wz (w2.heap.size + 1 + 1) 9 (.string p) := (hbp.alloc _).kept hgrow (hbp.not_row (by decide) hrow); have hc1 := hv1.cell; have hf1 := hv1.frozen)
      have hp2 := hp1.kept (grownBy_setCell' wz w2.heap.size (.slice (some ⟨g', 0, none⟩) (pre.length + 1) cap')) (fun e => by simp at e; omega)
      exact ⟨hk2.from _, ⟨hb2.mono h12, fun o ho => by
        rw [show W.heap[w2.heap.size + 1 + 1]? = _ from hbp] at ho
        cases ho; exact hp2⟩, ⟨⟨_, hv2, by rw [tnCells_snoc, List.length_append]; exact hr2, trivial⟩, hp2⟩, hB.trans hb2⟩
    case done =>
      rintro D ys W hD hys ⟨⟨⟨v, hv, hrow, -⟩, hbp⟩, hB⟩ hK
      have hc := hv.cell
      gi_wp2
      refine ⟨by simp, .inl ⟨_, _, rfl, run_takeDeferred hK, ?_⟩⟩
      have hyl : ys.length ≤ 6 := by have h1 := congrArg List.length hys; rw [List.length_map] at h1; have := hlen.out; omega
      refine ⟨_, results_tmp rfl _ _ _, v, rfl, ?_, Below.trans (E2.out.trans hB) (belowK_b (w := w) (Nat.le_refl _) W D _ _ (by rw [Hsz.out] at hD; have := E2.out.size; omega) hK rfl rfl)⟩
      rw [Hr.out]
      exact (tns_of_row (ownsRow_putObj hrow _ hK rfl) hys (by unfold lim; omega)).keep E2.out.size (fun _ _ _ => rfl)
    case stop =>
      rintro D cc pre W hD _ h _
      exact h.elim
end Go.Sf
