/- The program's ChangesRun. -/
import Derived.Test.YtbdgpbakhjpklaaGreatDoorT64
import Derived.Test.YtbdgpbakhjpklaaGreatDoorGN
import Derived.Test.YtbdgpbakhjpklaaGreatDoorP14
import Derived.Test.YtbdgpbakhjpklaaGreatDoorT57
import Derived.Test.YtbdgpbakhjpklaaGreatDoorT71
namespace Go.Sf
open Go Go.RowKit Go.Proofs Go.Maps
theorem take_put {l : List It} (h : Srt l) {k : Nat} {x : It} (hx : l[k]? = some x) : putIt x (l.take k) = l.take (k + 1) := by
  have h1 : l.take (k + 1) = l.take k ++ [x] := take_succ_get hx
  have h2 : Srt (l.take k ++ [x]) := by rw [← h1]; exact List.Pairwise.sublist (List.take_sublist _ _) h
  have h3 := putIt_mid (x := x) (bd := l.take k) (r := []) (fun y hy => (List.pairwise_append.1 h2).2.2 y hy x (by simp)) (fun z hz => by cases hz)
  rw [h1]; simpa using h3
theorem make_c {w0 w : World} {b n : Nat} {S : List It} {x : It} {u : Value} {k : Int} (hk : k = 1 ∨ k = 2 ∨ k = 3) (h0 : Ext w0 w) (hb : w0.heap.size ≤ b) (hS : Srt S) (hM : MapIs w0 b n S w) (hp : x.path.size < lim) (hu : Ints 0 w0 u x.ids) (hn : n < maxLen) :
    Calls Tryz.prog 73 #[.map (some b), chgV k x u] w (MakeP w0 b n S ⟨k, x⟩) := by
  rcases hk with rfl | rfl | rfl
  · exact make_new h0 hb hS hM hp hu hn
  · exact make_gone h0 hb hS hM hp hu hn
  · exact make_other h0 hb hS hM hp hu hn
theorem make_none {w0 w : World} {b n : Nat} {S : List It} {x : It} {u : Value} {k : Int} (hs : stepOf S ⟨k, x⟩ = none) (hk : k = 1 ∨ k = 2 ∨ k = 3) (h0 : Ext w0 w) (hb : w0.heap.size ≤ b) (hS : Srt S) (hM : MapIs w0 b n S w) (hp : x.path.size < lim) (hu : Ints 0 w0 u x.ids) (hn : n < maxLen) :
    Calls Tryz.prog 73 #[.map (some b), chgV k x u] w (Ret (.bool false) w0) := (make_c hk h0 hb hS hM hp hu hn).mono fun e w' ⟨h1, h2, _⟩ => ⟨by rw [h1, hs]; rfl, h2⟩
theorem make_some {w0 w : World} {b n : Nat} {S S' : List It} {x : It} {u : Value} {k : Int} (hs : stepOf S ⟨k, x⟩ = some S') (hk : k = 1 ∨ k = 2 ∨ k = 3) (h0 : Ext w0 w) (hb : w0.heap.size ≤ b) (hS : Srt S) (hM : MapIs w0 b n S w) (hp : x.path.size < lim) (hu : Ints 0 w0 u x.ids) (hn : n < maxLen) :
    Calls Tryz.prog 73 #[.map (some b), chgV k x u] w (fun e w' => e = .returned (.bool true) ∧ Ext w0 w' ∧ MapIs w0 b (n + 1) S' w') := (make_c hk h0 hb hS hM hp hu hn).mono fun e w' ⟨h1, h2, h3⟩ => ⟨by rw [h1, hs]; rfl, h2, h3 S' hs⟩
theorem changeFrom_ok (k : Int) (x : It) {u : Value} (hu : u.oneCell' = true) (hk : k = 1 ∨ k = 2 ∨ k = 3) (w : World) : Calls Tryz.prog 71 #[.int .i64 k, .agg #[.string x.path, .bool x.dir, u]] w (Ret (.tuple #[chgV k x u, .bool true]) w) := by
  refine (changeFrom_c k x hu w).mono ?_
  rintro e w' ⟨v, rfl, ⟨-, rfl⟩ | ⟨⟨h1, h2, h3⟩, -⟩, he⟩
  · exact ⟨rfl, he⟩
  · rcases hk with h | h | h
    · exact absurd h h1
    · exact absurd h h2
    · exact absurd h h3
theorem changeFrom_no (k : Int) (x : It) {u : Value} (hu : u.oneCell' = true) (hk : ¬ (k = 1 ∨ k = 2 ∨ k = 3)) (w : World) : Calls Tryz.prog 71 #[.int .i64 k, .agg #[.string x.path, .bool x.dir, u]] w (Ret (.tuple #[.nilIface, .bool false]) w) := by
  refine (changeFrom_c k x hu w).mono ?_
  rintro e w' ⟨v, rfl, ⟨h, rfl⟩ | ⟨-, rfl⟩, he⟩
  · exact absurd h hk
  · exact ⟨rfl, he⟩
/-- the sorted items are laid in a row; the tree of them is opened, and listed anew -/
def TailP (w0 : World) (o : Option (List It)) (e : Ending) (w' : World) : Prop := ∃ v, e = .returned v ∧ OptItsU w0.heap.size o v w' ∧ Ext w0 w'
set_option maxRecDepth 8000 in
set_option maxHeartbeats 4000000 in
theorem ChangesRun_c {B B' : Nat} {v vc : Value} {l : List It} {cs : List Ch} (w : World) (h : Its B w v l) (hc : Chs B' w vc cs) (hm : ML w) (hcl : cs.length ≤ 4000000) :
    Calls Tryz.prog 36 #[v, vc] w (RetP (OptItsU w.heap.size (runOf l cs)) w) := by
  have HM := Lib.hid hm
  have Ct := TreeValid_c w h hm
  have h0 : Its 0 w v l := h.keep (Nat.zero_le _) (fun _ _ _ => rfl)
  have hc0 : Chs 0 w vc cs := hc.keep (Nat.zero_le _) (fun _ _ _ => rfl)
  clear h hc hm
  cases ht : treeOk l with
  | false =>
    rw [ht] at Ct
    have Hd := Lib.hid (runOf_no (cs := cs) ht)
    clear ht h0 hc0
    go_enter Tryz.func36, Tryz.ntmps36
    go_wp2_with fail
    refine Ct.mono ?_
    rintro e w1 ⟨rfl, he1⟩
    go_wp2
    go_ret2
    exact ⟨_, rfl, OptItsU.nil_ Hd.out, he1⟩
  | true =>
  rw [ht] at Ct
  have hl12 := (tree_set.1 ht).1
  have Hsl := Lib.hid (tree_set.1 ht).2.1
  have Ht := Lib.hid ht
  obtain ⟨A, c, rfl, hA⟩ := h0
  obtain ⟨A2, c2, rfl, hA2⟩ := hc0
  have hex : ∃ n, l.length = n := ⟨_, rfl⟩
  obtain ⟨n, hn⟩ := hex
  have hex : ∃ m, cs.length = m := ⟨_, rfl⟩
  obtain ⟨m, hmm⟩ := hex
  rw [hn] at hl12 Ct ⊢
  rw [hmm] at hcl ⊢
  have Hn := Lib.hid hn
  have Hm := Lib.hid hmm
  have HA := Lib.hid hA
  have HA2 := Lib.hid hA2
  clear hA hA2 hn hmm ht
  have hmk := @run_makeMap Tryz.prog
  go_enter Tryz.func36, Tryz.ntmps36
  go_wp2_with fail
  refine Ct.mono ?_
  rintro e w1 ⟨rfl, he1⟩
  have HMp := Lib.hid (MapIs.made w w1)
  have hb : w.heap.size ≤ w1.heap.size := he1.size
  have HE2 := Lib.hid (Ext.alloc he1 (.map #[] 0))
  clear Ct he1
  go_wp2
  clear hmk
  have hex : ∃ mb, mb = w1.heap.size := ⟨_, rfl⟩
  obtain ⟨mb, hmb⟩ := hex
  rw [← hmb] at hb HMp ⊢
  clear hmb
  go_loopw [24] (fun i wr => ∃ k : Nat, k ≤ n ∧ i = .int .i64 k ∧ Ext w wr ∧ Hid (MapIs w mb k (l.take k) wr)) (fun i _ => n - (RowKit.intOf i).toNat)
  case atStart => exact ⟨0, by omega, rfl, HE2.out, HMp⟩
  case round =>
    obtain ⟨k, hk, rfl, he, hMI⟩ := hrel
    by_cases hlt : k < n
    · obtain ⟨x, hx⟩ := get_of_lt (l := l) (k := k) (by rw [Hn.out]; exact hlt)
      obtain ⟨b, o, u, rfl, -, -, hps, hu, hc0, hc1, hc2⟩ := Its.at_ HA.out hx
      have HU := Lib.hid hu
      obtain ⟨Ax, cx, rfl, -⟩ := hu
      obtain ⟨M, hV, h2⟩ := hMI.out
      have HV : Hid (∀ W, Ext wr W → MapV Tryz.prog 9 mb k M W) := Lib.hid fun W e => hV.ext e
      have H2 := Lib.hid h2
      have Hput := Lib.hid (take_put Hsl.out hx)
      have Hst : Hid (Srt (l.take k)) := Lib.hid (List.Pairwise.sublist (List.take_sublist _ _) Hsl.out)
      have hkm : k < maxLen := by unfold maxLen; omega
      obtain ⟨xp, xd, xi⟩ := x
      simp only at hps hc0 hc1 hc2 HU
      have hkey := keyS hps
      have q0 := hc0 wr he; have q1 := hc1 wr he; have q2 := hc2 wr he
      clear hc0 hc1 hc2 hV h2 hx hMI
      go_wp2_with (at_mapUpdate; refine wp_mput (w0 := w) rfl _ _ _ rfl lawS underMap (he.trans (by (repeat' (first | exact Ext.refl _ | assumption | refine Ext.alloc ?_ _ | refine Ext.drew ?_ | refine Ext.drewN ?_ _)))) hb rfl (HV.out _ (by (repeat' (first | exact Ext.refl _ | assumption | refine Ext.alloc ?_ _ | refine Ext.drew ?_ | refine Ext.drewN ?_ _)))) hkm _ _ _ rfl rfl hkey ?_; intro w5 hM5 he5 hg5)
      go_roundw
      case rel => exact ⟨k + 1, by omega, by go_num, he5, Lib.hid (by rw [← Hput.out]; exact put_is (x := ⟨xp, xd, xi⟩) Hst.out H2.out HU.out hps hM5)⟩
      case measure => simp [RowKit.intOf]; omega
    · have hks : k = n := by omega
      subst hks
      have hml : MapIs w mb 12 l wr := by
        have := hMI.out
        rw [List.take_of_length_le (by rw [Hn.out]; exact Nat.le_refl _)] at this
        exact this.mono hl12
      have HML := Lib.hid hml
      clear hMI hml
      go_wp2
      go_loopw [35] (fun i wr => ∃ (j : Nat) (S : List It), j ≤ m ∧ i = .int .i64 j ∧ Ext w wr ∧ Hid (Srt S) ∧ Hid (MapIs w mb (12 + j) S wr) ∧ Hid (runAll l cs = runAll S (cs.drop j))) (fun i _ => m - (RowKit.intOf i).toNat)
      case atStart => exact ⟨0, l, by omega, rfl, he, Hsl, HML, Lib.hid (by simp)⟩
      case round =>
        obtain ⟨j, S, hj, rfl, he2, hS, hMS, hrest⟩ := hrel
        by_cases hlt2 : j < m
        · obtain ⟨x, hx⟩ := get_of_lt (l := cs) (k := j) (by rw [Hm.out]; exact hlt2)
          obtain ⟨b, o, u, rfl, -, -, hki, hps, hu, hc0, hc1, hc2, hc3⟩ := Chs.at_ HA2.out hx
          have HU := Lib.hid hu
          obtain ⟨Ax, cx, rfl, -⟩ := hu
          have hd := drop_cons hx
          rw [hd] at hrest
          obtain ⟨kd, ⟨xp, xd, xi⟩⟩ := x
          simp only at hki hps HU hc0 hc1 hc2 hc3
          have q0 := hc0 wr he2; have q1 := hc1 wr he2; have q2 := hc2 wr he2; have q3 := hc3 wr he2
          have hbk := Blk.new wr 95 #[.int .i64 kd, .string xp, .bool xd, .slice Ax xi.length cx]
          have b0 := fun W (e : Ext _ W) => hbk.at_ (i := 0) (u := .int .i64 kd) rfl W e
          have b1 := fun W (e : Ext _ W) => hbk.at_ (i := 1) (u := .string xp) rfl W e
          have b2 := fun W (e : Ext _ W) => hbk.at_ (i := 2) (u := .bool xd) rfl W e
          have b3 := fun W (e : Ext _ W) => hbk.at_ (i := 3) (u := .slice Ax xi.length cx) rfl W e
          have ea : Ext wr (wr.alloc (.cells #[.int .i64 kd, .string xp, .bool xd, .slice Ax xi.length cx] 95)) := (Ext.refl wr).alloc _
          have Ci : ∀ W, Ext wr W → Calls Tryz.prog 72 #[.agg #[.string xp, .bool xd, .slice Ax xi.length cx]] W (Ret (.bool (itemOk ⟨xp, xd, xi⟩)) W) := fun W e => itemValid_c W ⟨_, rfl, hps, HU.out.ext (he2.trans e)⟩ (HM.out.ext (he2.trans e))
          have hnm : 12 + j < maxLen := by unfold maxLen; omega
          clear hc0 hc1 hc2 hc3 hx hd hbk
          by_cases hkd : kd = 1 ∨ kd = 2 ∨ kd = 3
          · have Cf : ∀ W, Calls Tryz.prog 71 #[.int .i64 kd, .agg #[.string xp, .bool xd, .slice Ax xi.length cx]] W (Ret (.tuple #[chgV kd ⟨xp, xd, xi⟩ (.slice Ax xi.length cx), .bool true]) W) := fun W => changeFrom_ok kd ⟨xp, xd, xi⟩ rfl hkd W
            cases hio : itemOk ⟨xp, xd, xi⟩ with
            | false =>
              rw [hio] at Ci
              have Hr : Hid (runOf l cs = none) := Lib.hid (runOf_none (by rw [hrest.out, run_bad hio]))
              clear hio hrest hkd
              go_wp2_with (first | (go_at_call 71; refine (Cf _).mono ?_; rintro e w3 ⟨rfl, he3⟩; have c0 := b0 w3 he3; have c1 := b1 w3 he3; have c2 := b2 w3 he3; have c3 := b3 w3 he3; have he4 := ea.trans he3) | (go_at_call 72; refine (Ci _ he4).mono ?_; rintro e w4 ⟨rfl, he5⟩))
              go_ret2
              exact ⟨_, rfl, OptItsU.nil_ Hr.out, (he2.trans he4).trans he5⟩
            | true =>
            rw [hio] at Ci
            cases hsp : stepOf S ⟨kd, ⟨xp, xd, xi⟩⟩ with
            | none =>
              have Hr : Hid (runOf l cs = none) := Lib.hid (runOf_none (by rw [hrest.out, run_none hsp]))
              have Cm : ∀ W, Ext wr W → Calls Tryz.prog 73 #[.map (some mb), chgV kd ⟨xp, xd, xi⟩ (.slice Ax xi.length cx)] W (Ret (.bool false) w) := fun W e => make_none hsp hkd (he2.trans e) hb hS.out (hMS.out.ext e) hps HU.out hnm
              clear hio hrest hkd hsp
              go_wp2_with (first | (go_at_call 71; refine (Cf _).mono ?_; rintro e w3 ⟨rfl, he3⟩; have c0 := b0 w3 he3; have c1 := b1 w3 he3; have c2 := b2 w3 he3; have c3 := b3 w3 he3; have he4 := ea.trans he3) | (go_at_call 72; refine (Ci _ he4).mono ?_; rintro e w4 ⟨rfl, he5⟩; have he6 := he4.trans he5) | (go_at_call 73; refine (Cm _ he6).mono ?_; rintro e w5 ⟨rfl, he7⟩))
              go_ret2
              exact ⟨_, rfl, OptItsU.nil_ Hr.out, he7⟩
            | some S' =>
              have Hr : Hid (runAll l cs = runAll S' (cs.drop (j + 1))) := Lib.hid (by rw [hrest.out, run_step hio hsp])
              have HS' := Lib.hid (step_srt hS.out hsp).1
              have Cm : ∀ W, Ext wr W → Calls Tryz.prog 73 #[.map (some mb), chgV kd ⟨xp, xd, xi⟩ (.slice Ax xi.length cx)] W (fun e w' => e = .returned (.bool true) ∧ Ext w w' ∧ MapIs w mb (12 + j + 1) S' w') := fun W e => make_some hsp hkd (he2.trans e) hb hS.out (hMS.out.ext e) hps HU.out hnm
              clear hio hrest hkd hsp
              go_wp2_with (first | (go_at_call 71; refine (Cf _).mono ?_; rintro e w3 ⟨rfl, he3⟩; have c0 := b0 w3 he3; have c1 := b1 w3 he3; have c2 := b2 w3 he3; have c3 := b3 w3 he3; have he4 := ea.trans he3) | (go_at_call 72; refine (Ci _ he4).mono ?_; rintro e w4 ⟨rfl, he5⟩; have he6 := he4.trans he5) | (go_at_call 73; refine (Cm _ he6).mono ?_; rintro e w5 ⟨rfl, he7, hM7⟩; have HM7 := Lib.hid hM7; clear hM7))
              go_roundw
              case rel => exact ⟨j + 1, S', by omega, by go_num, he7, HS', HM7, Hr⟩
              case measure => simp [RowKit.intOf]; omega
          · have Cf : ∀ W, Calls Tryz.prog 71 #[.int .i64 kd, .agg #[.string xp, .bool xd, .slice Ax xi.length cx]] W (Ret (.tuple #[.nilIface, .bool false]) W) := fun W => changeFrom_no kd ⟨xp, xd, xi⟩ rfl hkd W
            have Hr : Hid (runOf l cs = none) := Lib.hid (runOf_none (by rw [hrest.out, run_none (step_no (fun e => hkd (.inl e)) (fun e => hkd (.inr (.inl e))) (fun e => hkd (.inr (.inr e))))]))
            clear hrest hkd
            go_wp2_with (first | (go_at_call 71; refine (Cf _).mono ?_; rintro e w3 ⟨rfl, he3⟩; have he4 := ea.trans he3))
            go_ret2
            exact ⟨_, rfl, OptItsU.nil_ Hr.out, he2.trans he4⟩
        · have hjs : j = m := by omega
          subst hjs
          have Hr : Hid (runOf l cs = if treeOk S = true then some S else none) := Lib.hid (runOf_of Ht.out (by rw [hrest.out, List.drop_eq_nil_of_le (by rw [Hm.out]; exact Nat.le_refl _)]; rfl))
          clear hrest
          obtain ⟨M, hV, h2⟩ := hMS.out
          have hV0 := Lib.hid hV; have H2 := Lib.hid h2
          have hpl : ∀ x, x ∈ S → x.path.size < lim := fun x hx => by
            obtain ⟨u, -, -, h⟩ := (h2 x.path).2 x ((find_iff hS.out).2 ⟨hx, rfl⟩)
            exact h
          have Cs := Sorted_c hS.out hMS.out (by unfold lim; omega) hpl
          have hSl : S.length ≤ 12 + j := by
            obtain ⟨D, h1, hp⟩ := map_keys hS.out hMS.out
            have e1 := hp.length_eq
            have e2 := h1.size_le
            obtain ⟨es, hD, -⟩ := h1.tidy lawS
            rw [hD] at e1 e2
            simp [strKeys, Maps.size] at e1 e2
            omega
          clear hV h2 hpl
          go_wp2_with fail
          refine (Keys_c mb _).mono ?_
          rintro e w6 ⟨rfl, rfl⟩
          go_wp2_with fail
          refine Cs.mono ?_
          rintro e w7 ⟨v7, rfl, hK, he7⟩
          have e7 := (he2.alloc _).trans he7
          have e7' := ((Ext.refl wr).alloc _).trans he7
          have HV : Hid (∀ W, Ext w7 W → MapV Tryz.prog 9 mb (12 + j) M W) := Lib.hid fun W e => hV0.out.ext (e7'.trans e)
          obtain ⟨Ak, ck, rfl, hAk⟩ := hK
          rw [List.length_map]
          have hex : ∃ q, S.length = q := ⟨_, rfl⟩
          obtain ⟨q, hq⟩ := hex
          rw [hq] at hSl ⊢
          have Hq := Lib.hid hq
          have HAk := Lib.hid hAk
          clear hAk hq hV0 Cs he7 e7'
          go_wp2
          go_loopw [13, 66] (fun v i wr => ∃ k : Nat, k ≤ q ∧ i = .int .i64 k ∧ Ext w7 wr ∧ OwnS w7.heap.size 32 3 (EIt 0) wr v (S.take k)) (fun _ i _ => q - (RowKit.intOf i).toNat)
          case atStart => exact ⟨0, by omega, rfl, Ext.refl w7, OwnS.nil _ _ _ _ _⟩
          case round =>
            obtain ⟨k, hk, rfl, he3, hO⟩ := hrel
            have HO := Lib.hid hO
            by_cases hlt3 : k < q
            · obtain ⟨x, hx⟩ := get_of_lt (l := S) (k := k) (by rw [Hq.out]; exact hlt3)
              have hx' : (S.map (·.path))[k]? = some x.path := by rw [List.getElem?_map, hx]; rfl
              obtain ⟨b, o, rfl, -, -, hps, hc0⟩ := Strs.at_ HAk.out hx'
              obtain ⟨u, hr, hu, -⟩ := (H2.out x.path).2 x ((find_iff hS.out).2 ⟨List.mem_of_getElem? hx, rfl⟩)
              have HU := Lib.hid hu
              obtain ⟨Ax, cx, rfl, -⟩ := hu
              have Htk := Lib.hid (take_succ_get hx)
              obtain ⟨xp, xd, xi⟩ := x
              simp only at hps hr hc0 HU
              have hkey := keyS hps
              have q0 := hc0 wr he3
              have HE := Lib.hid (e7.trans he3)
              have htl : (S.take k).length ≤ k := by rw [List.length_take]; omega
              clear hx hx' hc0 hO
              go_wp2_with (first | (at_lookup; refine wp_mlook_some rfl _ _ rfl lawS underMap (zeroIt _) rfl (HV.out _ (by first | assumption | exact he3)) _ _ rfl hkey hr ?_) | (at_builtin; go_must (refine wp_ap1 (w0 := w7) (by rfl) _ _ (by rfl) el_It (EIt_ok _) he3 _ (S.take k) [⟨xp, xd, xi⟩] (by rfl) HO.out 1 1 rfl #[.string xp, .bool xd, .slice Ax xi.length cx] _ (by rfl) (by first | rfl | simp) rfl (one3 rfl) (one_E (eit_of_v (x := ⟨xp, xd, xi⟩) hps (HU.out.ext HE.out))) ?_ ?_)))
              · simp; unfold lim; omega
              · intro v' w' hO' he' hk'
                have HO' := Lib.hid hO'
                clear hO' hk'
                go_wp2
                go_roundw
                case rel => exact ⟨k + 1, by omega, by go_num, he', by rw [Htk.out]; exact HO'.out⟩
                case measure => simp [RowKit.intOf]; omega
            · have hkq : k = q := by omega
              subst hkq
              have hO2 := HO.out
              rw [List.take_of_length_le (by rw [Hq.out]; exact Nat.le_refl _)] at hO2
              obtain ⟨A', c', rfl⟩ := hO2.form
              have HI := Lib.hid (hO2.sl (EIt_ok _) (Nat.zero_le _) (by unfold lim; rw [Hq.out]; omega))
              have HEe := Lib.hid (e7.trans he3)
              clear hO hO2 HO e7 he3
              have Co := openTree_c wr HI.out (HM.out.ext HEe.out)
              go_wp2_with fail
              refine Co.mono ?_
              rintro e w8 ⟨he8, ⟨hts, rfl⟩ | ⟨hts, adr, kv, rfl, hT⟩⟩
              · have Hr2 : Hid (runOf l cs = none) := Lib.hid (by rw [Hr.out, hts]; rfl)
                clear hts Co
                go_wp2
                go_ret2
                exact ⟨_, rfl, OptItsU.nil_ Hr2.out, HEe.out.trans he8⟩
              · have Hr2 : Hid (runOf l cs = some S) := Lib.hid (by rw [Hr.out, hts]; rfl)
                have HG := Lib.hid (treeOk_iff'.1 hts)
                clear hts Co
                go_wp2_with fail
                refine (listU_c hT HG.out.2 HG.out.1).mono ?_
                rintro e w9 ⟨v9, rfl, ⟨lu, hlu, hU, hSp, -⟩, he9⟩
                have HF : Hid (OptItsU w.heap.size (runOf l cs) (.tuple #[v9, .bool true]) w9) := Lib.hid (by
                  rw [Hr2.out]
                  exact ⟨_, lu, rfl, hlu, hU.keep (HEe.out.trans he8).size (fun _ _ _ => rfl), hSp⟩)
                clear hlu hU hSp hT
                go_wp2
                go_ret2
                exact ⟨_, rfl, HF.out, (HEe.out.trans he8).trans he9⟩
end Go.Sf
