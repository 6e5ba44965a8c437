/- The program's changes of two trees. -/
import Derived.Test.YtbdgpbakhjpklaaGreatDoorGF
import Derived.Test.YtbdgpbakhjpklaaGreatDoorGH
import Derived.Test.YtbdgpbakhjpklaaGreatDoorGA
import Derived.Test.YtbdgpbakhjpklaaGreatDoorChecked
import Derived.IntWalk
import Derived.Test.YtbdgpbakhjpklaaGreatDoorGE
import Derived.Test.YtbdgpbakhjpklaaGreatDoorGD
/-! The program's changes of two trees. -/
namespace Go.Sf
open Go Go.RowKit Go.Proofs
theorem as_nn (v : Value) (w : World) : (Instr.typeAssert (.iface 135 v) 91 135 true).run Tryz.prog w = .ok (.tuple #[v, .bool true]) w := by kernel_rfl
theorem as_gn (v : Value) (w : World) : (Instr.typeAssert (.iface 134 v) 91 135 true).run Tryz.prog w = .ok (.tuple #[.agg #[.string ByteArray.empty, .bool false, .slice none 0 0], .bool false]) w := by kernel_rfl
theorem as_on (v : Value) (w : World) : (Instr.typeAssert (.iface 136 v) 91 135 true).run Tryz.prog w = .ok (.tuple #[.agg #[.string ByteArray.empty, .bool false, .slice none 0 0], .bool false]) w := by kernel_rfl
theorem as_gg (v : Value) (w : World) : (Instr.typeAssert (.iface 134 v) 91 134 true).run Tryz.prog w = .ok (.tuple #[v, .bool true]) w := by kernel_rfl
theorem as_og (v : Value) (w : World) : (Instr.typeAssert (.iface 136 v) 91 134 true).run Tryz.prog w = .ok (.tuple #[.agg #[.string ByteArray.empty, .bool false, .slice none 0 0], .bool false]) w := by kernel_rfl
set_option maxRecDepth 8000 in
set_option maxHeartbeats 1000000 in
theorem kindOf_c (k : Int) (x : It) (A : Option Addr) (n c : Nat) (w : World) (hk : k = 1 ∨ k = 2 ∨ k = 3) : Calls Tryz.prog 66 #[chgV k x (.slice A n c)] w (Ret (.int .i64 k) w) := by
  have q1 := as_nn; have q2 := as_gn; have q3 := as_on; have q4 := as_gg; have q5 := as_og
  rcases hk with rfl | rfl | rfl
  · show Calls Tryz.prog 66 #[.iface 135 (.agg #[.string x.path, .bool x.dir, .slice A n c])] w _
    go_enter Tryz.func66, Tryz.ntmps66
    go_wp2
    go_ret
    exact ⟨rfl, Ext.refl w⟩
  · show Calls Tryz.prog 66 #[.iface 134 (.agg #[.string x.path, .bool x.dir, .slice A n c])] w _
    go_enter Tryz.func66, Tryz.ntmps66
    go_wp2
    go_ret
    exact ⟨rfl, Ext.refl w⟩
  · show Calls Tryz.prog 66 #[.iface 136 (.agg #[.string x.path, .bool x.dir, .slice A n c])] w _
    go_enter Tryz.func66, Tryz.ntmps66
    go_wp2
    go_ret
    exact ⟨rfl, Ext.refl w⟩
set_option maxHeartbeats 1000000 in
theorem newItem_c (x : It) (A : Option Addr) (n c : Nat) (w : World) : Calls Tryz.prog 196 #[.agg #[.string x.path, .bool x.dir, .slice A n c]] w (Ret (.agg #[.string x.path, .bool x.dir, .slice A n c]) w) := by
  go_enter Tryz.func196, Tryz.ntmps196
  go_wp2
  exact bodyPost_ret (v := .agg #[.string x.path, .bool x.dir, .slice A n c]) (by simp [results, Tryz.results196, go_sem]) rfl ⟨rfl, ((Ext.refl w).alloc _).alloc _⟩
set_option maxHeartbeats 1000000 in
theorem goneItem_c (x : It) (A : Option Addr) (n c : Nat) (w : World) : Calls Tryz.prog 195 #[.agg #[.string x.path, .bool x.dir, .slice A n c]] w (Ret (.agg #[.string x.path, .bool x.dir, .slice A n c]) w) := by
  go_enter Tryz.func195, Tryz.ntmps195
  go_wp2
  exact bodyPost_ret (v := .agg #[.string x.path, .bool x.dir, .slice A n c]) (by simp [results, Tryz.results195, go_sem]) rfl ⟨rfl, ((Ext.refl w).alloc _).alloc _⟩
set_option maxHeartbeats 1000000 in
theorem otherItem_c (x : It) (A : Option Addr) (n c : Nat) (w : World) : Calls Tryz.prog 197 #[.agg #[.string x.path, .bool x.dir, .slice A n c]] w (Ret (.agg #[.string x.path, .bool x.dir, .slice A n c]) w) := by
  go_enter Tryz.func197, Tryz.ntmps197
  go_wp2
  exact bodyPost_ret (v := .agg #[.string x.path, .bool x.dir, .slice A n c]) (by simp [results, Tryz.results197, go_sem]) rfl ⟨rfl, ((Ext.refl w).alloc _).alloc _⟩

theorem OptChs.nil_ {B : Nat} {w : World} {o : Option (List Ch)} (h : o = none) : OptChs B o (.tuple #[.slice none 0 0, .bool false]) w := by
  subst h; exact ⟨_, rfl, SlOf.nil _ _ _ _ _⟩
theorem OptChs.some_ {B : Nat} {w : World} {o : Option (List Ch)} {L : List Ch} {v : Value} (h : o = some L) (hs : Chs B w v L) : OptChs B o (.tuple #[v, .bool true]) w := by
  subst h; exact ⟨_, rfl, hs⟩
/-- a method's call through an interface, its function found -/
theorem upon_item {P : Program} {o : Oper} {a : Act} {K : Act → World → Prop} {Q : Exit → Act → World → Prop} {n f : Nat} {T : TypeId} {nm : String} {v : Value} {W : World}
    (hm : (method n T v nm).run P W = .ok (f, v) W) (hf : (callFunc f #[v]).run P W = .ok (.enter f #[v]) W) (hc : Calls P f #[v] W (Ret v W)) (h : ∀ w', Ext W w' → K (a.put o.dst v) w') :
    Oper.upon P o a K Q ((Sem.run P (method n T v nm) W).andThen fun a w' => Sem.run P (callFunc a.fst #[a.snd]) w') := by
  rw [hm]
  show Oper.upon P o a K Q (Sem.run P (callFunc f #[v]) W)
  rw [hf]
  refine Calls.mono hc ?_
  rintro e w' ⟨rfl, he⟩
  exact h w' he
theorem chg_len : ∀ (n : Nat) (l1 l2 : List It), l1.length + l2.length ≤ n → (chg l1 l2).length ≤ l1.length + l2.length := by
  intro n
  induction n with
  | zero =>
    intro l1 l2 h
    rw [List.length_eq_zero_iff.1 (by omega : l1.length = 0), List.length_eq_zero_iff.1 (by omega : l2.length = 0), chg_nil]; simp
  | succ n ih =>
    intro l1 l2 h
    cases l1 with
    | nil =>
      cases l2 with
      | nil => rw [chg_nil]; simp
      | cons b bz => rw [chg_right]; have := ih [] bz (by simp at h ⊢; omega); simp at this ⊢; omega
    | cons a az =>
      cases l2 with
      | nil => rw [chg_left]; have := ih az [] (by simp at h ⊢; omega); simp at this ⊢; omega
      | cons b bz =>
        simp only [List.length_cons] at h ⊢
        rw [chg]
        have h1 := ih az (b :: bz) (by simp; omega)
        have h2 := ih (a :: az) bz (by simp; omega)
        have h3 := ih az bz (by omega)
        simp only [List.length_cons] at h1 h2
        repeat' split
        all_goals (try simp only [List.length_cons])
        all_goals omega
set_option maxRecDepth 8000 in
set_option maxHeartbeats 2000000 in
theorem ChangesOf_c {B : Nat} {v1 v2 : Value} {l1 l2 : List It} (w : World) (h1 : Its B w v1 l1) (h2 : Its B w v2 l2) (hm : ML w) :
    Calls Tryz.prog 33 #[v1, v2] w (RetP (OptChs w.heap.size (chgOf l1 l2)) w) := by
  have H1 := Lib.hid h1
  have H2 := Lib.hid h2
  have HM := Lib.hid hm
  clear h1 h2 hm
  cases ht1 : treeOk l1 with
  | false =>
    have Hd : Hid (chgOf l1 l2 = none) := Lib.hid (by simp [chgOf, ht1])
    have Ht1 := Lib.hid ht1; clear ht1
    go_enter Tryz.func33, Tryz.ntmps33
    go_wp2_with fail
    refine (openTree_c w H1.out HM.out).mono ?_
    rintro e w1 ⟨he1, ⟨-, rfl⟩ | ⟨ht, -⟩⟩
    · go_wp2
      go_ret2
      exact ⟨_, rfl, OptChs.nil_ Hd.out, he1⟩
    · rw [Ht1.out] at ht; cases ht
  | true =>
  cases ht2 : treeOk l2 with
  | false =>
    have Hd : Hid (chgOf l1 l2 = none) := Lib.hid (by simp [chgOf, ht2])
    have Ht1 := Lib.hid ht1; clear ht1
    have Ht2 := Lib.hid ht2; clear ht2
    go_enter Tryz.func33, Tryz.ntmps33
    go_wp2_with fail
    refine (openTree_c w H1.out HM.out).mono ?_
    rintro e w1 ⟨he1, ⟨ht, -⟩ | ⟨-, adr1, kv1, rfl, hT1⟩⟩
    · rw [Ht1.out] at ht; cases ht
    have HT1 := Lib.hid hT1; clear hT1
    go_wp2_with fail
    refine (openTree_c w1 (H2.out.ext he1) (HM.out.ext he1)).mono ?_
    rintro e w2 ⟨he2, ⟨-, rfl⟩ | ⟨ht, -⟩⟩
    · go_wp2
      go_ret2
      exact ⟨_, rfl, OptChs.nil_ Hd.out, he1.trans he2⟩
    · rw [Ht2.out] at ht; cases ht
  | true =>
  have Hd : Hid (chgOf l1 l2 = some (chg l1 l2)) := Lib.hid (by simp [chgOf, ht1, ht2])
  have hg1 := treeOk_iff'.1 ht1
  have hg2 := treeOk_iff'.1 ht2
  have HG1 := Lib.hid hg1
  have HG2 := Lib.hid hg2
  have Ht1 := Lib.hid ht1; clear ht1
  have Ht2 := Lib.hid ht2; clear ht2
  clear hg1 hg2
  go_enter Tryz.func33, Tryz.ntmps33
  go_wp2_with fail
  refine (openTree_c w H1.out HM.out).mono ?_
  rintro e w1 ⟨he1, ⟨ht, -⟩ | ⟨-, adr1, kv1, rfl, hT1⟩⟩
  · rw [Ht1.out] at ht; cases ht
  have HT1 := Lib.hid hT1; clear hT1
  go_wp2_with fail
  refine (openTree_c w1 (H2.out.ext he1) (HM.out.ext he1)).mono ?_
  rintro e w2 ⟨he2, ⟨ht, -⟩ | ⟨-, adr2, kv2, rfl, hT2⟩⟩
  · rw [Ht2.out] at ht; cases ht
  have HT2 := Lib.hid hT2; clear hT2
  go_wp2_with fail
  refine (list_c (HT1.out.ext he2) HG1.out.2 HG1.out.1).mono ?_
  rintro e w3 ⟨v3, rfl, hI3, he3⟩
  have HI3 : Hid (Its w.heap.size w3 v3 l1) := Lib.hid (hI3.keep (he1.trans he2).size (fun _ _ _ => rfl))
  clear hI3
  go_wp2_with fail
  refine (list_c (HT2.out.ext he3) HG2.out.2 HG2.out.1).mono ?_
  rintro e w4 ⟨v4, rfl, hI4, he4⟩
  have HI4 : Hid (Its w.heap.size w4 v4 l2) := Lib.hid (hI4.keep ((he1.trans he2).trans he3).size (fun _ _ _ => rfl))
  clear hI4
  go_wp2_with fail
  refine (changesBetween_c w4 (HI3.out.ext he4) HI4.out (by have := HG1.out.1; have := HG2.out.1; omega)).mono ?_
  rintro e w5 ⟨v5, rfl, hO5, he5⟩
  have hn : (chg l1 l2).length ≤ 24 := by
    have := chg_len _ l1 l2 (Nat.le_refl _)
    have := HG1.out.1; have := HG2.out.1; omega
  have he6 := (((he1.trans he2).trans he3).trans he4).trans he5
  obtain ⟨A5, c5, rfl⟩ := hO5.form
  have HO5 := Lib.hid hO5
  have HL : Hid (∀ k c, (chg l1 l2)[k]? = some c → c ∈ chg l1 l2) := Lib.hid fun k c h => List.mem_of_getElem? h
  clear hO5
  generalize hL : chg l1 l2 = L at *
  have HeL := Lib.hid hL; clear hL
  generalize hm : L.length = m at *
  have Hm := Lib.hid hm; clear hm
  clear he1 he2 he3 he4 he5
  go_wp2
  go_loopw [9, 32] (fun v i wr => ∃ k : Nat, k ≤ m ∧ i = .int .i64 k ∧ Ext w5 wr ∧ OwnS w5.heap.size 95 4 (ECh w.heap.size) wr v (L.take k)) (fun _ i _ => m - (intOf i).toNat)
  case atStart => exact ⟨0, by omega, rfl, Ext.refl _, OwnS.nil _ _ _ _ _⟩
  case round =>
    obtain ⟨k, hk, rfl, he, hO⟩ := hrel
    by_cases hlt : k < m
    · obtain ⟨ch, hch⟩ := get_of_lt (l := L) (k := k) (by rw [Hm.out]; exact hlt)
      obtain ⟨g, c', cs, hv, hg, hbl, hkd, hps, u, hcell, hu⟩ := HO5.out.at_ (ECg_ok _) hch
      rw [Nat.mul_one] at hcell
      injection hv with hv1 hvx hv2
      clear hvx
      subst hv1; subst hv2
      obtain ⟨Au, cu, rfl, hAu⟩ := hu
      have Hu : Hid (∀ W, Ext wr W → Ints w.heap.size W (.slice Au ch.item.ids.length cu) ch.item.ids) := Lib.hid fun W e => Ints.ext ⟨_, _, rfl, hAu⟩ (he.trans e)
      have hc0 := hbl.at_ hcell wr he
      have Hx := Lib.hid (take_succ_get hch)
      have HO := Lib.hid hO
      have Hbl := Lib.hid hbl
      clear hbl hcell hAu hO hch
      obtain ⟨kd, it⟩ := ch
      simp only at hkd hps hc0 Hu
      have Ck : ∀ W, Calls Tryz.prog 66 #[chgV kd it (.slice Au it.ids.length cu)] W (Ret (.int .i64 kd) W) := fun W => kindOf_c _ _ _ _ _ W hkd
      rcases hkd with rfl | rfl | rfl
      · change wr.cell? _ = some (.iface 135 (.agg #[.string it.path, .bool it.dir, .slice Au it.ids.length cu])) at hc0
        change ∀ W, Calls Tryz.prog 66 #[.iface 135 (.agg #[.string it.path, .bool it.dir, .slice Au it.ids.length cu])] W (Ret (.int .i64 1) W) at Ck
        go_wp2_with (go_at_call 66; refine (Ck _).mono ?_; rintro e w6 ⟨rfl, he7⟩)
        refine upon_item (f := 196) (by kernel_rfl) (by kernel_rfl) (newItem_c it _ _ _ _) ?_
        intro w7 he8
        have he9 := he.trans (he7.trans he8)
        have HO9 := Lib.hid (HO.out.ext (ECh_ok _) (he7.trans he8))
        have he11 := he7.trans he8
        clear he7 he8 Ck hc0
        go_wp2_with (at_builtin; go_must (refine wp_ap1 (w0 := w5) (by rfl) _ _ (by rfl) el_Ch (ECh_ok _) he9 _ (L.take k) [⟨1, it⟩] (by rfl) HO9.out 1 1 rfl #[.int .i64 1, .string it.path, .bool it.dir, .slice Au it.ids.length cu] _ (by rfl) (by first | rfl | simp) rfl (one4 rfl) (one_E (ech_of_v (by unfold inI; omega) hps (Hu.out _ he11))) ?_ ?_))
        · simp; unfold lim; omega
        · intro v' w' hO' he' hk'
          have HO' := Lib.hid hO'
          clear hO' hk'
          go_wp2
          go_roundw
          case rel => exact ⟨k + 1, by omega, by go_num, he', by rw [Hx.out]; exact HO'.out⟩
          case measure => simp [intOf]; omega
      · change wr.cell? _ = some (.iface 134 (.agg #[.string it.path, .bool it.dir, .slice Au it.ids.length cu])) at hc0
        change ∀ W, Calls Tryz.prog 66 #[.iface 134 (.agg #[.string it.path, .bool it.dir, .slice Au it.ids.length cu])] W (Ret (.int .i64 2) W) at Ck
        go_wp2_with (go_at_call 66; refine (Ck _).mono ?_; rintro e w6 ⟨rfl, he7⟩)
        refine upon_item (f := 195) (by kernel_rfl) (by kernel_rfl) (goneItem_c it _ _ _ _) ?_
        intro w7 he8
        have he9 := he.trans (he7.trans he8)
        have HO9 := Lib.hid (HO.out.ext (ECh_ok _) (he7.trans he8))
        have he11 := he7.trans he8
        clear he7 he8 Ck hc0
        go_wp2_with (at_builtin; go_must (refine wp_ap1 (w0 := w5) (by rfl) _ _ (by rfl) el_Ch (ECh_ok _) he9 _ (L.take k) [⟨2, it⟩] (by rfl) HO9.out 1 1 rfl #[.int .i64 2, .string it.path, .bool it.dir, .slice Au it.ids.length cu] _ (by rfl) (by first | rfl | simp) rfl (one4 rfl) (one_E (ech_of_v (by unfold inI; omega) hps (Hu.out _ he11))) ?_ ?_))
        · simp; unfold lim; omega
        · intro v' w' hO' he' hk'
          have HO' := Lib.hid hO'
          clear hO' hk'
          go_wp2
          go_roundw
          case rel => exact ⟨k + 1, by omega, by go_num, he', by rw [Hx.out]; exact HO'.out⟩
          case measure => simp [intOf]; omega
      · change wr.cell? _ = some (.iface 136 (.agg #[.string it.path, .bool it.dir, .slice Au it.ids.length cu])) at hc0
        change ∀ W, Calls Tryz.prog 66 #[.iface 136 (.agg #[.string it.path, .bool it.dir, .slice Au it.ids.length cu])] W (Ret (.int .i64 3) W) at Ck
        go_wp2_with (go_at_call 66; refine (Ck _).mono ?_; rintro e w6 ⟨rfl, he7⟩)
        refine upon_item (f := 197) (by kernel_rfl) (by kernel_rfl) (otherItem_c it _ _ _ _) ?_
        intro w7 he8
        have he9 := he.trans (he7.trans he8)
        have HO9 := Lib.hid (HO.out.ext (ECh_ok _) (he7.trans he8))
        have he11 := he7.trans he8
        clear he7 he8 Ck hc0
        go_wp2_with (at_builtin; go_must (refine wp_ap1 (w0 := w5) (by rfl) _ _ (by rfl) el_Ch (ECh_ok _) he9 _ (L.take k) [⟨3, it⟩] (by rfl) HO9.out 1 1 rfl #[.int .i64 3, .string it.path, .bool it.dir, .slice Au it.ids.length cu] _ (by rfl) (by first | rfl | simp) rfl (one4 rfl) (one_E (ech_of_v (by unfold inI; omega) hps (Hu.out _ he11))) ?_ ?_))
        · simp; unfold lim; omega
        · intro v' w' hO' he' hk'
          have HO' := Lib.hid hO'
          clear hO' hk'
          go_wp2
          go_roundw
          case rel => exact ⟨k + 1, by omega, by go_num, he', by rw [Hx.out]; exact HO'.out⟩
          case measure => simp [intOf]; omega
    · have hks : k = m := by omega
      subst hks
      have e : L.take k = L := List.take_of_length_le (by rw [Hm.out]; omega)
      rw [e] at hO
      have HO := Lib.hid hO
      clear hO e
      go_wp2
      go_ret2
      exact ⟨_, rfl, OptChs.some_ (L := L) Hd.out ((HO.out.mono (Ext.size he6)).sl (ECh_ok _) (Nat.le_refl _) (by rw [Hm.out]; unfold lim; omega)), he6.trans he⟩
end Go.Sf

/-! The reader draws a number. -/
namespace Go.Sf
open Go Go.RowKit Go.Proofs
theorem xor_i64 (a b : Nat) (ha : a < 4611686018427387904) (hb : b < 4611686018427387904) : bits .xor .i64 (a : Int) (b : Int) = ((a ^^^ b : Nat) : Int) ∧ a ^^^ b < 4611686018427387904 := by
  have hx : a ^^^ b < 2 ^ 62 := Nat.xor_lt_two_pow (by omega) (by omega)
  have h1 : (BitVec.ofInt 64 (a : Int)).toNat = a := by
    rw [BitVec.ofInt_natCast, BitVec.toNat_ofNat]; exact Nat.mod_eq_of_lt (by omega)
  have h2 : (BitVec.ofInt 64 (b : Int)).toNat = b := by
    rw [BitVec.ofInt_natCast, BitVec.toNat_ofNat]; exact Nat.mod_eq_of_lt (by omega)
  refine ⟨?_, by omega⟩
  show IntKind.i64.wrap ((BitVec.ofInt 64 (a : Int) ^^^ BitVec.ofInt 64 (b : Int)).toNat : Int) = _
  rw [BitVec.toNat_xor, h1, h2]
  exact IntWalk.i64_in _ (by omega)
theorem xor_shift_nn (X : Int) (h0 : 0 ≤ X) (h1 : X ≤ 1000000000000000) : 0 ≤ bits .xor .i64 X (X / 64) := by
  obtain ⟨a, rfl⟩ := Int.eq_ofNat_of_zero_le h0
  have e : ((a : Int) / 64) = ((a / 64 : Nat) : Int) := by omega
  rw [e, (xor_i64 a (a / 64) (by omega) (by omega)).1]
  omega
set_option maxRecDepth 4000 in
set_option maxHeartbeats 2000000 in
theorem pick_c {rb : Nat} {w : World} {q : Int} (n : Int) (h : Rd rb w q) (hq : q ≤ 1000000000000) (hn : n ≤ 1000000) : Calls Tryz.prog 76 #[.pointer (some ⟨rb, 0, none⟩), .int .i64 n] w (PickP rb w n q) := by
  have H := Lib.hid h
  obtain ⟨A, m, c, xs, hb, hS, hm, h2000, hq0⟩ := h
  have c1 := hb.cell 1; have c0 := hb.cell 0; have f1 := hb.frozen 1
  simp at c0 c1
  have Hb := Lib.hid hb; clear hb
  have HS := Lib.hid hS; clear hS
  have Hm := Lib.hid hm; clear hm
  by_cases h1 : n < 1
  · go_enter Tryz.func76, Tryz.ntmps76
    go_wp2
    go_ret
    exact ⟨0, rfl, Int.le_refl _, fun h => by omega, fun _ => rfl, H.out.next (Ext.refl w), ExtR.set rfl _⟩
  · have h1' : 1 ≤ n := by omega
    clear h1
    have e1 : w.frozen? ⟨rb, 1, none⟩ = false := f1
    by_cases hm0 : m = 0
    · subst hm0
      go_enter Tryz.func76, Tryz.ntmps76
      go_wp2
      go_ret
      exact ⟨0, rfl, Int.le_refl _, fun h => by omega, fun _ => rfl, H.out.next (Ext.refl w), ExtR.set rfl _⟩
    · have hmz : ((m : Int) == 0) = false := by rw [beq_eq_false_iff_ne]; omega
      have hmz2 : (m == 0) = false := by rw [beq_eq_false_iff_ne]; exact hm0
      obtain ⟨k, rfl⟩ := Int.eq_ofNat_of_zero_le hq0
      by_cases hlt : k < m
      · obtain ⟨x, hx⟩ := get_of_lt (l := xs) (k := k) (by rw [Hm.out]; exact hlt)
        obtain ⟨b, o, rfl, hx0, hx1, hbb, cx⟩ := UIn.at_ HS.out hx
        have hbne : b ≠ rb := Nat.ne_of_lt hbb
        clear hbb hx
        go_enter Tryz.func76, Tryz.ntmps76
        go_wp2
        go_ret
        exact ⟨x % n, rfl, Int.emod_nonneg _ (by omega), fun _ => Int.emod_lt_of_pos _ (by omega), fun h => by omega, H.out.next (Ext.refl w), ExtR.set rfl _⟩
      · have hm1 : 0 < m := by omega
        have hj1 := Nat.mod_lt k hm1
        have hj2 := Nat.mod_lt (k * 7 + 3) hm1
        have hd := Nat.div_le_self k m
        obtain ⟨x1, hx1⟩ := get_of_lt (l := xs) (k := k % m) (by rw [Hm.out]; exact hj1)
        obtain ⟨x2, hx2⟩ := get_of_lt (l := xs) (k := (k * 7 + 3) % m) (by rw [Hm.out]; exact hj2)
        obtain ⟨b, o, rfl, hx10, hx11, hbb, cx1⟩ := UIn.at_ HS.out hx1
        obtain ⟨b', o', hbe, hx20, hx21, -, cx2⟩ := UIn.at_ HS.out hx2
        simp only [Option.some.injEq, Addr.mk.injEq, and_true] at hbe
        obtain ⟨rfl, rfl⟩ := hbe
        have hbne : b ≠ rb := Nat.ne_of_lt hbb
        have et1 : (k : Int).tmod (m : Int) = ((k % m : Nat) : Int) := by rw [Int.tmod_eq_emod_of_nonneg (by omega)]; rfl
        have et2 : ((k : Int) * 7 + 3).tmod (m : Int) = (((k * 7 + 3) % m : Nat) : Int) := by rw [Int.tmod_eq_emod_of_nonneg (by omega)]; rfl
        have et3 : (k : Int).tdiv (m : Int) = ((k / m : Nat) : Int) := by rw [Int.tdiv_eq_ediv_of_nonneg (by omega)]; rfl
        clear hx1 hx2
        generalize k % m = j1 at *
        generalize (k * 7 + 3) % m = j2 at *
        generalize k / m = d at *
        have hk12 : k ≤ 1000000000000 := by omega
        go_enter Tryz.func76, Tryz.ntmps76
        go_wp2
        have w1 : IntKind.i64.wrap ((k : Int) * 7) = (k : Int) * 7 := IntWalk.i64_in _ (by omega)
        have w2 : IntKind.i64.wrap ((k : Int) * 7 + 3) = (k : Int) * 7 + 3 := IntWalk.i64_in _ (by omega)
        have w3 : IntKind.i64.wrap (x1 * 131) = x1 * 131 := IntWalk.i64_in _ (by omega)
        have w4 : IntKind.i64.wrap (x2 * 1117) = x2 * 1117 := IntWalk.i64_in _ (by omega)
        have w5 : IntKind.i64.wrap (x1 * 131 + x2 * 1117) = x1 * 131 + x2 * 1117 := IntWalk.i64_in _ (by omega)
        have w6 : IntKind.i64.wrap ((k : Int) * 29) = (k : Int) * 29 := IntWalk.i64_in _ (by omega)
        have w7 : IntKind.i64.wrap (x1 * 131 + x2 * 1117 + (k : Int) * 29) = x1 * 131 + x2 * 1117 + (k : Int) * 29 := IntWalk.i64_in _ (by omega)
        have w8 : IntKind.i64.wrap ((d : Int) * 53) = (d : Int) * 53 := IntWalk.i64_in _ (by omega)
        have w9 : IntKind.i64.wrap (x1 * 131 + x2 * 1117 + (k : Int) * 29 + (d : Int) * 53) = x1 * 131 + x2 * 1117 + (k : Int) * 29 + (d : Int) * 53 := IntWalk.i64_in _ (by omega)
        have i1 : (j1 : Int) < (m : Int) := by omega
        have i2 : (j2 : Int) < (m : Int) := by omega
        have w10 : IntKind.i64.wrap (j1 : Int) = (j1 : Int) := IntWalk.i64_in _ (by omega)
        have w11 : IntKind.i64.wrap (j2 : Int) = (j2 : Int) := IntWalk.i64_in _ (by omega)
        have w12 : IntKind.i64.wrap (d : Int) = (d : Int) := IntWalk.i64_in _ (by omega)
        have w13 : IntKind.i64.wrap x1 = x1 := IntWalk.i64_in _ (by omega)
        have w14 : IntKind.i64.wrap x2 = x2 := IntWalk.i64_in _ (by omega)
        refine wp_region_hold (fun W => W.cell? ⟨rb, 0, none⟩ = some (.slice (some ⟨b, o, none⟩) m c) ∧ W.cell? ⟨b, o + j1, none⟩ = some (.int .u8 x1) ∧ W.cell? ⟨b, o + j2, none⟩ = some (.int .u8 x2)) 44 [(0, true), (1, true), (2, true), (3, true), (4, true), (5, true), (6, true), (7, true), (8, true), (9, true), (10, true), (11, true), (12, true), (13, true), (14, true), (15, true), (16, true), (17, true), (18, true), (19, true), (20, true), (21, true), (22, true), (23, true), (24, true), (25, true), (26, true), (27, true), (28, true), (29, true), (30, true), (31, true), (32, true), (33, true), (34, true), (35, true), (36, true), (37, true), (38, true), (39, true), (40, true), (41, true), (42, true), (43, true)] (by kernel_rfl) (by kernel_rfl) ?_ ?_
        · have hb1 : Blk (w.setCell ⟨rb, 1, none⟩ (.int .i64 ((k : Int) + 1))).drew rb 125 #[.slice (some ⟨b, o, none⟩) m c, .int .i64 ((k : Int) + 1)] := by
            have := Hb.out.set_ 1 (.int .i64 ((k : Int) + 1))
            exact Blk.ext (by simpa using this) (Ext.refl _).drew
          have hbb1 := low_set (rb := rb) w ⟨rb, 1, none⟩ (.int .i64 ((k : Int) + 1)) (Nat.le_refl _) b hbb
          exact ⟨by simpa using hb1.cell 0, (World.cell?_of_block (w := w) (a := ⟨b, o + j1, none⟩) hbb1).trans cx1, (World.cell?_of_block (w := w) (a := ⟨b, o + j2, none⟩) hbb1).trans cx2⟩
        (repeat (first | (apply hw_read (by rfl) (by rfl); (· (intro W hW; (try dsimp only at hW); go_simp; (first | done | rfl | (rw [if_pos] <;> first | omega | rfl)))); (try simp only [Act.put, List.setIfInBounds_toArray, List.set_cons_zero, List.set_cons_succ])) | (refine hw_skip (by rfl) (by rfl) ?_; (try simp only [Act.put, List.setIfInBounds_toArray, List.set_cons_zero, List.set_cons_succ]))))
        clear w1 w2 w3 w4 w5 w6 w7 w8 w10 w11 w12 w13 w14 et1 et2 et3 cx1 cx2 i1 i2
        have hX0 : 0 ≤ x1 * 131 + x2 * 1117 + (k : Int) * 29 + (d : Int) * 53 := by omega
        have hX1 : x1 * 131 + x2 * 1117 + (k : Int) * 29 + (d : Int) * 53 ≤ 1000000000000000 := by omega
        clear w9
        have HX := Lib.hid (xor_shift_nn _ hX0 hX1)
        (refine hw_nil ?_; simp only [List.drop_succ_cons, List.drop_zero])
        go_wp2
        refine NoPanic.normal ?_
        (try dsimp only [Exit.then])
        go_wp2
        go_ret
        refine ⟨_, rfl, Int.tmod_nonneg _ HX.out, fun _ => ?_, fun h => by omega, H.out.next (Ext.refl w) |>.ext (Ext.refl _).drew, (ExtR.set rfl _).trans ((Ext.refl _).drew.toR _)⟩
        rw [Int.tmod_eq_emod_of_nonneg HX.out]
        exact Int.emod_lt_of_pos _ (by omega)
end Go.Sf

/-! The reader is opened. -/
namespace Go.Sf
open Go Go.RowKit Go.Proofs
def OpenR (w : World) (e : Ending) (w' : World) : Prop := ∃ rb, e = .returned (.pointer (some ⟨rb, 0, none⟩)) ∧ w.heap.size ≤ rb ∧ rb < w'.heap.size ∧ Rd rb w' 0 ∧ Ext w w'
set_option maxHeartbeats 1000000 in
theorem l6Open_c {v : Value} {xs : List Int} (w : World) (h : Bys w v xs) : Calls Tryz.prog 51 #[v] w (OpenR w) := by
  obtain ⟨A, c, rfl, hA⟩ := h
  have hl := hA.2.2.1
  have hc := hA.1
  have hcm := hA.2.1.1
  unfold lim at hl
  unfold maxLen at hcm
  have HA := Lib.hid hA; clear hA
  have fin : Hid (∀ (n : Nat) (ys : List Int), ys.length = n → n ≤ 2000 → UIn w.heap.size w A c ys → Rd w.heap.size (w.alloc (.cells #[.slice A n c, .int .i64 0] 125)) 0) := Lib.hid fun n ys hn h2 hs =>
    ⟨A, n, c, ys, Blk.new _ _ _, hs.low (fun b hb => ((Ext.refl w).alloc _).block hb), hn, h2, Int.le_refl _⟩
  by_cases h2 : xs.length ≤ 2000
  · have h2i : ¬ (2000 : Int) < (xs.length : Int) := by omega
    have hf := fin.out _ xs rfl h2 HA.out
    have Hf := Lib.hid hf; clear hf fin
    go_enter Tryz.func51, Tryz.ntmps51
    go_wp2
    go_ret
    exact ⟨_, rfl, Nat.le_refl _, by simp, Hf.out, (Ext.refl w).alloc _⟩
  · have h2i : (2000 : Int) < (xs.length : Int) := by omega
    have h2000 : 2000 ≤ c := by omega
    have hf := fin.out 2000 (xs.take 2000) (by simp; omega) (by omega) (by
      refine ⟨by simp; omega, HA.out.2.1, by simp; unfold lim; omega, fun k x hx => HA.out.2.2.2 k x ?_⟩
      rw [List.getElem?_take] at hx; split at hx
      · exact hx
      · cases hx)
    have Hf := Lib.hid hf; clear hf fin
    go_enter Tryz.func51, Tryz.ntmps51
    go_wp2
    go_ret
    exact ⟨_, rfl, Nat.le_refl _, by simp, Hf.out, (Ext.refl w).alloc _⟩
end Go.Sf

/-! A tree is drawn. -/
namespace Go.Sf
open Go Go.RowKit Go.Proofs
/-- what a drawing of a tree leaves: a list, and the reader a little further -/
def DrewT (rb : Nat) (w : World) (q : Int) (e : Ending) (w' : World) : Prop :=
  ∃ v l q', e = .returned v ∧ OwnS w.heap.size 32 3 (EIt w.heap.size) w' v l ∧ l.length ≤ 9 ∧ Rd rb w' q' ∧ q ≤ q' ∧ q' ≤ q + 100 ∧ ExtR rb w w'
def TreeRel (rb : Nat) (w : World) (pcs : Array Value) (q : Int) (v i : Value) (wr : World) : Prop :=
  ∃ (k : Nat) (l : List It) (q' : Int), k ≤ 8 ∧ i = .int .i64 k ∧ OwnS w.heap.size 32 3 (EIt w.heap.size) wr v l ∧ l.length ≤ k ∧ Rd rb wr q' ∧ q ≤ q' ∧ q' ≤ q + 6 * k ∧ ExtR rb w wr ∧ Blk wr (w.heap.size + 1) 9 pcs
/-- an item that is being made -/
def XI (rb : Nat) (wr : World) (gx : Nat) (p : ByteArray) (b : Bool) (ids : List Int) (q : Int) (u : Value) (W : World) : Prop :=
  Blk W gx 32 #[.string p, .bool b, u] ∧ OwnS wr.heap.size 3 1 EInt W u ids ∧ Rd rb W q ∧ ExtR rb wr W
theorem XI.pick {rb gx : Nat} {wr W W' : World} {p : ByteArray} {b : Bool} {ids : List Int} {q : Int} {u : Value} (h : XI rb wr gx p b ids q u W) (hR : Rd rb W' (q + 1)) (e : ExtR rb W W') (hne : gx ≠ rb) : XI rb wr gx p b ids (q + 1) u W' :=
  ⟨e.blk h.1 hne, h.2.1.keepT (h.2.2.1.keepsT e) (by decide) (fun _ _ _ h => h), hR, h.2.2.2.trans e⟩
theorem XI.ext {rb gx : Nat} {wr W W' : World} {p : ByteArray} {b : Bool} {ids : List Int} {q : Int} {u : Value} (h : XI rb wr gx p b ids q u W) (e : Ext W W') : XI rb wr gx p b ids q u W' :=
  ⟨h.1.ext e, h.2.1.ext eint_ok e, h.2.2.1.ext e, h.2.2.2.extend e⟩
theorem out_keep {rb : Nat} {w wr W : World} {v : Value} {l : List It} {q : Int} (hO : OwnS w.heap.size 32 3 (EIt w.heap.size) wr v l) (hR : Rd rb wr q) (e : ExtR rb wr W) : OwnS w.heap.size 32 3 (EIt w.heap.size) W v l :=
  hO.keepT (hR.keepsT e) (by decide) (fun _ _ _ h => h.keepT (hR.keepsT e) (by decide))
theorem XI.store {rb gx : Nat} {wr W : World} {p : ByteArray} {b : Bool} {ids : List Int} {q : Int} {u u' : Value} (h1 : Blk W gx 32 #[.string p, .bool b, u]) (h2 : OwnS wr.heap.size 3 1 EInt W u' ids) (h3 : Rd rb W q) (h4 : ExtR rb wr W) (hg : wr.heap.size ≤ gx) (hrg : rb ≤ gx) :
    XI rb wr gx p b ids q u' (W.setCell ⟨gx, 2, none⟩ u') := by
  have k := KeepsT.set (i := 2) h1 u' rfl
  exact ⟨by simpa using h1.set_ 2 u', h2.keepT k (by decide) (fun _ _ _ h => h), h3.keepT k (by decide) (low_set _ _ _ hrg), h4.setNew hg _⟩
/-- what the three operations of a new item leave -/
def FT (B : Nat) (p : ByteArray) (i : Nat) (us : Nat → Value) (W : World) : Prop :=
  (i = 5 → ∃ b : Bool, us 23 = .bool b) ∧ (i = 7 → ∃ g, us 24 = .slice (some ⟨g, 0, none⟩) 0 0 ∧ B ≤ g ∧ Blk W g 3 #[]) ∧
  (i = 9 → ∃ g, us 6 = .pointer (some ⟨g, 0, none⟩) ∧ B ≤ g ∧ Blk W g 32 #[.string ⟨#[]⟩, .bool false, .slice none 0 0]) ∧
  (i = 8 → ∃ (b : Bool) (g : Nat), us 25 = .agg #[.string p, .bool b, .slice (some ⟨g, 0, none⟩) 0 0] ∧ B ≤ g ∧ Blk W g 3 #[])
theorem FT.keep {B i : Nat} {p : ByteArray} {us us' : Nat → Value} {W W' : World} (h : FT B p i us W) (hk : KeepsT 125 W W') (h23 : i = 5 → us' 23 = us 23) (h24 : i = 7 → us' 24 = us 24) (h6 : i = 9 → us' 6 = us 6) (h25 : i = 8 → us' 25 = us 25) : FT B p i us' W' :=
  ⟨fun hi => by rw [h23 hi]; exact h.1 hi, fun hi => by rw [h24 hi]; exact let ⟨g, h1, h2, h3⟩ := h.2.1 hi; ⟨g, h1, h2, hk _ _ _ (by decide) h3⟩, fun hi => by rw [h6 hi]; exact let ⟨g, h1, h2, h3⟩ := h.2.2.1 hi; ⟨g, h1, h2, hk _ _ _ (by decide) h3⟩,
   fun hi => by rw [h25 hi]; exact let ⟨b, g, h1, h2, h3⟩ := h.2.2.2 hi; ⟨b, g, h1, h2, hk _ _ _ (by decide) h3⟩⟩
def JT (rb : Nat) (wr : World) (q : Int) (R : List Nat) (W : World) : Prop := ExtR rb wr W ∧ Rd rb W (if 5 ∈ R then q else q + 1)
set_option maxRecDepth 4000 in
set_option maxHeartbeats 4000000 in
theorem l91Tree_c {rb : Nat} {w : World} {q : Int} (h : Rd rb w q) (hq : q ≤ 100000000000) (hrb : rb < w.heap.size) : Calls Tryz.prog 52 #[.pointer (some ⟨rb, 0, none⟩)] w (DrewT rb w q) := by
  have H := Lib.hid h
  clear h
  go_enter Tryz.func52, Tryz.ntmps52
  go_wp2
  have hfit : ∃ pcs : Array Value, pcs = #[.string ⟨#[97]⟩, .string ⟨#[97, 47, 120]⟩, .string ⟨#[97, 47, 120, 47, 112]⟩, .string ⟨#[97, 47, 120, 47, 113]⟩, .string ⟨#[97, 47, 121]⟩, .string ⟨#[98]⟩, .string ⟨#[98, 47, 120]⟩, .string ⟨#[99]⟩] := ⟨_, rfl⟩
  obtain ⟨pcs, hpcs⟩ := hfit
  rw [← hpcs]
  have hpc : ∀ k, k < 8 → ∃ p : ByteArray, pcs[k]? = some (.string p) ∧ p.size < lim := fun k hk => by
    subst hpcs
    rcases k with _ | _ | _ | _ | _ | _ | _ | _ | k
    all_goals first | exact ⟨_, rfl, by decide⟩ | omega
  have Hpc := Lib.hid hpc
  clear hpc hpcs
  have hpb : Blk ((w.alloc (.cells #[] 32)).alloc (.cells pcs 9)) (w.heap.size + 1) 9 pcs := by
    have := Blk.new (w.alloc (.cells #[] 32)) 9 pcs
    simpa using this
  have hO0 : OwnS w.heap.size 32 3 (EIt w.heap.size) ((w.alloc (.cells #[] 32)).alloc (.cells pcs 9)) (.slice (some ⟨w.heap.size, 0, none⟩) 0 0) [] := (OwnS.lit0 _ _ _ _ (Nat.le_refl _)).ext (EIt_ok _) ((Ext.refl _).alloc _)
  have he1 : Ext w ((w.alloc (.cells #[] 32)).alloc (.cells pcs 9)) := ((Ext.refl w).alloc _).alloc _
  have hs1 : ((w.alloc (.cells #[] 32)).alloc (.cells pcs 9)).heap.size = w.heap.size + 2 := by simp
  generalize (w.alloc (.cells #[] 32)).alloc (.cells pcs 9) = w1 at *
  have HO0 := Lib.hid hO0
  have Hpb := Lib.hid hpb
  have Hs1 := Lib.hid hs1
  clear hO0 hpb hs1
  go_loopw [3, 5] (fun v i wr => TreeRel rb w pcs q v i wr) (fun _ i _ => 8 - (intOf i).toNat)
  case atStart => exact ⟨0, [], q, by omega, rfl, HO0.out, by simp, H.out.ext he1, Int.le_refl _, by omega, he1.toR _, Hpb.out⟩
  case round =>
    obtain ⟨k, l, q', hk, rfl, hO, hl, hR, hq1, hq2, heR, hpbr⟩ := hrel
    by_cases hlt : k < 8
    · obtain ⟨p, hp, hps⟩ := Hpc.out k hlt
      have hkw := hR.lt
      have hprb : w.heap.size + 1 ≠ rb := by omega
      have HPB : Hid (∀ W, ExtR rb wr W → Blk W (w.heap.size + 1) 9 pcs) := Lib.hid fun W e => e.blk hpbr hprb
      have HO := Lib.hid hO; have HR := Lib.hid hR; have HeR := Lib.hid heR; have Hp := Lib.hid hp
      have cp : ∀ W, ExtR rb wr W → W.cell? ⟨w.heap.size + 1, k, none⟩ = some (.string p) := fun W e => by rw [(HPB.out W e).cell, Hp.out]
      have ki : (k : Int) < 8 := by omega
      have k0 : (0 : Int) ≤ (k : Int) := by omega
      clear hO hR hp hpbr
      go_wp2
      refine wp_region_par (fun W => ExtR rb wr W) (JT rb wr q') (FT wr.heap.size p) 10 [(5, [6]), (7, []), (9, [])] [(8, [5, 7])] [22, 23, 24, 6, 25] [(0, true), (1, true), (2, true), (3, true), (4, true)] [] (by kernel_rfl) (by kernel_rfl) ?_ ?_ ?_
      · exact fun R W h => h.1
      · exact (Ext.refl wr).drew.toR rb
      (repeat (first | (apply hp_read (by rfl) (by rfl); (· (intro W hW; (try dsimp only at hW); go_simp; (first | done | rfl | (rw [if_pos] <;> first | omega | rfl)))); (try simp only [Act.put, List.setIfInBounds_toArray, List.set_cons_zero, List.set_cons_succ])) | (refine hp_skip (by rfl) (by rfl) ?_; (try simp only [Act.put, List.setIfInBounds_toArray, List.set_cons_zero, List.set_cons_succ]))))
      apply hp_par
      · exact ⟨(Ext.refl wr).drew.toR rb, by simpa using HR.out.ext (Ext.refl wr).drew⟩
      · intro us W d R hd hR hJ
        have HJ := Lib.hid hJ
        simp only [List.mem_cons, List.mem_nil_iff, or_false] at hd
        rcases hd with rfl | rfl | rfl
        · have hR5 : Rd rb W q' := by have := hJ.2; rwa [if_pos hR] at this
          have HR5 := Lib.hid hR5
          clear hJ hR5
          refine hc_step (by rfl) ?_
          simp only [putAll, List.foldl]
          (try simp only [Act.put, List.setIfInBounds_toArray, List.set_cons_zero, List.set_cons_succ])
          go_wp2_with (go_at_call 76; refine (pick_c 3 HR5.out ?_ ?_).mono ?_; omega; omega; rintro e w4 ⟨v, rfl, hv0, hv3, -, hR4, he4⟩)
          refine ⟨HJ.out.1.trans he4, ?_⟩
          (repeat (apply hc_read (by rfl) (by rfl); (· (intro W hW; (try dsimp only at hW); go_simp; (first | done | rfl | (rw [if_pos] <;> first | omega | rfl)))); (try simp only [Act.put, List.setIfInBounds_toArray, List.set_cons_zero, List.set_cons_succ])))
          exact hc_nil ⟨⟨HJ.out.1.trans he4, by rw [if_neg (by simp)]; exact hR4⟩, upd (upd us 22 (.int .i64 v)) 23 (.bool (decide (0 < v))), rfl, ⟨fun _ => ⟨_, rfl⟩, fun h => by omega, fun h => by omega, fun h => by omega⟩, fun e he hne hF => hF.keep (HR5.out.keepsT he4) (fun h => absurd h hne) (fun _ => rfl) (fun _ => rfl) (fun _ => rfl)⟩
        · refine hc_step (by rfl) ?_
          simp only [putAll, List.foldl]
          (try simp only [Act.put, List.setIfInBounds_toArray, List.set_cons_zero, List.set_cons_succ])
          go_wp2
          have he4 : Ext W (W.alloc (.cells #[] 3)) := (Ext.refl W).alloc _
          refine ⟨HJ.out.1.trans (he4.toR rb), ?_⟩
          exact hc_nil ⟨⟨HJ.out.1.trans (he4.toR rb), by have := HJ.out.2.ext he4; simpa using this⟩, upd us 24 (.slice (some ⟨W.heap.size, 0, none⟩) 0 0), rfl, ⟨fun h => by omega, fun _ => ⟨_, rfl, HJ.out.1.size, Blk.new _ _ _⟩, fun h => by omega, fun h => by omega⟩, fun e he hne hF => hF.keep (he4.keepsT _) (fun _ => rfl) (fun h => absurd h hne) (fun _ => rfl) (fun _ => rfl)⟩
        · refine hc_step (by rfl) ?_
          simp only [putAll, List.foldl]
          (try simp only [Act.put, List.setIfInBounds_toArray, List.set_cons_zero, List.set_cons_succ])
          go_wp2
          have he4 : Ext W (W.alloc (.cells #[.string ⟨#[]⟩, .bool false, .slice none 0 0] 32)) := (Ext.refl W).alloc _
          refine ⟨HJ.out.1.trans (he4.toR rb), ?_⟩
          exact hc_nil ⟨⟨HJ.out.1.trans (he4.toR rb), by have := HJ.out.2.ext he4; simpa using this⟩, upd us 6 (.pointer (some ⟨W.heap.size, 0, none⟩)), rfl, ⟨fun h => by omega, fun h => by omega, fun _ => ⟨_, rfl, HJ.out.1.size, Blk.new _ _ _⟩, fun h => by omega⟩, fun e he hne hF => hF.keep (he4.keepsT _) (fun _ => rfl) (fun _ => rfl) (fun h => absurd h hne) (fun _ => rfl)⟩
      · intro us W g R hg hJ hF
        simp only [List.mem_cons, List.mem_nil_iff, or_false] at hg
        subst hg
        obtain ⟨bb, h23⟩ := (hF 5 (by simp)).1 rfl
        obtain ⟨g, h24, hg1, hg2⟩ := (hF 7 (by simp)).2.1 rfl
        refine ⟨_, rfl, .agg #[.string p, .bool bb, .slice (some ⟨g, 0, none⟩) 0 0], upd us 25 (.agg #[.string p, .bool bb, .slice (some ⟨g, 0, none⟩) 0 0]), ⟨rfl, ?_⟩, rfl, ⟨fun h => by omega, fun h => by omega, fun h => by omega, fun _ => ⟨bb, g, rfl, hg1, hg2⟩⟩, fun e he hne hF => hF.keep (KeepsT.refl _ _) (fun _ => rfl) (fun _ => rfl) (fun _ => rfl) (fun h => absurd h hne)⟩
        intro W' _
        simp only [putAll, List.foldl]
        (try simp only [Act.put, List.setIfInBounds_toArray, List.set_cons_zero, List.set_cons_succ])
        rw [h23, h24]
        go_simp
      · intro us W hJ hF
        obtain ⟨bb, gi, h25, hg1, hg2⟩ := (hF 8 (by decide)).2.2.2 rfl
        obtain ⟨gx, h6, hx1, hx2⟩ := (hF 9 (by decide)).2.2.1 rfl
        have hRW : Rd rb W (q' + 1) := by have := hJ.2; simpa using this
        simp only [putAll, List.foldl]
        (try simp only [Act.put, List.setIfInBounds_toArray, List.set_cons_zero, List.set_cons_succ])
        rw [h6, h25]
        have HJ := Lib.hid hJ; have HRW := Lib.hid hRW; have Hg2 := Lib.hid hg2; have Hx2 := Lib.hid hx2
        have fz0 := hx2.frozen 0; have fz1 := hx2.frozen 1; have fz2 := hx2.frozen 2
        have cz0 := hx2.cell 0; have cz1 := hx2.cell 1; have cz2 := hx2.cell 2
        simp at cz0 cz1 cz2
        clear hJ hRW hg2 hx2 hF h25 h6
        (refine hw_nil ?_; simp only [List.drop_succ_cons, List.drop_zero])
        go_wp2
        refine NoPanic.normal ?_
        (try dsimp only [Exit.then])
        have hX : XI rb wr gx p bb [] (q' + 1) (.slice (some ⟨gi, 0, none⟩) 0 0) (((W.setCell ⟨gx, 0, none⟩ (.string p)).setCell ⟨gx, 1, none⟩ (.bool bb)).setCell ⟨gx, 2, none⟩ (.slice (some ⟨gi, 0, none⟩) 0 0)) := by
          have hgi : gi ≠ gx := Blk.ne_ Hg2.out Hx2.out (by decide)
          have b1 := ((Hx2.out.set_ 0 (.string p)).set_ 1 (.bool bb)).set_ 2 (.slice (some ⟨gi, 0, none⟩) 0 0)
          have b2 := ((Hg2.out.far (p := ⟨gx, 0, none⟩) hgi (.string p)).far (p := ⟨gx, 1, none⟩) hgi (.bool bb)).far (p := ⟨gx, 2, none⟩) hgi (.slice (some ⟨gi, 0, none⟩) 0 0)
          have k1 := KeepsT.set (i := 0) Hx2.out (.string p) rfl
          have k2 := KeepsT.set (i := 1) (Hx2.out.set_ 0 (.string p)) (.bool bb) rfl
          have k3 := KeepsT.set (i := 2) ((Hx2.out.set_ 0 (.string p)).set_ 1 (.bool bb)) (.slice (some ⟨gi, 0, none⟩) 0 0) rfl
          refine ⟨by simpa using b1, ⟨[], ⟨by simp, .inr ⟨gi, 0, #[], rfl, hg1, b2, Nat.le_refl _, Nat.zero_le _, by simp, by simp⟩⟩, fun k x h => by simp at h⟩, HRW.out.keepT (k1.trans (k2.trans k3)) (by decide) (HJ.out.1.low (((HJ.out.1.setNew hx1 _).setNew hx1 _).setNew hx1 _) (by have := heR.size; omega)), ((HJ.out.1.setNew hx1 _).setNew hx1 _).setNew hx1 _⟩
        generalize (((W.setCell ⟨gx, 0, none⟩ (.string p)).setCell ⟨gx, 1, none⟩ (.bool bb)).setCell ⟨gx, 2, none⟩ (.slice (some ⟨gi, 0, none⟩) 0 0)) = W1 at *
        have HX := Lib.hid hX
        have x1 := hX.1.cell 1
        simp at x1
        have hgr : gx ≠ rb := by omega
        clear hX fz0 fz1 fz2 cz0 cz1 cz2 HRW Hg2 Hx2
        cases bb with
        | true =>
          go_wp2_with fail
          refine (pick_c 3 HX.out.2.2.1 (by omega) (by omega)).mono ?_
          rintro e W5 ⟨v5, rfl, hv50, hv53, -, hR5, he5⟩
          have HX5 := Lib.hid (HX.out.pick hR5 he5 hgr)
          have HO5 := Lib.hid (out_keep HO.out HR.out HX5.out.2.2.2)
          have HP5 := Lib.hid (HPB.out W5 HX5.out.2.2.2)
          have HE5 := Lib.hid (heR.trans HX5.out.2.2.2)
          clear hR5 he5
          by_cases hv : 0 < v5
          · have hvd : decide (0 < v5) = true := by simpa using hv
            have y0 := HX5.out.1.cell 0
            have HI5 : Hid (Its w.heap.size W5 u3 l) := Lib.hid (HO5.out.sl (EIt_ok _) (Nat.le_refl _) (by unfold lim; omega))
            simp at y0
            go_wp2_with (first | (go_at_call 96; refine (l5Home_c p _ HI5.out hps).mono ?_; rintro e W6 ⟨rfl, he6⟩; have HX6 := Lib.hid (HX5.out.ext he6); have HO6 := Lib.hid (HO5.out.ext (EIt_ok _) he6); have HP6 := Lib.hid (HP5.out.ext he6); have HE6 := Lib.hid (HE5.out.extend he6); have z0 := HX6.out.1.cell 0; have z1 := HX6.out.1.cell 1; have z2 := HX6.out.1.cell 2; simp at z0 z1 z2; clear he6 y0; have HUI : Hid (Ints w.heap.size W6 (.slice (some ⟨gi, 0, none⟩) 0 0) []) := Lib.hid ((HX6.out.2.1.mono heR.size).sl eint_ok (Nat.le_refl _) (by simp))) | (at_builtin; go_must (refine wp_ap1G (B := w.heap.size) (by rfl) _ _ (by rfl) el_It (EIt_ok _) HE6.out.size _ l [⟨p, true, []⟩] (by rfl) HO6.out 1 1 rfl #[.string p, .bool true, (.slice (some ⟨gi, 0, none⟩) 0 0)] _ (by rfl) (by first | rfl | simp) rfl (one3 rfl) (one_E ⟨rfl, hps, rfl, _, rfl, HUI.out⟩) ?_ ?_)))
            · simp; unfold lim; omega
            · intro v7 w7 hO7 hg7 hk7
              have HO7 := Lib.hid hO7
              have HE7 : Hid (ExtR rb w w7) := Lib.hid ((HO6.out.ext (EIt_ok _) ((Ext.refl _).alloc _)).grown_extR (HE6.out.extend ((Ext.refl _).alloc _)) hg7)
              have HR7 : Hid (Rd rb w7 (q' + 1 + 1)) := Lib.hid (HX6.out.2.2.1.keepT hk7 (by decide) (HE6.out.low HE7.out hrb))
              have HP7 := Lib.hid (hk7 _ _ _ (by decide) HP6.out)
              clear hO7 hg7 hk7 z0 z1 z2
              go_wp2
              go_roundw
              case rel => exact ⟨k + 1, l ++ [⟨p, true, []⟩], _, by omega, by go_num, HO7.out, by simp; omega, HR7.out, by omega, by omega, HE7.out, HP7.out⟩
              case measure => simp [intOf]; omega
            · go_roundw
              case rel => exact ⟨k + 1, l, _, by omega, by go_num, HO6.out, by omega, HX6.out.2.2.1, by omega, by omega, HE6.out, HP6.out⟩
              case measure => simp [intOf]; omega
          · have hvd : decide (0 < v5) = false := by simpa using hv
            go_wp2
            go_roundw
            case rel => exact ⟨k + 1, l, _, by omega, by go_num, HO5.out, by omega, HX5.out.2.2.1, by omega, by omega, HE5.out, HP5.out⟩
            case measure => simp [intOf]; omega
        | false =>
          obtain ⟨wo, rfl⟩ : ∃ wo : World, wo = wr := ⟨_, rfl⟩
          go_wp2_with fail
          refine (pick_c 3 HX.out.2.2.1 (by omega) (by omega)).mono ?_
          rintro e W2 ⟨vn, rfl, hn0, hn3, -, hR2, he2⟩
          have HX2 := Lib.hid (HX.out.pick hR2 he2 hgr)
          obtain ⟨nv, rfl⟩ := Int.eq_ofNat_of_zero_le hn0
          have hnv : nv ≤ 2 := by have := hn3 (by omega); omega
          clear hR2 he2 x1 hn0 hn3
          go_wp2
          go_loopw [8] (fun i wr => ∃ (j : Nat) (ids : List Int) (q2 : Int) (u : Value), j ≤ nv ∧ i = .int .i64 j ∧ XI rb wo gx p false ids q2 u wr ∧ ids.length = j ∧ q' + 2 ≤ q2 ∧ q2 ≤ q' + 2 + j) (fun i _ => nv - (intOf i).toNat)
          case atStart => exact ⟨0, [], q' + 1 + 1, _, by omega, rfl, HX2.out, rfl, by omega, by omega⟩
          case round =>
            obtain ⟨j, ids, q2, u, hj, rfl, hXn, hil, hqa, hqb⟩ := hrel
            obtain ⟨Au, cu, hAu⟩ := hXn.2.1.form
            rw [hil] at hAu
            subst hAu
            have HXn := Lib.hid hXn
            have Hil := Lib.hid hil
            clear hXn hil
            by_cases hjl : j < nv
            · have u0 := fun W (e : ExtR rb wr W) => (e.blk HXn.out.1 hgr).cell 2
              simp at u0
              go_wp2
              refine wp_region_hold (fun W => W.cell? ⟨gx, 2, none⟩ = some (.slice Au j cu)) 6 [(0, true), (1, true), (2, true), (3, false), (4, true), (5, false)] (by kernel_rfl) (by kernel_rfl) ?_ ?_
              · exact u0 _ ((Ext.refl wr).drew.toR rb)
              (repeat (first | (apply hw_read (by rfl) (by rfl); (· (intro W hW; (try dsimp only at hW); go_simp; (first | done | rfl | (rw [if_pos] <;> first | omega | rfl)))); (try simp only [Act.put, List.setIfInBounds_toArray, List.set_cons_zero, List.set_cons_succ])) | (refine hw_skip (by rfl) (by rfl) ?_; (try simp only [Act.put, List.setIfInBounds_toArray, List.set_cons_zero, List.set_cons_succ]))))
              refine hw_step (by rfl) ?_
              go_wp2_with (go_at_call 76; refine (pick_c 6 (HXn.out.2.2.1.ext (Ext.refl wr).drew) (by omega) (by omega)).mono ?_; rintro e W3 ⟨v2, rfl, hv20, hv26, -, hR3, he3⟩)
              have he3' := ((Ext.refl wr).drew.toR rb).trans he3
              have HX3 := Lib.hid (HXn.out.pick hR3 he3' hgr)
              refine ⟨u0 _ he3', ?_⟩
              have hv2 := hv26 (by omega)
              have hw1 : IntKind.i64.wrap (1 + v2) = 1 + v2 := IntWalk.i64_in _ (by omega)
              (repeat (first | (apply hw_read (by rfl) (by rfl); (· (intro W hW; (try dsimp only at hW); go_simp; (first | done | rfl | (rw [if_pos] <;> first | omega | rfl)))); (try simp only [Act.put, List.setIfInBounds_toArray, List.set_cons_zero, List.set_cons_succ])) | (refine hw_skip (by rfl) (by rfl) ?_; (try simp only [Act.put, List.setIfInBounds_toArray, List.set_cons_zero, List.set_cons_succ]))))
              refine hw_step (by rfl) ?_
              go_wp2
              refine ⟨by have := ((he3'.extend ((Ext.refl W3).alloc (.cells #[.int .i64 (1 + v2)] 3)))); exact u0 _ this, ?_⟩
              clear hR3 he3 u0 hw1
              (refine hw_nil ?_; simp only [List.drop_succ_cons, List.drop_zero])
              go_wp2_with (at_builtin; go_must (refine wp_ap1G (B := wo.heap.size) (by rfl) _ _ (by rfl) el_int eint_ok HX3.out.2.2.2.size _ ids [1 + v2] (by rfl) HX3.out.2.1 1 1 rfl #[.int .i64 (1 + v2)] _ (by rfl) (by first | rfl | simp) rfl (one_cells rfl) (one_E ⟨rfl, by unfold inI; omega⟩) ?_ ?_))
              · have := Hil.out; simp; unfold lim; omega
              · intro v7 w7 hO7 hg7 hk7
                obtain ⟨A7, c7, hA7⟩ := hO7.form
                have hlen7 : (ids ++ [1 + v2]).length = j + 1 := by simp [Hil.out]
                rw [hlen7] at hA7
                subst hA7
                have hb7 := hk7 _ _ _ (by decide) HX3.out.1
                have HX7 := Lib.hid (XI.store hb7 hO7 (HX3.out.2.2.1.keepT hk7 (by decide) (HX3.out.2.2.2.low ((HX3.out.2.1.ext eint_ok ((Ext.refl W3).alloc _)).grown_extR (HX3.out.2.2.2.extend ((Ext.refl W3).alloc _)) hg7) (by have := heR.size; omega))) ((HX3.out.2.1.ext eint_ok ((Ext.refl W3).alloc _)).grown_extR (HX3.out.2.2.2.extend ((Ext.refl W3).alloc _)) hg7) hx1 (by have := heR.size; omega))
                have cz := hb7.cell 2; have fz := hb7.frozen 2
                simp at cz
                have Hl7 := Lib.hid hlen7
                clear hO7 hg7 hk7 hb7 hlen7
                go_wp2
                refine NoPanic.normal ?_
                (try dsimp only [Exit.then])
                go_wp2
                go_roundw
                case rel => exact ⟨j + 1, ids ++ [1 + v2], _, _, by omega, by go_num, HX7.out, Hl7.out, by omega, by omega⟩
                case measure => simp [intOf]; omega
            · have hje : j = nv := by omega
              subst hje
              go_wp2_with fail
              refine (pick_c 3 HXn.out.2.2.1 (by omega) (by omega)).mono ?_
              rintro e W5 ⟨v5, rfl, hv50, hv53, -, hR5, he5⟩
              have HX5 := Lib.hid (HXn.out.pick hR5 he5 hgr)
              have HO5 := Lib.hid (out_keep HO.out HR.out HX5.out.2.2.2)
              have HP5 := Lib.hid (HPB.out W5 HX5.out.2.2.2)
              have HE5 := Lib.hid (heR.trans HX5.out.2.2.2)
              clear hR5 he5
              by_cases hv : 0 < v5
              · have hvd : decide (0 < v5) = true := by simpa using hv
                have y0 := HX5.out.1.cell 0
                have HI5 : Hid (Its w.heap.size W5 u3 l) := Lib.hid (HO5.out.sl (EIt_ok _) (Nat.le_refl _) (by unfold lim; omega))
                simp at y0
                go_wp2_with (first | (go_at_call 96; refine (l5Home_c p _ HI5.out hps).mono ?_; rintro e W6 ⟨rfl, he6⟩; have HX6 := Lib.hid (HX5.out.ext he6); have HO6 := Lib.hid (HO5.out.ext (EIt_ok _) he6); have HP6 := Lib.hid (HP5.out.ext he6); have HE6 := Lib.hid (HE5.out.extend he6); have z0 := HX6.out.1.cell 0; have z1 := HX6.out.1.cell 1; have z2 := HX6.out.1.cell 2; simp at z0 z1 z2; clear he6 y0; have HUI : Hid (Ints w.heap.size W6 (.slice Au j cu) ids) := Lib.hid ((HX6.out.2.1.mono heR.size).sl eint_ok (Nat.le_refl _) (by have := Hil.out; unfold lim; omega))) | (at_builtin; go_must (refine wp_ap1G (B := w.heap.size) (by rfl) _ _ (by rfl) el_It (EIt_ok _) HE6.out.size _ l [⟨p, false, ids⟩] (by rfl) HO6.out 1 1 rfl #[.string p, .bool false, .slice Au j cu] _ (by rfl) (by first | rfl | simp) rfl (one3 rfl) (one_E ⟨rfl, hps, rfl, _, rfl, HUI.out⟩) ?_ ?_)))
                · simp; unfold lim; omega
                · intro v7 w7 hO7 hg7 hk7
                  have HO7 := Lib.hid hO7
                  have HE7 : Hid (ExtR rb w w7) := Lib.hid ((HO6.out.ext (EIt_ok _) ((Ext.refl _).alloc _)).grown_extR (HE6.out.extend ((Ext.refl _).alloc _)) hg7)
                  have HR7 : Hid (Rd rb w7 (q2 + 1)) := Lib.hid (HX6.out.2.2.1.keepT hk7 (by decide) (HE6.out.low HE7.out hrb))
                  have HP7 := Lib.hid (hk7 _ _ _ (by decide) HP6.out)
                  clear hO7 hg7 hk7 z0 z1 z2
                  go_wp2
                  go_roundw
                  case rel => exact ⟨k + 1, l ++ [⟨p, false, ids⟩], _, by omega, by go_num, HO7.out, by simp; omega, HR7.out, by omega, by omega, HE7.out, HP7.out⟩
                  case measure => simp [intOf]; omega
                · go_roundw
                  case rel => exact ⟨k + 1, l, _, by omega, by go_num, HO6.out, by omega, HX6.out.2.2.1, by omega, by omega, HE6.out, HP6.out⟩
                  case measure => simp [intOf]; omega
              · have hvd : decide (0 < v5) = false := by simpa using hv
                go_wp2
                go_roundw
                case rel => exact ⟨k + 1, l, _, by omega, by go_num, HO5.out, by omega, HX5.out.2.2.1, by omega, by omega, HE5.out, HP5.out⟩
                case measure => simp [intOf]; omega
    · have hke : k = 8 := by omega
      subst hke
      have HO := Lib.hid hO; have HR := Lib.hid hR; have HeR := Lib.hid heR
      clear hO hR hpbr
      go_wp2_with fail
      refine (pick_c 30 HR.out (by omega) (by omega)).mono ?_
      rintro e W5 ⟨v5, rfl, hv50, hv53, -, hR5, he5⟩
      have HO5 := Lib.hid (out_keep HO.out HR.out he5)
      have HE5 := Lib.hid (heR.trans he5)
      have HR5 := Lib.hid hR5
      clear hR5 he5
      by_cases h0 : v5 = 0
      · subst h0
        go_wp2_with (at_builtin; go_must (refine wp_ap1G (B := w.heap.size) (by rfl) _ _ (by rfl) el_It (EIt_ok _) HE5.out.size _ l [⟨⟨#[122, 111, 111, 47, 97]⟩, false, []⟩] (by rfl) HO5.out 1 1 rfl #[.string ⟨#[122, 111, 111, 47, 97]⟩, .bool false, .slice none 0 0] _ (by rfl) (by first | rfl | simp) rfl (one3 rfl) (one_E ⟨rfl, by decide, rfl, _, rfl, SlOf.nil _ _ _ _ _⟩) ?_ ?_))
        · simp; unfold lim; omega
        · intro v7 w7 hO7 hg7 hk7
          have HO7 := Lib.hid hO7
          have HE7 : Hid (ExtR rb w w7) := Lib.hid ((HO5.out.ext (EIt_ok _) ((Ext.refl _).alloc _)).grown_extR (HE5.out.extend ((Ext.refl _).alloc _)) hg7)
          have HR7 : Hid (Rd rb w7 (q' + 1)) := Lib.hid (HR5.out.keepT hk7 (by decide) (HE5.out.low HE7.out hrb))
          clear hO7 hg7 hk7
          go_wp2
          go_ret
          exact ⟨_, _, _, rfl, HO7.out, by simp; omega, HR7.out, by omega, by omega, HE7.out⟩
      · have e0 : (v5 == 0) = false := by rw [beq_eq_false_iff_ne]; exact h0
        by_cases h1 : v5 = 1
        · subst h1
          have HOa := Lib.hid (HO5.out.ext (EIt_ok _) ((Ext.refl W5).alloc (.cells #[.int .i64 1] 3)))
          have HEa := Lib.hid (HE5.out.extend ((Ext.refl W5).alloc (.cells #[.int .i64 1] 3)))
          have HRa := Lib.hid (HR5.out.ext ((Ext.refl W5).alloc (.cells #[.int .i64 1] 3)))
          have HIa : Hid (Ints w.heap.size (W5.alloc (.cells #[.int .i64 1] 3)) (.slice (some ⟨W5.heap.size, 0, none⟩) 1 1) [1]) := Lib.hid ⟨_, 1, rfl, Nat.le_refl _, ⟨by unfold maxLen; omega, fun h => by cases h⟩, by unfold lim; simp, fun k x hk => by
            cases k with
            | zero => simp at hk; subst hk; exact ⟨W5.heap.size, 0, _, rfl, HE5.out.size, Blk.new _ _ _, rfl, by unfold inI; omega⟩
            | succ k => simp at hk⟩
          go_wp2_with (at_builtin; go_must (refine wp_ap1G (B := w.heap.size) (by rfl) _ _ (by rfl) el_It (EIt_ok _) HEa.out.size _ l [⟨⟨#[122]⟩, true, [1]⟩] (by rfl) HOa.out 1 1 rfl #[.string ⟨#[122]⟩, .bool true, .slice (some ⟨W5.heap.size, 0, none⟩) 1 1] _ (by rfl) (by first | rfl | simp) rfl (one3 rfl) (one_E ⟨rfl, by decide, rfl, _, rfl, HIa.out⟩) ?_ ?_))
          · simp; unfold lim; omega
          · intro v7 w7 hO7 hg7 hk7
            have HO7 := Lib.hid hO7
            have HE7 : Hid (ExtR rb w w7) := Lib.hid ((HOa.out.ext (EIt_ok _) ((Ext.refl _).alloc _)).grown_extR (HEa.out.extend ((Ext.refl _).alloc _)) hg7)
            have HR7 : Hid (Rd rb w7 (q' + 1)) := Lib.hid (HRa.out.keepT hk7 (by decide) (HEa.out.low HE7.out hrb))
            clear hO7 hg7 hk7
            go_wp2
            go_ret
            exact ⟨_, _, _, rfl, HO7.out, by simp; omega, HR7.out, by omega, by omega, HE7.out⟩
        · have e1 : (v5 == 1) = false := by rw [beq_eq_false_iff_ne]; exact h1
          go_wp2
          go_ret
          exact ⟨_, _, _, rfl, HO5.out, by omega, HR5.out, by omega, by omega, HE5.out⟩
end Go.Sf

/-! Two trees are drawn. -/
namespace Go.Sf
open Go Go.RowKit Go.Proofs
/-- an item's blocks are exchanged in place -/
theorem SlIn.setIds {B : Nat} {W : World} {g o c i : Nat} {l : List It} {x : It} {u : Value} {ids : List Int} (h : SlIn B 32 3 (EIt B) W (some ⟨g, o, none⟩) c l) (hx : l[i]? = some x) (hu : Ints B W u ids) :
    SlIn B 32 3 (EIt B) (W.setCell ⟨g, o + i * 3 + 2, none⟩ u) (some ⟨g, o, none⟩) c (l.set i ⟨x.path, x.dir, ids⟩) ∧ B ≤ g := by
  obtain ⟨h1, h2, h3, h4⟩ := h
  obtain ⟨b0, o0, cs0, e1, e2, e3, e4⟩ := h4 i x hx
  simp only [Option.some.injEq, Addr.mk.injEq, and_true] at e1
  obtain ⟨rfl, rfl⟩ := e1
  have hk := KeepsT.set (i := o + i * 3 + 2) e3 u rfl
  refine ⟨⟨by simpa using h1, h2, by simpa using h3, fun k y hy => ?_⟩, e2⟩
  have hb := e3.set_ (o + i * 3 + 2) u
  by_cases hki : i = k
  · subst hki
    rw [List.getElem?_set_self (lt_of_get hx)] at hy
    obtain rfl := (Option.some.inj hy)
    obtain ⟨a0, a1, a2, u2, a3, a4⟩ := e4
    refine ⟨g, o, _, rfl, e2, hb, ?_, a1, ?_, u, ?_, hu.keepT hk (by decide)⟩
    · rw [Array.getElem?_setIfInBounds_ne (by omega)]; exact a0
    · rw [Array.getElem?_setIfInBounds_ne (by omega)]; exact a2
    · rw [Array.getElem?_setIfInBounds_self_of_lt (Array.getElem?_eq_some_iff.1 a3).1]
  · rw [List.getElem?_set_ne hki] at hy
    obtain ⟨b1, o1, cs1, f1, f2, f3, f4⟩ := h4 k y hy
    simp only [Option.some.injEq, Addr.mk.injEq, and_true] at f1
    obtain ⟨rfl, rfl⟩ := f1
    have hcs : cs1 = cs0 := by
      unfold Blk at e3 f3
      rw [e3] at f3
      simp only [Option.some.injEq, Obj.cells.injEq] at f3
      exact f3.1.symm
    subst hcs
    obtain ⟨a0, a1, a2, u2, a3, a4⟩ := f4
    refine ⟨g, o, _, rfl, e2, hb, ?_, a1, ?_, u2, ?_, a4.keepT hk (by decide)⟩
    · rw [Array.getElem?_setIfInBounds_ne (by omega)]; exact a0
    · rw [Array.getElem?_setIfInBounds_ne (by omega)]; exact a2
    · rw [Array.getElem?_setIfInBounds_ne (by omega)]; exact a3
theorem Its.blk {B : Nat} {w : World} {A : Option Addr} {c : Nat} {l : List It} (h : SlIn B 32 3 (EIt B) w A c l) {k : Nat} {x : It} (hx : l[k]? = some x) :
    ∃ g o u, A = some ⟨g, o, none⟩ ∧ (∀ W, Ext w W → W.cell? ⟨g, o + k * 3 + 2, none⟩ = some u) ∧ (∀ W, Ext w W → W.frozen? ⟨g, o + k * 3 + 2, none⟩ = false) := by
  obtain ⟨b, o, cs, rfl, hb, hB, h0, g0, h1, ⟨u2, h2, g2⟩⟩ := h.2.2.2 k x hx
  exact ⟨b, o, u2, rfl, hB.at_ h2, fun W e => (hB.ext e).frozen _⟩
/-- what a drawing of two trees leaves -/
def DrewTT (rb : Nat) (w : World) (q : Int) (e : Ending) (w' : World) : Prop :=
  ∃ va vb la lb q', e = .returned (.tuple #[va, vb]) ∧ Its w.heap.size w' va la ∧ Its w.heap.size w' vb lb ∧ la.length ≤ 9 ∧ lb.length ≤ 9 ∧ Rd rb w' q' ∧ q ≤ q' ∧ q' ≤ q + 300 ∧ ExtR rb w w'
theorem its_R {rb B : Nat} {w w' : World} {v : Value} {l : List It} {q : Int} (h : Its B w v l) (hR : Rd rb w q) (e : ExtR rb w w') : Its B w' v l := h.keepT (hR.keepsT e) (by decide) (by decide)
def TwoRel (rb : Nat) (wa : World) (q : Int) (v i : Value) (wr : World) : Prop :=
  ∃ (z : Int) (l : List It) (q' : Int), i = .int .i64 z ∧ -1 ≤ z ∧ z < l.length ∧ l.length ≤ 9 ∧ Its wa.heap.size wr v l ∧ Rd rb wr q' ∧ q ≤ q' ∧ q' ≤ q + 2 * (8 - z) ∧ ExtR rb wa wr
set_option maxRecDepth 4000 in
set_option maxHeartbeats 4000000 in
theorem l92Two_c {rb : Nat} {w : World} {q : Int} (h : Rd rb w q) (hq : q ≤ 10000000000) : Calls Tryz.prog 64 #[.pointer (some ⟨rb, 0, none⟩)] w (DrewTT rb w q) := by
  have hrb := h.lt
  have H := Lib.hid h
  clear h
  go_enter Tryz.func64, Tryz.ntmps64
  go_wp2_with fail
  refine (l91Tree_c H.out (by omega) hrb).mono ?_
  rintro e w1 ⟨va, la, q1, rfl, hOa, hla, hR1, hq1, hq2, he1⟩
  have HOa := Lib.hid hOa
  have HR1 := Lib.hid hR1
  have HE1 := Lib.hid he1
  clear hOa hR1 he1
  go_wp2_with fail
  refine (pick_c 3 HR1.out (by omega) (by omega)).mono ?_
  rintro e w2 ⟨v, rfl, hv0, hv3, -, hR2, he2⟩
  have HR2 := Lib.hid hR2
  have HIa : Hid (Its w.heap.size w2 va la) := Lib.hid (its_R (HOa.out.sl (EIt_ok _) (Nat.le_refl _) (by unfold lim; omega)) HR1.out he2)
  have HE2 := Lib.hid (HE1.out.trans he2)
  clear hR2 he2 HOa
  by_cases hv : v = 0
  · subst hv
    go_wp2_with fail
    refine (l91Tree_c HR2.out (by omega) HR2.out.lt).mono ?_
    rintro e w3 ⟨vb, lb, q3, rfl, hOb, hlb, hR3, hq3, hq4, he3⟩
    have HIa3 := Lib.hid (its_R HIa.out HR2.out he3)
    have HIb3 : Hid (Its w.heap.size w3 vb lb) := Lib.hid (Its.keep (hOb.sl (EIt_ok _) (Nat.le_refl _) (by unfold lim; omega)) HE2.out.size (fun _ _ _ => rfl))
    have HE3 := Lib.hid (HE2.out.trans he3)
    have HR3 := Lib.hid hR3
    clear hOb hR3 he3
    go_wp2
    go_ret2
    exact ⟨_, _, _, _, _, rfl, HIa3.out, HIb3.out, hla, hlb, HR3.out, by omega, by omega, HE3.out⟩
  · have hve : (v == 0) = false := by rw [beq_eq_false_iff_ne]; exact hv
    go_wp2_with fail
    refine (l5All_c _ HIa.out).mono ?_
    rintro e w3 ⟨vb, rfl, hOb, he3⟩
    have hIb : Its w2.heap.size w3 vb la := hOb.sl (EIt_ok _) (Nat.le_refl _) (by unfold lim; omega)
    have HIb := Lib.hid hIb
    have HR3 := Lib.hid (HR2.out.ext he3)
    have HE23 := Lib.hid (he3.toR rb)
    have HIa3 := Lib.hid (HIa.out.ext he3)
    obtain ⟨Ab, cb, rfl, -⟩ := hIb
    have hw1 : IntKind.i64.wrap ((la.length : Int) - 1) = (la.length : Int) - 1 := IntWalk.i64_in _ (by omega)
    clear hOb he3
    go_wp2_with fail
    go_loopw [5, 6] (fun v i wr => TwoRel rb w2 (q1 + 1) v i wr) (fun _ i _ => (intOf i + 1).toNat)
    case atStart => exact ⟨_, la, _, rfl, by omega, by omega, hla, HIb.out, HR3.out, by omega, by omega, HE23.out⟩
    case round =>
      obtain ⟨z, l, q', rfl, hz1, hz2, hl9, hI, hR, hqa, hqb, heR⟩ := hrel
      have HI := Lib.hid hI; have HR := Lib.hid hR; have HE := Lib.hid heR
      clear hI hR heR hw1
      by_cases hz0 : 0 ≤ z
      · obtain ⟨j, rfl⟩ := Int.eq_ofNat_of_zero_le hz0
        obtain ⟨x, hx⟩ := get_of_lt (l := l) (k := j) (by omega)
        go_wp2_with fail
        refine (pick_c 5 HR.out (by omega) (by omega)).mono ?_
        rintro e w4 ⟨v4, rfl, hv40, hv45, -, hR4, he4⟩
        have HR4 := Lib.hid hR4
        have hI4 := its_R HI.out HR.out he4
        have HI4 := Lib.hid hI4
        have HE4 := Lib.hid (HE.out.trans he4)
        obtain ⟨A4, c4, rfl, hS4⟩ := hI4
        obtain ⟨g, o, u2, rfl, hgB, hgl, hps, ⟨A2, c2, rfl, hu2⟩, hc0, hc1, hc2⟩ := Its.at_ hS4 hx
        have HS4 := Lib.hid hS4
        have Hx := Lib.hid hx
        have hll : l.length ≤ 9 := hl9
        have hjl : (j : Int) < (l.length : Int) := by omega
        have hwj : IntKind.i64.wrap (j : Int) = (j : Int) := IntWalk.i64_in _ (by omega)
        have a1 := hc1 w4 (Ext.refl _)
        have a0 := hc0 w4 (Ext.refl _)
        clear hR4 he4 hS4 hx hc0 hu2
        by_cases h0 : v4 = 0
        · subst h0
          cases hd : x.dir with
          | true =>
            rw [hd] at a1
            go_wp2
            exact ⟨⟨(j : Int) - 1, l, q' + 1, rfl, by omega, by omega, hl9, HI4.out, HR4.out, by omega, by omega, HE4.out⟩, by simp only [intOf]; omega⟩
          | false =>
            rw [hd] at a1
            have Hd := Lib.hid hd
            clear hd
            go_wp2_with (go_at_call 76; refine (pick_c 6 HR4.out (by omega) (by omega)).mono ?_; rintro e w5 ⟨v5, rfl, hv50, hv56, -, hR5, he5⟩; have hv5 := hv56 (by omega); have HR5 := Lib.hid hR5; have HE5 := Lib.hid (HE4.out.trans he5); have HS5 := Lib.hid (HS4.out.keepT (HR4.out.keepsT he5) (by decide) (fun _ _ _ h => h.keepT (HR4.out.keepsT he5) (by decide))); obtain ⟨g', o', u', hgo, cz, fz⟩ := Its.blk HS5.out Hx.out; simp only [Option.some.injEq, Addr.mk.injEq, and_true] at hgo; obtain ⟨rfl, rfl⟩ := hgo; clear hR5 he5)
            · have hset := SlIn.setIds (HS5.out.ext ((Ext.refl w5).alloc (.cells #[.int .i64 (1 + v5)] 3)) (fun _ _ _ h => h.keep (Nat.le_refl _) (((Ext.refl w5).alloc _).keeps _))) Hx.out (u := .slice (some ⟨w5.heap.size, 0, none⟩) 1 1) (ids := [1 + v5])
                ⟨_, 1, rfl, Nat.le_refl _, ⟨by unfold maxLen; omega, fun h => by cases h⟩, by unfold lim; simp, fun k x hk => by
                  cases k with
                  | zero => simp at hk; subst hk; exact ⟨w5.heap.size, 0, _, rfl, HE5.out.size, Blk.new _ _ _, rfl, by unfold inI; omega⟩
                  | succ k => simp at hk⟩
              obtain ⟨hset, hgB⟩ := hset
              have hkT : KeepsT 32 (w5.alloc (.cells #[.int .i64 (1 + v5)] 3)) ((w5.alloc (.cells #[.int .i64 (1 + v5)] 3)).setCell ⟨g, o + j * 3 + 2, none⟩ (.slice (some ⟨w5.heap.size, 0, none⟩) 1 1)) := by
                obtain ⟨b, o1, cs, he, -, hb, -⟩ := HS5.out.2.2.2 j x Hx.out
                simp only [Option.some.injEq, Addr.mk.injEq, and_true] at he
                obtain ⟨rfl, rfl⟩ := he
                exact KeepsT.set (hb.alloc _) _ rfl
              exact ⟨⟨(j : Int) - 1, l.set j ⟨x.path, x.dir, [1 + v5]⟩, q' + 1 + 1, rfl, by omega, by simp; omega, by simpa using hl9, ⟨_, _, by simp, hset⟩, (HR5.out.ext ((Ext.refl w5).alloc _)).keepT hkT (by decide) ((HE5.out.extend ((Ext.refl w5).alloc _)).low ((HE5.out.extend ((Ext.refl w5).alloc _)).setNew hgB _) HR2.out.lt), by omega, by omega, (HE5.out.extend ((Ext.refl w5).alloc _)).setNew hgB _⟩, by simp only [intOf]; omega⟩
            · exact ⟨⟨(j : Int) - 1, l, q' + 1, rfl, by omega, by omega, hl9, HI4.out, HR4.out, by omega, by omega, HE4.out⟩, by simp only [intOf]; omega⟩
        · have e0 : (v4 == 0) = false := by rw [beq_eq_false_iff_ne]; exact h0
          by_cases h1 : v4 = 1
          · subst h1
            go_wp2_with fail
            refine (specTreeDrop_c x.path _ HI4.out).mono ?_
            rintro e w5 ⟨r, rfl, ⟨vx, rfl, hIx⟩, he5⟩
            have hlx : (treeDrop l x.path).isSome = true → ((treeDrop l x.path).getD []).length + 1 = l.length := fun h => by
              unfold treeDrop at h ⊢
              split at h
              · next hc =>
                rw [if_pos hc]
                simp only [Option.getD_some]
                have : (atPath l x.path).toNat < l.length := by
                  rcases atG_find (pathIs x.path) l 0 with ⟨-, h2⟩ | ⟨i, y, hi, -, -, h2, -⟩
                  · have := hc.2.1; rw [atPath, h2] at this; omega
                  · have := lt_of_get hi; rw [atPath, h2]; omega
                rw [List.length_eraseIdx, if_pos this]; omega
              · cases h
            have HIx : Hid (Its w2.heap.size w5 vx ((treeDrop l x.path).getD [])) := Lib.hid (hIx.keep HE4.out.size (fun _ _ _ => rfl))
            have HR5 := Lib.hid (HR4.out.ext he5)
            have HE5 := Lib.hid (HE4.out.extend he5)
            have HI5 := Lib.hid (HI4.out.ext he5)
            clear hIx he5
            cases hs : (treeDrop l x.path).isSome with
            | true =>
              have hl1 := hlx hs
              clear hs hlx
              generalize (treeDrop l x.path).getD [] = lx at *
              go_wp2
              exact ⟨⟨(j : Int) - 1, lx, q' + 1, rfl, by omega, by omega, by omega, HIx.out, HR5.out, by omega, by omega, HE5.out⟩, by simp only [intOf]; omega⟩
            | false =>
              clear hlx hs
              go_wp2
              exact ⟨⟨(j : Int) - 1, l, q' + 1, rfl, by omega, by omega, hl9, HI5.out, HR5.out, by omega, by omega, HE5.out⟩, by simp only [intOf]; omega⟩
          · have e1 : (v4 == 1) = false := by rw [beq_eq_false_iff_ne]; exact h1
            go_wp2
            exact ⟨⟨(j : Int) - 1, l, q' + 1, rfl, by omega, by omega, hl9, HI4.out, HR4.out, by omega, by omega, HE4.out⟩, by simp only [intOf]; omega⟩
      · have hze : z = -1 := by omega
        subst hze
        have HE0 := HE.out
        have HE := Lib.hid (HE2.out.trans HE0)
        have HIb2 : Hid (Its w.heap.size wr u5 l) := Lib.hid (HI.out.keep HE2.out.size (fun _ _ _ => rfl))
        have HIa2 : Hid (Its w.heap.size wr va la) := Lib.hid (its_R HIa.out HR2.out HE0)
        go_wp2
        go_ret2
        exact ⟨_, _, _, _, _, rfl, HIa2.out, HIb2.out, hla, hl9, HR.out, by omega, by omega, HE.out⟩
end Go.Sf

/-! DrawChangesOf; ChangesCount. -/
namespace Go.Sf
open Go Go.RowKit Go.Proofs
def DrewP (w : World) (e : Ending) (w' : World) : Prop := ∃ va vb la lb, e = .returned (.tuple #[va, vb]) ∧ Its w.heap.size w' va la ∧ Its w.heap.size w' vb lb ∧ la.length ≤ 9 ∧ lb.length ≤ 9 ∧ Ext w w'
set_option maxHeartbeats 1000000 in
theorem DrawChangesOf_c {v : Value} {xs : List Int} (w : World) (h : Bys w v xs) : Calls Tryz.prog 32 #[v] w (DrewP w) := by
  go_enter Tryz.func32, Tryz.ntmps32
  go_wp2_with fail
  refine (l6Open_c w h).mono ?_
  rintro e w1 ⟨rb, rfl, hrb, -, hR, he1⟩
  have HR := Lib.hid hR
  clear hR h
  go_wp2_with fail
  refine (l92Two_c HR.out (by omega)).mono ?_
  rintro e w2 ⟨va, vb, la, lb, q', rfl, hIa, hIb, hla, hlb, -, -, -, he2⟩
  have HIa : Hid (Its w.heap.size w2 va la) := Lib.hid (hIa.keep he1.size (fun _ _ _ => rfl))
  have HIb : Hid (Its w.heap.size w2 vb lb) := Lib.hid (hIb.keep he1.size (fun _ _ _ => rfl))
  have HE : Hid (Ext w w2) := Lib.hid (he2.ext he1 hrb)
  clear hIa hIb he1 he2
  go_wp2
  go_ret2
  exact ⟨_, _, _, _, rfl, HIa.out, HIb.out, hla, hlb, HE.out⟩
/-- how many changes are of a kind -/
def cntK (k : Int) (L : List Ch) : Nat := (L.filter fun c => decide (c.kind = k)).length
theorem cntK_le (k : Int) (L : List Ch) : cntK k L ≤ L.length := List.length_filter_le _ _
theorem cntK_snoc (k : Int) (L : List Ch) (c : Ch) : cntK k (L ++ [c]) = cntK k L + if c.kind = k then 1 else 0 := by
  unfold cntK; rw [List.filter_append, List.length_append]
  congr 1
  by_cases h : c.kind = k <;> simp [h]
def kindsOk (L : List Ch) : Prop := ∀ c, c ∈ L → c.kind = 1 ∨ c.kind = 2 ∨ c.kind = 3
def CntRel (w : World) (L : List Ch) (i : Value) (wr : World) : Prop :=
  ∃ k : Nat, k ≤ L.length ∧ i = .int .i64 k ∧ Ext w wr ∧ Blk wr w.heap.size 3 #[.int .i64 (cntK 1 (L.take k) : Nat), .int .i64 (cntK 2 (L.take k) : Nat), .int .i64 (cntK 3 (L.take k) : Nat)]
end Go.Sf

/-! Plain laws of the changes between two trees. -/
namespace Go.Sf
theorem blt_asym {a b : ByteArray} (h : blt a b = true) : blt b a = false := by
  cases hb : blt b a with
  | false => rfl
  | true => have := blt_trans h hb; rw [blt_irrefl] at this; cases this
/-- how chg goes through two lists -/
theorem chg_ind {M : List It → List It → Prop} (h0 : M [] []) (h1 : ∀ a az, M az [] → M (a :: az) []) (h2 : ∀ b bz, M [] bz → M [] (b :: bz))
    (h3 : ∀ a az b bz, blt a.path b.path = true → M az (b :: bz) → M (a :: az) (b :: bz))
    (h4 : ∀ a az b bz, blt a.path b.path = false → blt b.path a.path = true → M (a :: az) bz → M (a :: az) (b :: bz))
    (h5 : ∀ a az b bz, blt a.path b.path = false → blt b.path a.path = false → M az bz → M (a :: az) (b :: bz)) : ∀ n a b, a.length + b.length ≤ n → M a b := by
  intro n
  induction n with
  | zero =>
    intro a b h
    cases a with
    | nil => cases b with
      | nil => exact h0
      | cons => simp at h
    | cons => simp at h
  | succ n ih =>
    intro a b h
    cases a with
    | nil => cases b with
      | nil => exact h0
      | cons b bz => exact h2 _ _ (ih _ _ (by simp at h ⊢; omega))
    | cons a az => cases b with
      | nil => exact h1 _ _ (ih _ _ (by simp at h ⊢; omega))
      | cons b bz =>
        cases k1 : blt a.path b.path with
        | true => exact h3 _ _ _ _ k1 (ih _ _ (by simp at h ⊢; omega))
        | false =>
          cases k2 : blt b.path a.path with
          | true => exact h4 _ _ _ _ k1 k2 (ih _ _ (by simp at h ⊢; omega))
          | false => exact h5 _ _ _ _ k1 k2 (ih _ _ (by simp at h ⊢; omega))
theorem cntK_nil (k : Int) : cntK k [] = 0 := rfl
theorem cntK_cons (k : Int) (c : Ch) (L : List Ch) : cntK k (c :: L) = (if c.kind = k then 1 else 0) + cntK k L := by
  unfold cntK
  by_cases h : c.kind = k
  · simp [h]; omega
  · simp [h]
def SwapOk (a b : List It) : Prop := cntK 1 (chg a b) = cntK 2 (chg b a) ∧ cntK 2 (chg a b) = cntK 1 (chg b a) ∧ cntK 3 (chg a b) = cntK 3 (chg b a) ∧ (chg a b).length = (chg b a).length
theorem chg_swap (a b : List It) : SwapOk a b := by
  refine chg_ind (M := SwapOk) ?_ ?_ ?_ ?_ ?_ ?_ _ a b (Nat.le_refl _)
  · simp [SwapOk, chg_nil, cntK_nil]
  · rintro a az ⟨e1, e2, e3, e4⟩
    simp [SwapOk, chg_left, chg_right, cntK_cons, e1, e2, e3, e4]
  · rintro a az ⟨e1, e2, e3, e4⟩
    simp [SwapOk, chg_left, chg_right, cntK_cons, e1, e2, e3, e4]
  · rintro a az b bz h ⟨e1, e2, e3, e4⟩
    simp [SwapOk, chg_lt _ _ h, chg_gt _ _ (blt_asym h) h, cntK_cons, e1, e2, e3, e4]
  · rintro a az b bz h h' ⟨e1, e2, e3, e4⟩
    simp [SwapOk, chg_lt _ _ h', chg_gt _ _ h h', cntK_cons, e1, e2, e3, e4]
  · rintro a az b bz h h' ⟨e1, e2, e3, e4⟩
    by_cases hd : a.dir = b.dir
    · cases he : eqb a b with
      | true =>
        have he' : eqb b a = true := eqb_true.2 (eqb_true.1 he).symm
        simp [SwapOk, chg_same _ _ h h' hd he, chg_same _ _ h' h hd.symm he', e1, e2, e3, e4]
      | false =>
        have he' : eqb b a = false := eqb_false.2 (fun q => eqb_false.1 he q.symm)
        simp [SwapOk, chg_other _ _ h h' hd he, chg_other _ _ h' h hd.symm he', cntK_cons, e1, e2, e3, e4]
    · have hd' : ¬ b.dir = a.dir := fun q => hd q.symm
      simp [SwapOk, chg_two _ _ h h' hd, chg_two _ _ h' h hd', cntK_cons, e1, e2, e3, e4]
theorem chg_new (b : List It) : chg [] b = b.map (fun x => ⟨1, x⟩) := by
  induction b with
  | nil => exact chg_nil
  | cons b bz ih => rw [chg_right, ih]; rfl
theorem chg_gone (b : List It) : chg b [] = b.map (fun x => ⟨2, x⟩) := by
  induction b with
  | nil => exact chg_nil
  | cons b bz ih => rw [chg_left, ih]; rfl
theorem cntK_map (k : Int) (b : List It) : cntK k (b.map (fun x => ⟨k, x⟩)) = b.length := by
  induction b with
  | nil => rfl
  | cons b bz ih => rw [List.map_cons, cntK_cons, ih]; simp; omega
theorem treeOk_nil : treeOk [] = true := treeOk_iff.2 ⟨by simp, fun k x h => by simp at h⟩
theorem chgOf_new {b : List It} (h : treeOk b = true) : chgOf [] b = some (b.map (fun x => ⟨1, x⟩)) := by
  rw [chgOf, if_pos ⟨treeOk_nil, h⟩, chg_new]
theorem chgOf_gone {b : List It} (h : treeOk b = true) : chgOf b [] = some (b.map (fun x => ⟨2, x⟩)) := by
  rw [chgOf, if_pos ⟨h, treeOk_nil⟩, chg_gone]
theorem chg_self (a : List It) : chg a a = [] := by
  induction a with
  | nil => exact chg_nil
  | cons a az ih => rw [chg_same az az (blt_irrefl _) (blt_irrefl _) rfl (eqb_true.2 rfl), ih]
theorem chg_eq_nil (a b : List It) : chg a b = [] → a = b := by
  refine chg_ind (M := fun a b => chg a b = [] → a = b) ?_ ?_ ?_ ?_ ?_ ?_ _ a b (Nat.le_refl _)
  · intro _; rfl
  · intro a az _ h; rw [chg_left] at h; cases h
  · intro a az _ h; rw [chg_right] at h; cases h
  · intro a az b bz h _ k; rw [chg_lt _ _ h] at k; cases k
  · intro a az b bz h h' _ k; rw [chg_gt _ _ h h'] at k; cases k
  · intro a az b bz h h' ih k
    by_cases hd : a.dir = b.dir
    · cases he : eqb a b with
      | true =>
        rw [chg_same _ _ h h' hd he] at k
        rw [eqb_true.1 he, ih k]
      | false => rw [chg_other _ _ h h' hd he] at k; cases k
    · rw [chg_two _ _ h h' hd] at k; cases k
theorem chg_nil_iff {a b : List It} : chg a b = [] ↔ a = b := ⟨chg_eq_nil a b, by rintro rfl; exact chg_self a⟩
theorem chgOf_some {a b : List It} {L : List Ch} (h : chgOf a b = some L) : treeOk a = true ∧ treeOk b = true ∧ L = chg a b := by
  unfold chgOf at h
  split at h
  · rename_i k; exact ⟨k.1, k.2, (Option.some.inj h).symm⟩
  · cases h
theorem chgOf_of {a b : List It} (h : treeOk a = true) (k : treeOk b = true) : chgOf a b = some (chg a b) := by rw [chgOf, if_pos ⟨h, k⟩]
/-- what a change says of the two trees -/
def ChSays (a b : List It) (c : Ch) : Prop :=
  (c.kind = 1 ∧ c.item ∈ b) ∨ (c.kind = 2 ∧ c.item ∈ a) ∨ (c.kind = 3 ∧ c.item ∈ b ∧ ∃ x, x ∈ a ∧ x.path = c.item.path ∧ x.dir = c.item.dir ∧ x ≠ c.item)
theorem ChSays.mono {a b a' b' : List It} {c : Ch} (h : ChSays a b c) (ha : ∀ x, x ∈ a → x ∈ a') (hb : ∀ x, x ∈ b → x ∈ b') : ChSays a' b' c := by
  rcases h with ⟨k, h⟩ | ⟨k, h⟩ | ⟨k, h, x, hx, e⟩
  · exact .inl ⟨k, hb _ h⟩
  · exact .inr (.inl ⟨k, ha _ h⟩)
  · exact .inr (.inr ⟨k, hb _ h, x, ha _ hx, e⟩)
theorem chg_says (a b : List It) : ∀ c, c ∈ chg a b → ChSays a b c := by
  have tl : ∀ (x : It) (l : List It) y, y ∈ l → y ∈ x :: l := fun x l y h => List.mem_cons_of_mem _ h
  have id' : ∀ (l : List It) y, y ∈ l → y ∈ l := fun l y h => h
  refine chg_ind (M := fun a b => ∀ c, c ∈ chg a b → ChSays a b c) ?_ ?_ ?_ ?_ ?_ ?_ _ a b (Nat.le_refl _)
  · intro c h; rw [chg_nil] at h; cases h
  · intro a az ih c h
    rw [chg_left] at h
    rcases List.mem_cons.1 h with rfl | h
    · exact .inr (.inl ⟨rfl, List.mem_cons_self⟩)
    · exact (ih c h).mono (tl _ _) (id' _)
  · intro b bz ih c h
    rw [chg_right] at h
    rcases List.mem_cons.1 h with rfl | h
    · exact .inl ⟨rfl, List.mem_cons_self⟩
    · exact (ih c h).mono (id' _) (tl _ _)
  · intro a az b bz k ih c h
    rw [chg_lt _ _ k] at h
    rcases List.mem_cons.1 h with rfl | h
    · exact .inr (.inl ⟨rfl, List.mem_cons_self⟩)
    · exact (ih c h).mono (tl _ _) (id' _)
  · intro a az b bz k k' ih c h
    rw [chg_gt _ _ k k'] at h
    rcases List.mem_cons.1 h with rfl | h
    · exact .inl ⟨rfl, List.mem_cons_self⟩
    · exact (ih c h).mono (id' _) (tl _ _)
  · intro a az b bz k k' ih c h
    have hp : a.path = b.path := blt_total k k'
    by_cases hd : a.dir = b.dir
    · cases he : eqb a b with
      | true => rw [chg_same _ _ k k' hd he] at h; exact (ih c h).mono (tl _ _) (tl _ _)
      | false =>
        rw [chg_other _ _ k k' hd he] at h
        rcases List.mem_cons.1 h with rfl | h
        · exact .inr (.inr ⟨rfl, List.mem_cons_self, a, List.mem_cons_self, hp, hd, eqb_false.1 he⟩)
        · exact (ih c h).mono (tl _ _) (tl _ _)
    · rw [chg_two _ _ k k' hd] at h
      rcases List.mem_cons.1 h with rfl | h
      · exact .inr (.inl ⟨rfl, List.mem_cons_self⟩)
      · rcases List.mem_cons.1 h with rfl | h
        · exact .inl ⟨rfl, List.mem_cons_self⟩
        · exact (ih c h).mono (tl _ _) (tl _ _)
theorem kindsOk_chg (a b : List It) : kindsOk (chg a b) := by
  intro c h
  rcases chg_says a b c h with h | h | h
  · exact .inl h.1
  · exact .inr (.inl h.1)
  · exact .inr (.inr h.1)
theorem kindsOk_of {a b : List It} {L : List Ch} (h : chgOf a b = some L) : kindsOk L := by
  rw [(chgOf_some h).2.2]; exact kindsOk_chg a b
theorem kindsOk_getD (a b : List It) : kindsOk ((chgOf a b).getD []) := by
  cases h : chgOf a b with
  | none => intro c hc; cases hc
  | some L => exact kindsOk_of h
theorem chgOf_swap_isSome (a b : List It) : (chgOf b a).isSome = (chgOf a b).isSome := by
  unfold chgOf
  by_cases h : treeOk a = true <;> by_cases k : treeOk b = true <;> simp [h, k]
end Go.Sf
