/- The program's changes of two trees. -/
import Derived.Test.YtfpkllihfcgmaaaDoorT20
import Derived.Test.YtfpkllihfcgmaaaDoorT19
import Derived.Test.YtfpkllihfcgmaaaDoorT18
import Derived.Test.YtfpkllihfcgmaaaDoorT7
namespace Go.Sf
open Go Go.RowKit Go.Proofs
theorem as_nn (v : Value) (w : World) : (Instr.typeAssert (.iface 83 v) 57 83 true).run Tryd.prog w = .ok (.tuple #[v, .bool true]) w := by kernel_rfl
theorem as_gn (v : Value) (w : World) : (Instr.typeAssert (.iface 82 v) 57 83 true).run Tryd.prog w = .ok (.tuple #[.agg #[.string ByteArray.empty, .bool false, .slice none 0 0], .bool false]) w := by kernel_rfl
theorem as_on (v : Value) (w : World) : (Instr.typeAssert (.iface 84 v) 57 83 true).run Tryd.prog w = .ok (.tuple #[.agg #[.string ByteArray.empty, .bool false, .slice none 0 0], .bool false]) w := by kernel_rfl
theorem as_gg (v : Value) (w : World) : (Instr.typeAssert (.iface 82 v) 57 82 true).run Tryd.prog w = .ok (.tuple #[v, .bool true]) w := by kernel_rfl
theorem as_og (v : Value) (w : World) : (Instr.typeAssert (.iface 84 v) 57 82 true).run Tryd.prog w = .ok (.tuple #[.agg #[.string ByteArray.empty, .bool false, .slice none 0 0], .bool false]) w := by kernel_rfl
set_option maxRecDepth 8000 in
set_option maxHeartbeats 1000000 in
theorem kindOf_c (k : Int) (x : It) (A : Option Addr) (n c : Nat) (w : World) (hk : k = 1 ∨ k = 2 ∨ k = 3) : Calls Tryd.prog 28 #[chgV k x (.slice A n c)] w (Ret (.int .i64 k) w) := by
  have q1 := as_nn; have q2 := as_gn; have q3 := as_on; have q4 := as_gg; have q5 := as_og
  rcases hk with rfl | rfl | rfl
  · show Calls Tryd.prog 28 #[.iface 83 (.agg #[.string x.path, .bool x.dir, .slice A n c])] w _
    go_enter Tryd.func28, Tryd.ntmps28
    go_wp2
    go_ret
    exact ⟨rfl, Ext.refl w⟩
  · show Calls Tryd.prog 28 #[.iface 82 (.agg #[.string x.path, .bool x.dir, .slice A n c])] w _
    go_enter Tryd.func28, Tryd.ntmps28
    go_wp2
    go_ret
    exact ⟨rfl, Ext.refl w⟩
  · show Calls Tryd.prog 28 #[.iface 84 (.agg #[.string x.path, .bool x.dir, .slice A n c])] w _
    go_enter Tryd.func28, Tryd.ntmps28
    go_wp2
    go_ret
    exact ⟨rfl, Ext.refl w⟩
set_option maxHeartbeats 1000000 in
theorem newItem_c (x : It) (A : Option Addr) (n c : Nat) (w : World) : Calls Tryd.prog 115 #[.agg #[.string x.path, .bool x.dir, .slice A n c]] w (Ret (.agg #[.string x.path, .bool x.dir, .slice A n c]) w) := by
  go_enter Tryd.func115, Tryd.ntmps115
  go_wp2
  exact bodyPost_ret (v := .agg #[.string x.path, .bool x.dir, .slice A n c]) (by simp [results, Tryd.results115, go_sem]) rfl ⟨rfl, ((Ext.refl w).alloc _).alloc _⟩
set_option maxHeartbeats 1000000 in
theorem goneItem_c (x : It) (A : Option Addr) (n c : Nat) (w : World) : Calls Tryd.prog 114 #[.agg #[.string x.path, .bool x.dir, .slice A n c]] w (Ret (.agg #[.string x.path, .bool x.dir, .slice A n c]) w) := by
  go_enter Tryd.func114, Tryd.ntmps114
  go_wp2
  exact bodyPost_ret (v := .agg #[.string x.path, .bool x.dir, .slice A n c]) (by simp [results, Tryd.results114, go_sem]) rfl ⟨rfl, ((Ext.refl w).alloc _).alloc _⟩
set_option maxHeartbeats 1000000 in
theorem otherItem_c (x : It) (A : Option Addr) (n c : Nat) (w : World) : Calls Tryd.prog 116 #[.agg #[.string x.path, .bool x.dir, .slice A n c]] w (Ret (.agg #[.string x.path, .bool x.dir, .slice A n c]) w) := by
  go_enter Tryd.func116, Tryd.ntmps116
  go_wp2
  exact bodyPost_ret (v := .agg #[.string x.path, .bool x.dir, .slice A n c]) (by simp [results, Tryd.results116, go_sem]) rfl ⟨rfl, ((Ext.refl w).alloc _).alloc _⟩

theorem OptChs.nil_ {B : Nat} {w : World} {o : Option (List Ch)} (h : o = none) : OptChs B o (.tuple #[.slice none 0 0, .bool false]) w := by
  subst h; exact ⟨_, rfl, SlOf.nil _ _ _ _ _⟩
theorem OptChs.some_ {B : Nat} {w : World} {o : Option (List Ch)} {L : List Ch} {v : Value} (h : o = some L) (hs : Chs B w v L) : OptChs B o (.tuple #[v, .bool true]) w := by
  subst h; exact ⟨_, rfl, hs⟩
/-- a method's call through an interface, its function found -/
theorem upon_item {P : Program} {o : Oper} {a : Act} {K : Act → World → Prop} {Q : Exit → Act → World → Prop} {n f : Nat} {T : TypeId} {nm : String} {v : Value} {W : World}
    (hm : (method n T v nm).run P W = .ok (f, v) W) (hf : (callFunc f #[v]).run P W = .ok (.enter f #[v]) W) (hc : Calls P f #[v] W (Ret v W)) (h : ∀ w', Ext W w' → K (a.put o.dst v) w') :
    Oper.upon P o a K Q ((Sem.run P (method n T v nm) W).andThen fun a w' => Sem.run P (callFunc a.fst #[a.snd]) w') := by
  rw [hm]
  show Oper.upon P o a K Q (Sem.run P (callFunc f #[v]) W)
  rw [hf]
  refine Calls.mono hc ?_
  rintro e w' ⟨rfl, he⟩
  exact h w' he
theorem chg_len : ∀ (n : Nat) (l1 l2 : List It), l1.length + l2.length ≤ n → (chg l1 l2).length ≤ l1.length + l2.length := by
  intro n
  induction n with
  | zero =>
    intro l1 l2 h
    rw [List.length_eq_zero_iff.1 (by omega : l1.length = 0), List.length_eq_zero_iff.1 (by omega : l2.length = 0), chg_nil]; simp
  | succ n ih =>
    intro l1 l2 h
    cases l1 with
    | nil =>
      cases l2 with
      | nil => rw [chg_nil]; simp
      | cons b bz => rw [chg_right]; have := ih [] bz (by simp at h ⊢; omega); simp at this ⊢; omega
    | cons a az =>
      cases l2 with
      | nil => rw [chg_left]; have := ih az [] (by simp at h ⊢; omega); simp at this ⊢; omega
      | cons b bz =>
        simp only [List.length_cons] at h ⊢
        rw [chg]
        have h1 := ih az (b :: bz) (by simp; omega)
        have h2 := ih (a :: az) bz (by simp; omega)
        have h3 := ih az bz (by omega)
        simp only [List.length_cons] at h1 h2
        repeat' split
        all_goals (try simp only [List.length_cons])
        all_goals omega
set_option maxRecDepth 8000 in
set_option maxHeartbeats 2000000 in
theorem ChangesOf_c {B : Nat} {v1 v2 : Value} {l1 l2 : List It} (w : World) (h1 : Its B w v1 l1) (h2 : Its B w v2 l2) (hm : ML w) :
    Calls Tryd.prog 9 #[v1, v2] w (RetP (OptChs w.heap.size (chgOf l1 l2)) w) := by
  have H1 := Lib.hid h1
  have H2 := Lib.hid h2
  have HM := Lib.hid hm
  clear h1 h2 hm
  cases ht1 : treeOk l1 with
  | false =>
    have Hd : Hid (chgOf l1 l2 = none) := Lib.hid (by simp [chgOf, ht1])
    have Ht1 := Lib.hid ht1; clear ht1
    go_enter Tryd.func9, Tryd.ntmps9
    go_wp2_with fail
    refine (openTree_c w H1.out HM.out).mono ?_
    rintro e w1 ⟨he1, ⟨-, rfl⟩ | ⟨ht, -⟩⟩
    · go_wp2
      go_ret2
      exact ⟨_, rfl, OptChs.nil_ Hd.out, he1⟩
    · rw [Ht1.out] at ht; cases ht
  | true =>
  cases ht2 : treeOk l2 with
  | false =>
    have Hd : Hid (chgOf l1 l2 = none) := Lib.hid (by simp [chgOf, ht2])
    have Ht1 := Lib.hid ht1; clear ht1
    have Ht2 := Lib.hid ht2; clear ht2
    go_enter Tryd.func9, Tryd.ntmps9
    go_wp2_with fail
    refine (openTree_c w H1.out HM.out).mono ?_
    rintro e w1 ⟨he1, ⟨ht, -⟩ | ⟨-, adr1, kv1, rfl, hT1⟩⟩
    · rw [Ht1.out] at ht; cases ht
    have HT1 := Lib.hid hT1; clear hT1
    go_wp2_with fail
    refine (openTree_c w1 (H2.out.ext he1) (HM.out.ext he1)).mono ?_
    rintro e w2 ⟨he2, ⟨-, rfl⟩ | ⟨ht, -⟩⟩
    · go_wp2
      go_ret2
      exact ⟨_, rfl, OptChs.nil_ Hd.out, he1.trans he2⟩
    · rw [Ht2.out] at ht; cases ht
  | true =>
  have Hd : Hid (chgOf l1 l2 = some (chg l1 l2)) := Lib.hid (by simp [chgOf, ht1, ht2])
  have hg1 := treeOk_iff'.1 ht1
  have hg2 := treeOk_iff'.1 ht2
  have HG1 := Lib.hid hg1
  have HG2 := Lib.hid hg2
  have Ht1 := Lib.hid ht1; clear ht1
  have Ht2 := Lib.hid ht2; clear ht2
  clear hg1 hg2
  go_enter Tryd.func9, Tryd.ntmps9
  go_wp2_with fail
  refine (openTree_c w H1.out HM.out).mono ?_
  rintro e w1 ⟨he1, ⟨ht, -⟩ | ⟨-, adr1, kv1, rfl, hT1⟩⟩
  · rw [Ht1.out] at ht; cases ht
  have HT1 := Lib.hid hT1; clear hT1
  go_wp2_with fail
  refine (openTree_c w1 (H2.out.ext he1) (HM.out.ext he1)).mono ?_
  rintro e w2 ⟨he2, ⟨ht, -⟩ | ⟨-, adr2, kv2, rfl, hT2⟩⟩
  · rw [Ht2.out] at ht; cases ht
  have HT2 := Lib.hid hT2; clear hT2
  go_wp2_with fail
  refine (list_c (HT1.out.ext he2) HG1.out.2 HG1.out.1).mono ?_
  rintro e w3 ⟨v3, rfl, hI3, he3⟩
  have HI3 : Hid (Its w.heap.size w3 v3 l1) := Lib.hid (hI3.keep (he1.trans he2).size (fun _ _ _ => rfl))
  clear hI3
  go_wp2_with fail
  refine (list_c (HT2.out.ext he3) HG2.out.2 HG2.out.1).mono ?_
  rintro e w4 ⟨v4, rfl, hI4, he4⟩
  have HI4 : Hid (Its w.heap.size w4 v4 l2) := Lib.hid (hI4.keep ((he1.trans he2).trans he3).size (fun _ _ _ => rfl))
  clear hI4
  go_wp2_with fail
  refine (changesBetween_c w4 (HI3.out.ext he4) HI4.out (by have := HG1.out.1; have := HG2.out.1; omega)).mono ?_
  rintro e w5 ⟨v5, rfl, hO5, he5⟩
  have hn : (chg l1 l2).length ≤ 24 := by
    have := chg_len _ l1 l2 (Nat.le_refl _)
    have := HG1.out.1; have := HG2.out.1; omega
  have he6 := (((he1.trans he2).trans he3).trans he4).trans he5
  obtain ⟨A5, c5, rfl⟩ := hO5.form
  have HO5 := Lib.hid hO5
  have HL : Hid (∀ k c, (chg l1 l2)[k]? = some c → c ∈ chg l1 l2) := Lib.hid fun k c h => List.mem_of_getElem? h
  clear hO5
  generalize hL : chg l1 l2 = L at *
  have HeL := Lib.hid hL; clear hL
  generalize hm : L.length = m at *
  have Hm := Lib.hid hm; clear hm
  clear he1 he2 he3 he4 he5
  go_wp2
  go_loopw [9, 32] (fun v i wr => ∃ k : Nat, k ≤ m ∧ i = .int .i64 k ∧ Ext w5 wr ∧ OwnS w5.heap.size 39 4 (ECh w.heap.size) wr v (L.take k)) (fun _ i _ => m - (intOf i).toNat)
  case atStart => exact ⟨0, by omega, rfl, Ext.refl _, OwnS.nil _ _ _ _ _⟩
  case round =>
    obtain ⟨k, hk, rfl, he, hO⟩ := hrel
    by_cases hlt : k < m
    · obtain ⟨ch, hch⟩ := get_of_lt (l := L) (k := k) (by rw [Hm.out]; exact hlt)
      obtain ⟨g, c', cs, hv, hg, hbl, hkd, hps, u, hcell, hu⟩ := HO5.out.at_ (ECg_ok _) hch
      rw [Nat.mul_one] at hcell
      injection hv with hv1 hvx hv2
      clear hvx
      subst hv1; subst hv2
      obtain ⟨Au, cu, rfl, hAu⟩ := hu
      have Hu : Hid (∀ W, Ext wr W → Ints w.heap.size W (.slice Au ch.item.ids.length cu) ch.item.ids) := Lib.hid fun W e => Ints.ext ⟨_, _, rfl, hAu⟩ (he.trans e)
      have hc0 := hbl.at_ hcell wr he
      have Hx := Lib.hid (take_succ_get hch)
      have HO := Lib.hid hO
      have Hbl := Lib.hid hbl
      clear hbl hcell hAu hO hch
      obtain ⟨kd, it⟩ := ch
      simp only at hkd hps hc0 Hu
      have Ck : ∀ W, Calls Tryd.prog 28 #[chgV kd it (.slice Au it.ids.length cu)] W (Ret (.int .i64 kd) W) := fun W => kindOf_c _ _ _ _ _ W hkd
      rcases hkd with rfl | rfl | rfl
      · change wr.cell? _ = some (.iface 83 (.agg #[.string it.path, .bool it.dir, .slice Au it.ids.length cu])) at hc0
        change ∀ W, Calls Tryd.prog 28 #[.iface 83 (.agg #[.string it.path, .bool it.dir, .slice Au it.ids.length cu])] W (Ret (.int .i64 1) W) at Ck
        go_wp2_with (go_at_call 28; refine (Ck _).mono ?_; rintro e w6 ⟨rfl, he7⟩)
        refine upon_item (f := 115) (by kernel_rfl) (by kernel_rfl) (newItem_c it _ _ _ _) ?_
        intro w7 he8
        have he9 := he.trans (he7.trans he8)
        have HO9 := Lib.hid (HO.out.ext (ECh_ok _) (he7.trans he8))
        have he11 := he7.trans he8
        clear he7 he8 Ck hc0
        go_wp2_with (at_builtin; go_must (refine wp_ap1 (w0 := w5) (by rfl) _ _ (by rfl) el_Ch (ECh_ok _) he9 _ (L.take k) [⟨1, it⟩] (by rfl) HO9.out 1 1 rfl #[.int .i64 1, .string it.path, .bool it.dir, .slice Au it.ids.length cu] _ (by rfl) (by first | rfl | simp) rfl (one4 rfl) (one_E (ech_of_v (by unfold inI; omega) hps (Hu.out _ he11))) ?_ ?_))
        · simp; unfold lim; omega
        · intro v' w' hO' he' hk'
          have HO' := Lib.hid hO'
          clear hO' hk'
          go_wp2
          go_roundw
          case rel => exact ⟨k + 1, by omega, by go_num, he', by rw [Hx.out]; exact HO'.out⟩
          case measure => simp [intOf]; omega
      · change wr.cell? _ = some (.iface 82 (.agg #[.string it.path, .bool it.dir, .slice Au it.ids.length cu])) at hc0
        change ∀ W, Calls Tryd.prog 28 #[.iface 82 (.agg #[.string it.path, .bool it.dir, .slice Au it.ids.length cu])] W (Ret (.int .i64 2) W) at Ck
        go_wp2_with (go_at_call 28; refine (Ck _).mono ?_; rintro e w6 ⟨rfl, he7⟩)
        refine upon_item (f := 114) (by kernel_rfl) (by kernel_rfl) (goneItem_c it _ _ _ _) ?_
        intro w7 he8
        have he9 := he.trans (he7.trans he8)
        have HO9 := Lib.hid (HO.out.ext (ECh_ok _) (he7.trans he8))
        have he11 := he7.trans he8
        clear he7 he8 Ck hc0
        go_wp2_with (at_builtin; go_must (refine wp_ap1 (w0 := w5) (by rfl) _ _ (by rfl) el_Ch (ECh_ok _) he9 _ (L.take k) [⟨2, it⟩] (by rfl) HO9.out 1 1 rfl #[.int .i64 2, .string it.path, .bool it.dir, .slice Au it.ids.length cu] _ (by rfl) (by first | rfl | simp) rfl (one4 rfl) (one_E (ech_of_v (by unfold inI; omega) hps (Hu.out _ he11))) ?_ ?_))
        · simp; unfold lim; omega
        · intro v' w' hO' he' hk'
          have HO' := Lib.hid hO'
          clear hO' hk'
          go_wp2
          go_roundw
          case rel => exact ⟨k + 1, by omega, by go_num, he', by rw [Hx.out]; exact HO'.out⟩
          case measure => simp [intOf]; omega
      · change wr.cell? _ = some (.iface 84 (.agg #[.string it.path, .bool it.dir, .slice Au it.ids.length cu])) at hc0
        change ∀ W, Calls Tryd.prog 28 #[.iface 84 (.agg #[.string it.path, .bool it.dir, .slice Au it.ids.length cu])] W (Ret (.int .i64 3) W) at Ck
        go_wp2_with (go_at_call 28; refine (Ck _).mono ?_; rintro e w6 ⟨rfl, he7⟩)
        refine upon_item (f := 116) (by kernel_rfl) (by kernel_rfl) (otherItem_c it _ _ _ _) ?_
        intro w7 he8
        have he9 := he.trans (he7.trans he8)
        have HO9 := Lib.hid (HO.out.ext (ECh_ok _) (he7.trans he8))
        have he11 := he7.trans he8
        clear he7 he8 Ck hc0
        go_wp2_with (at_builtin; go_must (refine wp_ap1 (w0 := w5) (by rfl) _ _ (by rfl) el_Ch (ECh_ok _) he9 _ (L.take k) [⟨3, it⟩] (by rfl) HO9.out 1 1 rfl #[.int .i64 3, .string it.path, .bool it.dir, .slice Au it.ids.length cu] _ (by rfl) (by first | rfl | simp) rfl (one4 rfl) (one_E (ech_of_v (by unfold inI; omega) hps (Hu.out _ he11))) ?_ ?_))
        · simp; unfold lim; omega
        · intro v' w' hO' he' hk'
          have HO' := Lib.hid hO'
          clear hO' hk'
          go_wp2
          go_roundw
          case rel => exact ⟨k + 1, by omega, by go_num, he', by rw [Hx.out]; exact HO'.out⟩
          case measure => simp [intOf]; omega
    · have hks : k = m := by omega
      subst hks
      have e : L.take k = L := List.take_of_length_le (by rw [Hm.out]; omega)
      rw [e] at hO
      have HO := Lib.hid hO
      clear hO e
      go_wp2
      go_ret2
      exact ⟨_, rfl, OptChs.some_ (L := L) Hd.out ((HO.out.mono (Ext.size he6)).sl (ECh_ok _) (Nat.le_refl _) (by rw [Hm.out]; unfold lim; omega)), he6.trans he⟩
end Go.Sf
