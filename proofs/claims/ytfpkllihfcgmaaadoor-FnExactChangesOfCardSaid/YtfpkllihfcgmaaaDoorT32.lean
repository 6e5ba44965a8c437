/- The program's changes of two trees, each one's ids told apart. -/
import Derived.Test.YtfpkllihfcgmaaaDoorT31
namespace Go.Sf
open Go Go.RowKit Go.Proofs
/-- the answer's list, each change's ids in a block of its own -/
def OptChsU (B : Nat) (o : Option (List Ch)) (v : Value) (w : World) : Prop := ∃ u L, v = .tuple #[u, .bool o.isSome] ∧ L.map Prod.fst = o.getD [] ∧ ChsU B w u L ∧ Sep L
theorem OptChsU.nil_ {B : Nat} {w : World} {o : Option (List Ch)} (h : o = none) : OptChsU B o (.tuple #[.slice none 0 0, .bool false]) w := by
  subst h; exact ⟨_, [], rfl, rfl, SlOf.nil _ _ _ _ _, List.Pairwise.nil⟩
theorem OptChsU.some_ {B : Nat} {w : World} {o : Option (List Ch)} {L : List (Ch × Value)} {v : Value} (h : o = some (L.map Prod.fst)) (hs : ChsU B w v L) (hp : Sep L) : OptChsU B o (.tuple #[v, .bool true]) w := by
  subst h; exact ⟨_, L, rfl, rfl, hs, hp⟩
theorem echU_of {B : Nat} {w : World} {k : Int} {x : It} {u : Value} (h0 : inI k) (h1 : x.path.size < lim) (h2 : Ints B w u x.ids) : EChU B w #[.int .i64 k, .string x.path, .bool x.dir, u] 0 (⟨k, x⟩, u) := ⟨rfl, h0, rfl, h1, rfl, rfl, h2⟩
set_option maxRecDepth 8000 in
set_option maxHeartbeats 2000000 in
theorem ChangesOfU_c {B : Nat} {v1 v2 : Value} {l1 l2 : List It} (w : World) (h1 : Its B w v1 l1) (h2 : Its B w v2 l2) (hm : ML w) :
    Calls Tryd.prog 9 #[v1, v2] w (RetP (OptChsU w.heap.size (chgOf l1 l2)) w) := by
  have H1 := Lib.hid h1
  have H2 := Lib.hid h2
  have HM := Lib.hid hm
  clear h1 h2 hm
  cases ht1 : treeOk l1 with
  | false =>
    have Hd : Hid (chgOf l1 l2 = none) := Lib.hid (by simp [chgOf, ht1])
    have Ht1 := Lib.hid ht1; clear ht1
    go_enter Tryd.func9, Tryd.ntmps9
    go_wp2_with fail
    refine (openTree_c w H1.out HM.out).mono ?_
    rintro e w1 ⟨he1, ⟨-, rfl⟩ | ⟨ht, -⟩⟩
    · go_wp2
      go_ret2
      exact ⟨_, rfl, OptChsU.nil_ Hd.out, he1⟩
    · rw [Ht1.out] at ht; cases ht
  | true =>
  cases ht2 : treeOk l2 with
  | false =>
    have Hd : Hid (chgOf l1 l2 = none) := Lib.hid (by simp [chgOf, ht2])
    have Ht1 := Lib.hid ht1; clear ht1
    have Ht2 := Lib.hid ht2; clear ht2
    go_enter Tryd.func9, Tryd.ntmps9
    go_wp2_with fail
    refine (openTree_c w H1.out HM.out).mono ?_
    rintro e w1 ⟨he1, ⟨ht, -⟩ | ⟨-, adr1, kv1, rfl, hT1⟩⟩
    · rw [Ht1.out] at ht; cases ht
    have HT1 := Lib.hid hT1; clear hT1
    go_wp2_with fail
    refine (openTree_c w1 (H2.out.ext he1) (HM.out.ext he1)).mono ?_
    rintro e w2 ⟨he2, ⟨-, rfl⟩ | ⟨ht, -⟩⟩
    · go_wp2
      go_ret2
      exact ⟨_, rfl, OptChsU.nil_ Hd.out, he1.trans he2⟩
    · rw [Ht2.out] at ht; cases ht
  | true =>
  have Hd : Hid (chgOf l1 l2 = some (chg l1 l2)) := Lib.hid (by simp [chgOf, ht1, ht2])
  have hg1 := treeOk_iff'.1 ht1
  have hg2 := treeOk_iff'.1 ht2
  have HG1 := Lib.hid hg1
  have HG2 := Lib.hid hg2
  have Ht1 := Lib.hid ht1; clear ht1
  have Ht2 := Lib.hid ht2; clear ht2
  clear hg1 hg2
  go_enter Tryd.func9, Tryd.ntmps9
  go_wp2_with fail
  refine (openTree_c w H1.out HM.out).mono ?_
  rintro e w1 ⟨he1, ⟨ht, -⟩ | ⟨-, adr1, kv1, rfl, hT1⟩⟩
  · rw [Ht1.out] at ht; cases ht
  have HT1 := Lib.hid hT1; clear hT1
  go_wp2_with fail
  refine (openTree_c w1 (H2.out.ext he1) (HM.out.ext he1)).mono ?_
  rintro e w2 ⟨he2, ⟨ht, -⟩ | ⟨-, adr2, kv2, rfl, hT2⟩⟩
  · rw [Ht2.out] at ht; cases ht
  have HT2 := Lib.hid hT2; clear hT2
  go_wp2_with fail
  refine (listU_c (HT1.out.ext he2) HG1.out.2 HG1.out.1).mono ?_
  rintro e w3 ⟨v3, rfl, ⟨lu1, hm1, hI3, hS3, hW3⟩, he3⟩
  have HI3 : Hid (ItsU w.heap.size w3 v3 lu1) := Lib.hid (hI3.keep (he1.trans he2).size (fun _ _ _ => rfl))
  have HS3 := Lib.hid (And.intro hS3 hW3); have Hm1 := Lib.hid hm1
  clear hI3 hS3 hW3 hm1
  go_wp2_with fail
  refine (listU_c (HT2.out.ext he3) HG2.out.2 HG2.out.1).mono ?_
  rintro e w4 ⟨v4, rfl, ⟨lu2, hm2, hI4, hS4, hW4⟩, he4⟩
  have HI4 : Hid (ItsU w.heap.size w4 v4 lu2) := Lib.hid (hI4.keep ((he1.trans he2).trans he3).size (fun _ _ _ => rfl))
  have Hm2 := Lib.hid hm2
  have Hsep : Hid (Sep (chgU lu1 lu2)) := Lib.hid (chgU_sep _ _ _ (Nat.le_refl _) HS3.out.1 hS4 fun p hp q hq g hg hg' => by
    have h1 := (HS3.out.2 p hp g hg).2; have h2 := (hW4 q hq g hg').1
    omega)
  have hl1 : lu1.length = l1.length := by rw [← Hm1.out, List.length_map]
  have hl2 : lu2.length = l2.length := by rw [← hm2, List.length_map]
  have Hl1 := Lib.hid hl1; have Hl2 := Lib.hid hl2
  clear hI4 hS4 hW4 HS3 hm2 hl1 hl2
  go_wp2_with fail
  refine (changesBetweenU_c w4 (HI3.out.ext he4) HI4.out (by have := HG1.out.1; have := HG2.out.1; have := Hl1.out; have := Hl2.out; omega)).mono ?_
  rintro e w5 ⟨v5, rfl, hO5, he5⟩
  have Hf : Hid ((chgU lu1 lu2).map Prod.fst = chg l1 l2) := Lib.hid (by rw [chgU_fst _ _ _ (Nat.le_refl _), Hm1.out, Hm2.out])
  have hn : (chgU lu1 lu2).length ≤ 24 := by
    rw [← List.length_map (f := Prod.fst), Hf.out]
    have := chg_len _ l1 l2 (Nat.le_refl _)
    have := HG1.out.1; have := HG2.out.1; omega
  have he6 := (((he1.trans he2).trans he3).trans he4).trans he5
  obtain ⟨A5, c5, rfl⟩ := hO5.form
  have HO5 := Lib.hid hO5
  clear hO5
  clear Hm1 Hm2 Hl1 Hl2
  generalize chgU lu1 lu2 = L at *
  generalize hm : L.length = m at *
  have Hm := Lib.hid hm; clear hm
  clear he1 he2 he3 he4 he5
  go_wp2
  go_loopw [9, 32] (fun v i wr => ∃ k : Nat, k ≤ m ∧ i = .int .i64 k ∧ Ext w5 wr ∧ OwnS w5.heap.size 39 4 (EChU w.heap.size) wr v (L.take k)) (fun _ i _ => m - (intOf i).toNat)
  case atStart => exact ⟨0, by omega, rfl, Ext.refl _, OwnS.nil _ _ _ _ _⟩
  case round =>
    obtain ⟨k, hk, rfl, he, hO⟩ := hrel
    by_cases hlt : k < m
    · obtain ⟨ch, hch⟩ := get_of_lt (l := L) (k := k) (by rw [Hm.out]; exact hlt)
      obtain ⟨ch, uu⟩ := ch
      obtain ⟨g, c', cs, hv, hg, hbl, hkd, hps, hcell, hu⟩ := HO5.out.at_ (ECgU_ok _) hch
      simp only at hkd hps hcell hu
      rw [Nat.mul_one] at hcell
      injection hv with hv1 hvx hv2
      clear hvx
      subst hv1; subst hv2
      obtain ⟨Au, cu, rfl, hAu⟩ := hu
      have Hu : Hid (∀ W, Ext wr W → Ints w.heap.size W (.slice Au ch.item.ids.length cu) ch.item.ids) := Lib.hid fun W e => Ints.ext ⟨_, _, rfl, hAu⟩ (he.trans e)
      have hc0 := hbl.at_ hcell wr he
      have Hx := Lib.hid (take_succ_get hch)
      have HO := Lib.hid hO
      have Hbl := Lib.hid hbl
      clear hbl hcell hAu hO hch
      obtain ⟨kd, it⟩ := ch
      simp only at hkd hps hc0 Hu
      have Ck : ∀ W, Calls Tryd.prog 28 #[chgV kd it (.slice Au it.ids.length cu)] W (Ret (.int .i64 kd) W) := fun W => kindOf_c _ _ _ _ _ W hkd
      rcases hkd with rfl | rfl | rfl
      · change wr.cell? _ = some (.iface 83 (.agg #[.string it.path, .bool it.dir, .slice Au it.ids.length cu])) at hc0
        change ∀ W, Calls Tryd.prog 28 #[.iface 83 (.agg #[.string it.path, .bool it.dir, .slice Au it.ids.length cu])] W (Ret (.int .i64 1) W) at Ck
        go_wp2_with (go_at_call 28; refine (Ck _).mono ?_; rintro e w6 ⟨rfl, he7⟩)
        refine upon_item (f := 115) (by kernel_rfl) (by kernel_rfl) (newItem_c it _ _ _ _) ?_
        intro w7 he8
        have he9 := he.trans (he7.trans he8)
        have HO9 := Lib.hid (HO.out.ext (EChU_ok _) (he7.trans he8))
        have he11 := he7.trans he8
        clear he7 he8 Ck hc0
        go_wp2_with (at_builtin; go_must (refine wp_ap1 (w0 := w5) (by rfl) _ _ (by rfl) el_Ch (EChU_ok _) he9 _ (L.take k) [(⟨1, it⟩, .slice Au it.ids.length cu)] (by rfl) HO9.out 1 1 rfl #[.int .i64 1, .string it.path, .bool it.dir, .slice Au it.ids.length cu] _ (by rfl) (by first | rfl | simp) rfl (one4 rfl) (one_E (echU_of (by unfold inI; omega) hps (Hu.out _ he11))) ?_ ?_))
        · simp; unfold lim; omega
        · intro v' w' hO' he' hk'
          have HO' := Lib.hid hO'
          clear hO' hk'
          go_wp2
          go_roundw
          case rel => exact ⟨k + 1, by omega, by go_num, he', by rw [Hx.out]; exact HO'.out⟩
          case measure => simp [intOf]; omega
      · change wr.cell? _ = some (.iface 82 (.agg #[.string it.path, .bool it.dir, .slice Au it.ids.length cu])) at hc0
        change ∀ W, Calls Tryd.prog 28 #[.iface 82 (.agg #[.string it.path, .bool it.dir, .slice Au it.ids.length cu])] W (Ret (.int .i64 2) W) at Ck
        go_wp2_with (go_at_call 28; refine (Ck _).mono ?_; rintro e w6 ⟨rfl, he7⟩)
        refine upon_item (f := 114) (by kernel_rfl) (by kernel_rfl) (goneItem_c it _ _ _ _) ?_
        intro w7 he8
        have he9 := he.trans (he7.trans he8)
        have HO9 := Lib.hid (HO.out.ext (EChU_ok _) (he7.trans he8))
        have he11 := he7.trans he8
        clear he7 he8 Ck hc0
        go_wp2_with (at_builtin; go_must (refine wp_ap1 (w0 := w5) (by rfl) _ _ (by rfl) el_Ch (EChU_ok _) he9 _ (L.take k) [(⟨2, it⟩, .slice Au it.ids.length cu)] (by rfl) HO9.out 1 1 rfl #[.int .i64 2, .string it.path, .bool it.dir, .slice Au it.ids.length cu] _ (by rfl) (by first | rfl | simp) rfl (one4 rfl) (one_E (echU_of (by unfold inI; omega) hps (Hu.out _ he11))) ?_ ?_))
        · simp; unfold lim; omega
        · intro v' w' hO' he' hk'
          have HO' := Lib.hid hO'
          clear hO' hk'
          go_wp2
          go_roundw
          case rel => exact ⟨k + 1, by omega, by go_num, he', by rw [Hx.out]; exact HO'.out⟩
          case measure => simp [intOf]; omega
      · change wr.cell? _ = some (.iface 84 (.agg #[.string it.path, .bool it.dir, .slice Au it.ids.length cu])) at hc0
        change ∀ W, Calls Tryd.prog 28 #[.iface 84 (.agg #[.string it.path, .bool it.dir, .slice Au it.ids.length cu])] W (Ret (.int .i64 3) W) at Ck
        go_wp2_with (go_at_call 28; refine (Ck _).mono ?_; rintro e w6 ⟨rfl, he7⟩)
        refine upon_item (f := 116) (by kernel_rfl) (by kernel_rfl) (otherItem_c it _ _ _ _) ?_
        intro w7 he8
        have he9 := he.trans (he7.trans he8)
        have HO9 := Lib.hid (HO.out.ext (EChU_ok _) (he7.trans he8))
        have he11 := he7.trans he8
        clear he7 he8 Ck hc0
        go_wp2_with (at_builtin; go_must (refine wp_ap1 (w0 := w5) (by rfl) _ _ (by rfl) el_Ch (EChU_ok _) he9 _ (L.take k) [(⟨3, it⟩, .slice Au it.ids.length cu)] (by rfl) HO9.out 1 1 rfl #[.int .i64 3, .string it.path, .bool it.dir, .slice Au it.ids.length cu] _ (by rfl) (by first | rfl | simp) rfl (one4 rfl) (one_E (echU_of (by unfold inI; omega) hps (Hu.out _ he11))) ?_ ?_))
        · simp; unfold lim; omega
        · intro v' w' hO' he' hk'
          have HO' := Lib.hid hO'
          clear hO' hk'
          go_wp2
          go_roundw
          case rel => exact ⟨k + 1, by omega, by go_num, he', by rw [Hx.out]; exact HO'.out⟩
          case measure => simp [intOf]; omega
    · have hks : k = m := by omega
      subst hks
      have e : L.take k = L := List.take_of_length_le (by rw [Hm.out]; omega)
      rw [e] at hO
      have HO := Lib.hid hO
      clear hO e
      go_wp2
      go_ret2
      exact ⟨_, rfl, OptChsU.some_ (L := L) (by rw [Hf.out]; exact Hd.out) ((HO.out.mono (Ext.size he6)).sl (EChU_ok _) (Nat.le_refl _) (by rw [Hm.out]; unfold lim; omega)) Hsep.out, he6.trans he⟩
end Go.Sf
