/- The items of a tree of nodes are listed. -/
import Derived.Test.YtfpkllihfcgmaaaDoorT16
import Derived.Test.YtfpkllihfcgmaaaDoorT6
namespace Go.Sf
open Go Go.RowKit Go.Proofs
theorem bl_append (a b : ByteArray) : bl (a ++ b) = bl a ++ bl b := by
  unfold bl; simp
theorem kid_path {l : List It} {k : Key} {x : It} (h : x ∈ kidsOf l k) : mkB (startOf k) ++ nameOf (key x) = x.path := by
  apply bl_inj
  rw [bl_append, bl_mkB, nameOf_key, bl_mkB, key_path_eq x, (mem_kids.1 h).2]
theorem kid_start (x : It) : x.path ++ (⟨#[47]⟩ : ByteArray) = mkB (startOf (key x)) := by
  apply bl_inj
  rw [bl_append, bl_mkB, startOf, if_neg (key_ne x), key_join]; rfl
theorem flat_take {l : List It} {d : Nat} {k : Key} {j : Nat} {x : It} (h : (kidsOf l k)[j]? = some x) :
    ((kidsOf l k).take (j + 1)).flatMap (fun x => x :: flat l d (key x)) = ((kidsOf l k).take j).flatMap (fun x => x :: flat l d (key x)) ++ [x] ++ flat l d (key x) := by
  rw [List.take_add_one, h]
  simp
def bdF : Nat → Nat
  | 0 => 0
  | d + 1 => 12 * (1 + bdF d)
theorem flatMap_len {α β : Type} (L : List α) (f : α → List β) (b : Nat) (h : ∀ x, x ∈ L → (f x).length ≤ b) : (L.flatMap f).length ≤ L.length * b := by
  induction L with
  | nil => simp
  | cons a L ih =>
    rw [List.flatMap_cons, List.length_append, List.length_cons, Nat.add_mul]
    have h1 := h a (by simp)
    have h2 := ih fun x hx => h x (by simp [hx])
    omega
theorem flat_len {l : List It} (hl : l.length ≤ 12) : ∀ d k, (flat l d k).length ≤ bdF d := by
  intro d
  induction d with
  | zero => intro k; simp [flat]
  | succ d ih =>
    intro k
    rw [flat]
    have h1 := flatMap_len (kidsOf l k) (fun x => x :: flat l d (key x)) (1 + bdF d) (fun x _ => by have := ih (key x); simp; omega)
    have h2 : (kidsOf l k).length ≤ 12 := Nat.le_trans (List.length_filter_le _ _) hl
    exact Nat.le_trans h1 (Nat.mul_le_mul_right _ h2)
theorem bdF_le {d : Nat} (h : d ≤ 4) : bdF d ≤ 22620 := by
  match d, h with
  | 0, _ => decide
  | 1, _ => decide
  | 2, _ => decide
  | 3, _ => decide
  | 4, _ => decide
theorem flat_take_len {l : List It} (hl : l.length ≤ 12) {d : Nat} (hd : d + 1 ≤ 4) (k : Key) (j : Nat) : (((kidsOf l k).take j).flatMap fun x => x :: flat l d (key x)).length ≤ 22620 := by
  refine Nat.le_trans (flatMap_len _ _ (1 + bdF d) (fun x _ => by have := flat_len hl d (key x); simp; omega)) ?_
  have h2 : ((kidsOf l k).take j).length ≤ 12 := Nat.le_trans (List.length_take_le' _ _) (Nat.le_trans (List.length_filter_le _ _) hl)
  exact Nat.le_trans (Nat.mul_le_mul_right _ h2) (bdF_le hd)
theorem kids_deep {l : List It} (hg : Grow l) {k : Key} (h : 4 ≤ k.length) : kidsOf l k = [] := by
  rw [kidsOf, List.filter_eq_nil_iff]
  intro x hx
  simp only [kin, decide_eq_true_eq]
  intro e
  have h4 := (key_ok (itemOk_path (hg.fits hx).1)).2
  have h1 := congrArg List.length (key_last (x := x))
  rw [e, List.length_append, List.length_singleton] at h1
  omega
section
variable {B : Nat} {l : List It} {adr : Key → Nat} {kv : Key → Value}
set_option maxRecDepth 4000 in
set_option maxHeartbeats 2000000 in
theorem listIn_c (hg : Grow l) (hl : l.length ≤ 12) : ∀ (d : Nat) (w : World) (k : Key), TreeAt B w l adr kv → isKey l k → 4 ≤ k.length + d → d ≤ 4 →
    Calls Tryd.prog 49 #[.pointer (some ⟨adr k, 0, none⟩), .string (mkB (startOf k))] w (RetP (fun v w' => OwnS w.heap.size 35 3 (EIt w.heap.size) w' v (flat l d k)) w) := by
  intro d
  induction d with
  | zero =>
    intro w k h hk hd _
    obtain ⟨A, c, hkv, -⟩ := h.kids hk
    obtain ⟨dir, ids, ⟨-, -, u, hb, -⟩, -⟩ := h.node hk
    have hn : (namesOf l k).length = 0 := by unfold namesOf; rw [kids_deep hg (by simpa using hd)]; rfl
    rw [hkv, hn] at hb
    have cc3 := hb.cell 3
    simp at cc3
    clear hkv hb h hk hn hg
    go_enter Tryd.func49, Tryd.ntmps49
    go_wp2
    refine wp_loop_rounds 1 ?_; rw [rounds_succ]
    go_wp2
    go_ret
    exact ⟨_, rfl, OwnS.nil _ _ _ _ _, Ext.refl w⟩
  | succ d ih =>
    intro w k h hk hd hd4
    have H := Lib.hid h
    have HG := Lib.hid hg
    have Hk := Lib.hid hk
    have IH := Lib.hid ih
    obtain ⟨A, c, hkv, hP⟩ := h.kids hk
    obtain ⟨dir, ids, ⟨hB, hO, u, hb, hu⟩, -⟩ := h.node hk
    rw [hkv] at hb
    have c3 := hb.at_ (i := 3) (u := .slice A (namesOf l k).length c) rfl
    have cc3 := c3 w (Ext.refl w)
    have HP := Lib.hid hP
    have hnl := namesOf_le l k
    have hlen : (namesOf l k).length = (kidsOf l k).length := by simp [namesOf]
    have Hlen := Lib.hid hlen
    clear hkv hb hO hu hP h hg hk ih hlen
    generalize hn : (namesOf l k).length = n at *
    have Hn := Lib.hid hn; clear hn
    go_enter Tryd.func49, Tryd.ntmps49
    go_wp2
    go_loopw [5, 14] (fun v i wr => ∃ j : Nat, j ≤ n ∧ i = .int .i64 j ∧ Ext w wr ∧ OwnS w.heap.size 35 3 (EIt w.heap.size) wr v (((kidsOf l k).take j).flatMap fun x => x :: flat l d (key x))) (fun _ i _ => n - (intOf i).toNat)
    case atStart => exact ⟨0, by omega, rfl, Ext.refl w, OwnS.nil _ _ _ _ _⟩
    case round =>
      obtain ⟨j, hj, rfl, he, hO⟩ := hrel
      by_cases hlt : j < n
      · obtain ⟨x, hx⟩ := get_of_lt (l := kidsOf l k) (k := j) (by rw [← Hlen.out]; exact hlt)
        have hnm : (namesOf l k)[j]? = some (nameOf (key x)) := by unfold namesOf; rw [List.getElem?_map, hx]; rfl
        obtain ⟨ab, ao, pb, hpb, hAe, h1, h2⟩ := HP.out j _ hnm
        subst hAe
        have hxk : x ∈ kidsOf l k := List.mem_of_getElem? hx
        have hxl := (mem_kids.1 hxk).1
        have hpe : pb = adr (key x) := by
          rw [List.getElem?_map, hx] at hpb; exact (Option.some.inj hpb).symm
        subst hpe
        obtain ⟨-, -, ux, hbx, hux⟩ := H.out.nodes x hxl
        obtain ⟨Ax, cx, rfl, hAx⟩ := hux
        have f1 := fun W (e : Ext wr W) => h1 W (he.trans e)
        have g0 := fun W (e : Ext wr W) => hbx.at_ (i := 0) (u := .string (nameOf (key x))) rfl W (he.trans e)
        have g1 := fun W (e : Ext wr W) => hbx.at_ (i := 1) (u := .bool x.dir) rfl W (he.trans e)
        have g2 := fun W (e : Ext wr W) => hbx.at_ (i := 2) (u := .slice Ax x.ids.length cx) rfl W (he.trans e)
        have HI : Hid (∀ W, Ext wr W → Ints B W (.slice Ax x.ids.length cx) x.ids) := Lib.hid fun W e => Ints.ext ⟨_, _, rfl, hAx⟩ (he.trans e)
        have hcat := kid_path hxk
        have hcat2 := kid_start x
        have Hft := Lib.hid (flat_take (d := d) hx)
        have Hx := Lib.hid hx
        have HO := Lib.hid hO
        have Hkx : Hid (isKey l (key x) ∧ 4 ≤ (key x).length + d) := Lib.hid ⟨.inr ⟨x, hxl, rfl⟩, by rw [name_kid hxk]; simp; omega⟩
        have hp23 := pathOk_len (itemOk_path (HG.out.fits hxl).1)
        have hs1 : (mkB (startOf k)).size + (nameOf (key x)).size = x.path.size := by rw [← hcat]; simp
        have hs2 : ¬ 9223372036854775807 < (mkB (startOf k)).size + (nameOf (key x)).size := by omega
        have hs3 : ¬ 9223372036854775807 < x.path.size + 1 := by omega
        have hps : x.path.size < lim := by unfold lim; omega
        have Hps := Lib.hid hps
        have hlen1 := flat_take_len hl hd4 k j
        have hlen2 := flat_take_len hl hd4 k (j + 1)
        rw [Hft.out] at hlen2
        simp only [List.length_append, List.length_singleton] at hlen2
        have Hl1 := Lib.hid hlen1; have Hl2 := Lib.hid hlen2
        clear h1 h2 hbx hAx hx hnm hpb hxk hxl hO hs1 hps hlen1 hlen2
        generalize hL : ((kidsOf l k).take j).flatMap (fun x => x :: flat l d (key x)) = L at *
        clear hL
        have q1 := f1 wr (Ext.refl _)
        have q0 := g0 wr (Ext.refl _)
        go_wp2
        refine wp_region_hold (fun W => W.cell? ⟨adr (key x), 1, none⟩ = some (.bool x.dir) ∧ W.cell? ⟨adr (key x), 2, none⟩ = some (.slice Ax x.ids.length cx)) 13 [(0, true), (1, true), (2, true), (3, true), (4, true), (5, true), (6, true), (7, true), (8, true), (9, true), (10, false), (11, true), (12, false)] (by kernel_rfl) (by kernel_rfl) ?_ ?_
        · exact ⟨g1 _ (Ext.refl _).drew, g2 _ (Ext.refl _).drew⟩
        (repeat (first | (apply hw_read (by rfl) (by rfl); (· (intro W hW; (try dsimp only at hW); go_simp; (first | done | rfl | (rw [if_pos] <;> first | omega | rfl)))); (try simp only [Act.put, List.setIfInBounds_toArray, List.set_cons_zero, List.set_cons_succ])) | (refine hw_skip (by rfl) (by rfl) ?_; (try simp only [Act.put, List.setIfInBounds_toArray, List.set_cons_zero, List.set_cons_succ]))))
        refine hw_step (by rfl) ?_
        go_wp2_with (go_at_call 62; refine (Clone_int_c (xs := x.ids) _ (HI.out _ (Ext.refl _).drew)).mono ?_; rintro e w4 ⟨u9, rfl, ⟨A9, c9, rfl, hu9⟩, he9⟩)
        have he5 := (Ext.refl wr).drew.trans he9
        have he6 := he.trans he5
        have Hu9 : Hid (Ints w.heap.size w4 (.slice A9 x.ids.length c9) x.ids) := Lib.hid (Ints.keep ⟨_, _, rfl, hu9⟩ (he.trans (Ext.refl _).drew).size (fun _ _ _ => rfl))
        have HO6 := Lib.hid (HO.out.ext (EIt_ok _) he5)
        clear he9 hu9
        refine ⟨⟨g1 _ he5, g2 _ he5⟩, ?_⟩
        (repeat (first | (apply hw_read (by rfl) (by rfl); (· (intro W hW; (try dsimp only at hW); go_simp; (first | done | rfl | (rw [if_pos] <;> first | omega | rfl)))); (try simp only [Act.put, List.setIfInBounds_toArray, List.set_cons_zero, List.set_cons_succ])) | (refine hw_skip (by rfl) (by rfl) ?_; (try simp only [Act.put, List.setIfInBounds_toArray, List.set_cons_zero, List.set_cons_succ]))))
        refine hw_step (by rfl) ?_
        go_wp2
        refine ⟨⟨g1 _ (he5.alloc _), g2 _ (he5.alloc _)⟩, ?_⟩
        (refine hw_nil ?_; simp only [List.drop_succ_cons, List.drop_zero])
        go_wp2_with (at_builtin; go_must (refine wp_ap1 (w0 := w) (by rfl) _ _ (by rfl) el_It (EIt_ok _) he6 _ L [x] (by rfl) HO6.out 1 1 rfl #[.string x.path, .bool x.dir, .slice A9 x.ids.length c9] _ (by rfl) (by first | rfl | simp) rfl (one3 rfl) (one_E (eit_of_v Hps.out Hu9.out)) ?_ ?_))
        · have := Hl1.out; simp; unfold lim; omega
        · intro v' w' hO' he' _
          have HO' := Lib.hid hO'
          clear hO' f1 g0 g1 g2 q0 q1 he5 he6
          go_wp2
          refine NoPanic.normal ?_
          dsimp only [Exit.then]
          obtain ⟨A', c', rfl⟩ := HO'.out.form
          have HO1 := HO'.out
          rw [show (L ++ [x]).length = L.length + 1 by simp] at HO1 ⊢
          have HO' := Lib.hid HO1
          clear HO1
          go_wp2_with fail
          refine (IH.out _ (key x) (H.out.ext he') Hkx.out.1 Hkx.out.2 (by omega)).mono ?_
          rintro e w5 ⟨v5, rfl, hO5, he7⟩
          have hfl := flat_len hl d (key x)
          have hfb := bdF_le (d := d) (by omega)
          have HS5 : Hid (Its w.heap.size w5 v5 (flat l d (key x))) := Lib.hid (Its.keep (hO5.sl (EIt_ok _) (Nat.le_refl _) (by unfold lim; omega)) (Ext.size he') (fun _ _ _ => rfl))
          have HO7 := Lib.hid (HO'.out.ext (EIt_ok _) he7)
          have he8 := he'.trans he7
          clear hO5 he' he7 hfl hfb
          go_wp2_with (at_builtin; go_must (refine wp_apS (w0 := w) (by rfl) _ _ (by rfl) el_It (EIt_ok _) he8 _ v5 (L ++ [x]) (flat l d (key x)) (by rfl) HO7.out (by rfl) HS5.out ?_ ?_))
          · have := Hl2.out; simp; unfold lim; omega
          · intro v'' w'' hO'' he'' _
            have HO'' := Lib.hid hO''
            clear hO'' he8
            go_wp2
            go_roundw
            case rel => exact ⟨j + 1, by omega, by go_num, he'', by rw [Hft.out]; simpa using HO''.out⟩
            case measure => simp [intOf]; omega
      · have hjs : j = n := by omega
        subst hjs
        have e : (kidsOf l k).take j = kidsOf l k := List.take_of_length_le (by rw [Hlen.out]; omega)
        rw [e] at hO
        have HO := Lib.hid hO
        clear hO e
        go_wp2
        go_ret
        exact ⟨_, rfl, HO.out, he⟩
set_option maxHeartbeats 1000000 in
theorem list_c {w : World} (h : TreeAt B w l adr kv) (hg : Grow l) (hl : l.length ≤ 12) : Calls Tryd.prog 27 #[.pointer (some ⟨adr [], 0, none⟩)] w (RetP (fun v w' => Its w.heap.size w' v l) w) := by
  have hc := listIn_c hg hl 4 w [] h (.inl rfl) (by simp) (Nat.le_refl _)
  rw [flat_list l hg] at hc
  have HC : Hid (Calls Tryd.prog 49 #[.pointer (some ⟨adr [], 0, none⟩), .string ⟨#[]⟩] w (RetP (fun v w' => OwnS w.heap.size 35 3 (EIt w.heap.size) w' v l) w)) := Lib.hid hc
  have Hl : Hid (l.length ≤ lim) := Lib.hid (by unfold lim; omega)
  clear hc h hg hl
  go_enter Tryd.func27, Tryd.ntmps27
  go_wp2_with (go_at_call 49; refine HC.out.mono ?_; rintro e w1 ⟨v, rfl, hO, he⟩)
  go_ret
  exact ⟨_, rfl, hO.sl (EIt_ok _) (Nat.le_refl _) Hl.out, he⟩
end
end Go.Sf
