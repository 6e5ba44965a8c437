/- The program's TreeMove and TreeClone. -/
import Derived.Test.YtbdgpbakhjpklaaGreatDoorGK
import Derived.Test.YtbdgpbakhjpklaaGreatDoorGM
import Derived.Test.YtbdgpbakhjpklaaGreatDoorGJ
import Derived.Test.YtbdgpbakhjpklaaGreatDoorW14
namespace Go.Sf
open Go Go.RowKit Go.Proofs
/-- what the library's sort of items leaves -/
def SortP (w0 : World) (B : Nat) (v : Value) (l : List It) (e : Ending) (w' : World) : Prop := e = .returned (.tuple #[]) ∧ ∃ s, s.Perm l ∧ Weak s ∧ Its B w' v s ∧ Ext w0 w'
def SortLaw : Prop := ∀ (w0 w : World) (B : Nat) (v : Value) (l : List It), Ext w0 w → B ≤ w0.heap.size → OwnS w0.heap.size 32 3 (EIt B) w v l → l ≠ [] → l.length ≤ 1000 →
  Calls Tryz.prog 86 #[v, .func (.func 87) #[] #[]] w (SortP w0 B v l)
def InTreeP (w0 : World) (l : List It) (e : Ending) (w' : World) : Prop :=
  Ext w0 w' ∧ ∃ s, s.Perm l ∧ Weak s ∧ ((treeOk s = false ∧ e = .returned (.tuple #[.slice none 0 0, .bool false])) ∨ (treeOk s = true ∧ ∃ u lu, e = .returned (.tuple #[u, .bool true]) ∧ lu.map Prod.fst = s ∧ ItsU w0.heap.size w' u lu ∧ Sep lu))
/-- a tree, each item's ids told apart -/
def OptItsU (B : Nat) (o : Option (List It)) (v : Value) (w : World) : Prop := ∃ u lu, v = .tuple #[u, .bool o.isSome] ∧ lu.map Prod.fst = o.getD [] ∧ ItsU B w u lu ∧ Sep lu
theorem OptItsU.nil_ {B : Nat} {w : World} {o : Option (List It)} (h : o = none) : OptItsU B o (.tuple #[.slice none 0 0, .bool false]) w := by
  subst h; exact ⟨_, [], rfl, rfl, SlOf.nil _ _ _ _ _, List.Pairwise.nil⟩
theorem place_eq {l cs s : List It} {o : Option (List It)} (hl : Srt l) (hp : s.Perm (cs ++ l)) (hw : Weak s) (ho : o = placeOf l cs) : o = if treeOk s = true then some s else none := by
  rw [ho]; exact placeAll_sort hl hp hw
theorem cs_ne {l cs : List It} {f t : ByteArray} (hok : mvOk l f t = true) (hc : copyAll f t l = some cs) : cs ≠ [] := fun e => by
  obtain ⟨h1, h2, -, ⟨x, hx, hxp⟩, -⟩ := mvOk_iff.1 hok
  obtain ⟨y, hy, -⟩ := (copyAll_some hc).2.1 x hx (by rw [hxp]; exact within_self)
  rw [e] at hy; cases hy
section
variable (SC : SortLaw)
include SC
set_option maxHeartbeats 1000000 in
theorem inTree_c {w0 w : World} {B : Nat} {v : Value} {l : List It} (h0 : Ext w0 w) (hB : B ≤ w0.heap.size) (hO : OwnS w0.heap.size 32 3 (EIt B) w v l) (hne : l ≠ []) (hl : l.length ≤ 1000) (hm : ML w0) :
    Calls Tryz.prog 45 #[v] w (InTreeP w0 l) := by
  have Cs := SC w0 w B v l h0 hB hO hne hl
  have HM := Lib.hid hm
  clear h0 hO hm
  go_enter Tryz.func45, Tryz.ntmps45
  go_wp2_with fail
  refine Cs.mono ?_
  rintro e w1 ⟨rfl, s, hp, hw, hI, he1⟩
  have HP := Lib.hid (And.intro hp hw)
  clear hp hw Cs
  go_wp2_with fail
  refine (openTree_c w1 hI (HM.out.ext he1)).mono ?_
  rintro e w2 ⟨he2, ⟨ht, rfl⟩ | ⟨ht, adr, kv, rfl, hT⟩⟩
  · have Ht := Lib.hid ht
    clear ht hI
    go_wp2
    go_ret2
    exact ⟨he1.trans he2, s, HP.out.1, HP.out.2, .inl ⟨Ht.out, rfl⟩⟩
  · have Ht := Lib.hid ht
    have hg := treeOk_iff'.1 ht
    have HG := Lib.hid hg
    clear ht hI hg
    go_wp2_with fail
    refine (listU_c hT HG.out.2 HG.out.1).mono ?_
    rintro e w3 ⟨v3, rfl, ⟨lu, hlu, hU, hS, -⟩, he3⟩
    have HU : Hid (lu.map Prod.fst = s ∧ ItsU w0.heap.size w3 v3 lu ∧ Sep lu) := Lib.hid ⟨hlu, hU.keep (he1.trans he2).size (fun _ _ _ => rfl), hS⟩
    clear hlu hU hS hT
    go_wp2
    go_ret2
    exact ⟨(he1.trans he2).trans he3, s, HP.out.1, HP.out.2, .inr ⟨Ht.out, _, lu, rfl, HU.out⟩⟩
set_option maxRecDepth 8000 in
set_option maxHeartbeats 2000000 in
theorem TreeMove_c {B : Nat} {v : Value} {l : List It} (f t : ByteArray) (w : World) (h : Its B w v l) (hf : f.size < lim) (ht : t.size < lim) (hm : ML w) :
    Calls Tryz.prog 20 #[v, .string f, .string t] w (RetP (OptItsU w.heap.size (moveOf l f t)) w) := by
  have HM := Lib.hid hm
  have Co := openTree_c w h hm
  clear h hm
  go_enter Tryz.func20, Tryz.ntmps20
  go_wp2_with fail
  refine Co.mono ?_
  rintro e w1 ⟨he1, ⟨htr, rfl⟩ | ⟨htr, adr, kv, rfl, hT⟩⟩
  · have Hd : Hid (moveOf l f t = none) := Lib.hid (moveOf_not (by unfold mvOk; rw [htr]; rfl))
    clear htr Co
    go_wp2
    go_ret2
    exact ⟨_, rfl, OptItsU.nil_ Hd.out, he1⟩
  have Htr := Lib.hid htr
  have HT := Lib.hid hT
  have hg := treeOk_iff'.1 htr
  have HG := Lib.hid hg
  clear htr hT hg Co
  go_wp2_with fail
  refine (turned_c f t HT.out Htr.out hf ht (HM.out.ext he1)).mono ?_
  rintro e w2 ⟨r, rfl, hr, he2⟩
  rcases hr with ⟨hn, rfl⟩ | ⟨hok, cs, v2, hc, rfl, hO⟩
  · have Hd : Hid (moveOf l f t = none) := Lib.hid (by
      rcases hn with h | h
      · exact moveOf_not h
      · cases hk : mvOk l f t with
        | false => exact moveOf_not hk
        | true => exact moveOf_none hk h)
    clear hn
    go_wp2
    go_ret2
    exact ⟨_, rfl, OptItsU.nil_ Hd.out, he1.trans he2⟩
  have Hd := Lib.hid (moveOf_put hok hc)
  have Hne := Lib.hid (cs_ne hok hc)
  have hcl := copy_len hc
  have HO : Hid (OwnS w1.heap.size 32 3 (EIt w1.heap.size) w2 v2 cs) := Lib.hid hO
  obtain ⟨A2, c2, rfl⟩ := hO.form
  clear hok hc hO
  go_wp2_with fail
  refine (list_c (HT.out.ext he2) HG.out.2 HG.out.1).mono ?_
  rintro e w3 ⟨v3, rfl, hI3, he3⟩
  have HI3 : Hid (Its w2.heap.size w3 v3 l) := Lib.hid hI3
  have hs12 : Hid (w1.heap.size ≤ w2.heap.size) := Lib.hid he2.size
  have hs23 : Hid (w2.heap.size ≤ w3.heap.size) := Lib.hid he3.size
  have hex : ∃ n, l.length = n := ⟨_, rfl⟩
  obtain ⟨n, hn⟩ := hex
  obtain ⟨A3, c3, rfl, -⟩ := hI3
  have hn12 := HG.out.1
  rw [hn] at hn12 hcl HI3 ⊢
  have Hn := Lib.hid hn
  have HO3 := Lib.hid (HO.out.ext (EIt_ok _) he3)
  have HB0 : Hid (∀ g, (Value.slice A2 cs.length c2).ownBlock = some g → g < w2.heap.size ∨ w3.heap.size ≤ g) := Lib.hid fun g hg => by
    obtain ⟨-, cs', hb⟩ := HO.out.block hg
    exact .inl hb.lt
  have E13 := Lib.hid (he2.trans he3)
  have E1 := Lib.hid he1
  have hpok : Hid (∀ x, x ∈ l → pathOk x.path = true) := Lib.hid fun x hx => tree_path Htr.out hx
  have HM1 := Lib.hid (HM.out.ext he1)
  clear hn he1 he2 he3 HO HT
  go_wp2
  go_loopw [10, 32] (fun v i wr => ∃ k : Nat, k ≤ n ∧ i = .int .i64 k ∧ Ext w1 wr ∧ OwnS w1.heap.size 32 3 (EIt w1.heap.size) wr v (cs ++ restOf (l.take k) f) ∧ Hid ((w3.heap.size ≤ wr.heap.size ∧ Keeps w2.heap.size w3 wr) ∧ ∀ g, v.ownBlock = some g → g < w2.heap.size ∨ w3.heap.size ≤ g)) (fun _ i _ => n - (intOf i).toNat)
  case atStart => exact ⟨0, by omega, rfl, E13.out, by simpa [restOf] using HO3.out, Lib.hid ⟨⟨Nat.le_refl _, fun _ _ _ => rfl⟩, HB0.out⟩⟩
  case round =>
    obtain ⟨k, hk, rfl, he', hO, hKB⟩ := hrel
    have HO := Lib.hid hO
    have hIr : Its w2.heap.size wr (.slice A3 n c3) l := HI3.out.keep (Nat.le_refl _) hKB.out.1.2
    by_cases hlt : k < n
    · obtain ⟨x, hx⟩ := get_of_lt (l := l) (k := k) (by rw [Hn.out]; exact hlt)
      have hpx := hpok.out x (List.mem_of_getElem? hx)
      obtain ⟨Ar, cr, hvr, hAr⟩ := hIr
      rw [Hn.out] at hvr
      injection hvr with e1 _ e2
      subst e1; subst e2
      obtain ⟨bb, o, u2, rfl, -, -, hps, hu, hc0, hc1, hc2⟩ := Its.at_ hAr hx
      obtain ⟨Ax, cx, rfl, hux⟩ := hu
      have q0 := hc0 wr (Ext.refl _); have q1 := hc1 wr (Ext.refl _); have q2 := hc2 wr (Ext.refl _)
      have HU : Hid (∀ W, Ext wr W → Ints w1.heap.size W (.slice Ax x.ids.length cx) x.ids) := Lib.hid fun W e => (Ints.keep (show Ints w2.heap.size wr _ _ from ⟨_, _, rfl, hux⟩) hs12.out (fun _ _ _ => rfl)).ext e
      have Cw : ∀ W, Ext w1 W → Calls Tryz.prog 18 #[.string x.path, .string f] W (Ret (.bool (within x.path f)) W) := fun W e => by
        have := PathWithin_c x.path f W hps hf (HM1.out.ext e)
        rwa [hpx, Bool.true_and] at this
      have hbx := Blk.new wr 32 #[.string x.path, .bool x.dir, .slice Ax x.ids.length cx]
      have HBX := Lib.hid hbx
      have hrt := rest_take (f := f) hx
      have hrl := rest_len (l.take k) f
      have htl := List.length_take_le' k l
      have hHn := Hn.out
      clear hc0 hc1 hc2 hux hx hpx hO hbx hAr
      cases hw : within x.path f with
      | true =>
        rw [hw] at Cw
        rw [hw, if_pos rfl, List.append_nil] at hrt
        have Hrt := Lib.hid hrt
        clear hw hrt
        go_wp2_with (go_at_call 18; refine (Cw _ (he'.alloc _)).mono ?_; rintro e w8 ⟨rfl, he8⟩)
        have h8 : Hid (Ext wr w8) := Lib.hid (((Ext.refl wr).alloc _).trans he8)
        have HK8 : Hid ((w3.heap.size ≤ w8.heap.size ∧ Keeps w2.heap.size w3 w8) ∧ ∀ g, _ = some g → g < w2.heap.size ∨ w3.heap.size ≤ g) := Lib.hid ⟨⟨Nat.le_trans hKB.out.1.1 h8.out.size, fun b h1 h2 => (h8.out.block (Nat.lt_of_lt_of_le h2 hKB.out.1.1)).trans (hKB.out.1.2 b h1 h2)⟩, hKB.out.2⟩
        go_roundw
        case rel => exact ⟨k + 1, by omega, by go_num, (he'.alloc _).trans he8, by rw [Hrt.out]; exact HO.out.ext (EIt_ok _) h8.out, HK8⟩
        case measure => simp [intOf]; omega
      | false =>
        rw [hw] at Cw
        rw [hw, if_neg (by simp)] at hrt
        have Hrt := Lib.hid hrt
        clear hw hrt
        go_wp2_with fail
        refine (Cw _ (he'.alloc _)).mono ?_
        rintro e w8 ⟨rfl, he8⟩
        have h8 : Ext wr w8 := ((Ext.refl wr).alloc _).trans he8
        have hb8 := HBX.out.ext he8
        have d0 := hb8.cell 0; have d1 := hb8.cell 1; have d2 := hb8.cell 2
        simp at d0 d1 d2
        have he8' := he'.trans h8
        have HO8 := Lib.hid (HO.out.ext (EIt_ok _) h8)
        have HU8 := Lib.hid (HU.out _ h8)
        have HK8 : Hid (w3.heap.size ≤ w8.heap.size ∧ Keeps w2.heap.size w3 w8) := Lib.hid ⟨Nat.le_trans hKB.out.1.1 h8.size, fun b h1 h2 => (h8.block (Nat.lt_of_lt_of_le h2 hKB.out.1.1)).trans (hKB.out.1.2 b h1 h2)⟩
        clear hb8 q0 q1 q2 Cw
        go_wp2_with (at_builtin; go_must (refine wp_ap1W (B := w1.heap.size) (by rfl) _ _ (by rfl) el_It (EIt_ok _) he8'.size _ (cs ++ restOf (l.take k) f) [x] (by rfl) HO8.out 1 1 rfl (by decide) #[.string x.path, .bool x.dir, .slice Ax x.ids.length cx] _ (by rfl) (by first | rfl | simp) rfl (one3 rfl) (one_E (eit_of_v hps HU8.out)) ?_ ?_))
        · simp; unfold lim; omega
        · intro v' w' hO' hgr _ hob
          have HE' : Hid (Ext w1 w') := Lib.hid (OwnS.grown_ext (HO8.out.ext (EIt_ok _) ((Ext.refl _).alloc _)) (he8'.alloc _) hgr)
          have HK' : Hid ((w3.heap.size ≤ w'.heap.size ∧ Keeps w2.heap.size w3 w') ∧ ∀ g, v'.ownBlock = some g → g < w2.heap.size ∨ w3.heap.size ≤ g) := Lib.hid (by
            have hsz := hgr.size
            simp only [World.size_alloc] at hsz
            have h38 := HK8.out.1
            refine ⟨⟨by omega, fun b h1 h2 => ?_⟩, fun g hg => ?_⟩
            · have hne : some b ≠ Value.ownBlock _ := fun e => by
                have := hKB.out.2 b e.symm
                omega
              refine (hgr.block b (by simp only [World.size_alloc]; omega) hne).trans ?_
              exact (((Ext.refl w8).alloc _).block (by omega)).trans (HK8.out.2 b h1 h2)
            · rcases hob with h | h
              · exact hKB.out.2 g (h ▸ hg)
              · rw [h] at hg
                have := Option.some.inj hg
                exact .inr (by omega))
          have HO' := Lib.hid hO'
          clear hO' hgr hob d0 d1 d2
          go_wp2
          go_roundw
          case rel => exact ⟨k + 1, by omega, by go_num, HE'.out, by rw [Hrt.out]; simpa [List.append_assoc] using HO'.out, HK'⟩
          case measure => simp [intOf]; omega
    · have hks : k = n := by omega
      subst hks
      have e : l.take k = l := List.take_of_length_le (by rw [Hn.out]; exact Nat.le_refl _)
      have HO1 := HO.out
      rw [e] at HO1
      have hrl := rest_len l f
      rw [Hn.out] at hrl
      have Ci := inTree_c SC he' (Nat.le_refl _) HO1 (fun h => Hne.out (List.append_eq_nil_iff.1 h).1) (by simp; omega) HM1.out
      have hsr : Hid (Srt (restOf l f)) := Lib.hid ((tree_set.1 Htr.out).2.1.filter _)
      obtain ⟨A', c', rfl⟩ := HO1.form
      rw [show (cs ++ restOf l f).length = cs.length + (restOf l f).length by simp] at Ci ⊢
      clear HO HO1 e hO hIr hKB
      go_wp2_with fail
      refine Ci.mono ?_
      rintro e w5 ⟨he5, s, hp, hw, ⟨ht5, rfl⟩ | ⟨ht5, u, lu, rfl, hlu, hU, hS⟩⟩
      · have Hr : Hid (moveOf l f t = none) := Lib.hid (by rw [place_eq hsr.out hp hw Hd.out, if_neg (by simp [ht5])])
        clear hp hw ht5
        go_wp2
        go_ret2
        exact ⟨_, rfl, OptItsU.nil_ Hr.out, E1.out.trans he5⟩
      · have Hr : Hid (moveOf l f t = some s) := Lib.hid (by rw [place_eq hsr.out hp hw Hd.out, if_pos ht5])
        have HP : Hid (OptItsU w.heap.size (moveOf l f t) (.tuple #[u, .bool true]) w5) := Lib.hid (by rw [Hr.out]; exact ⟨u, lu, rfl, hlu, hU.keep E1.out.size (fun _ _ _ => rfl), hS⟩)
        clear hp hw ht5 hlu hU hS
        go_wp2
        go_ret2
        exact ⟨_, rfl, HP.out, E1.out.trans he5⟩
end
end Go.Sf
