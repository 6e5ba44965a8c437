/- The program's TreeClone; a tree and two paths drawn for it. -/
import Derived.Test.YtbdgpbakhjpklaaGreatDoorT52
namespace Go.Sf
open Go Go.RowKit Go.Proofs
set_option maxRecDepth 8000 in
set_option maxHeartbeats 2000000 in
theorem TreeClone_c (SC : SortLaw) {B : Nat} {v : Value} {l : List It} (f t : ByteArray) (w : World) (h : Its B w v l) (hf : f.size < lim) (ht : t.size < lim) (hm : ML w) :
    Calls Tryz.prog 15 #[v, .string f, .string t] w (RetP (OptItsU w.heap.size (cloneOf l f t)) w) := by
  have HM := Lib.hid hm
  have Co := openTree_c w h hm
  clear h hm
  go_enter Tryz.func15, Tryz.ntmps15
  go_wp2_with fail
  refine Co.mono ?_
  rintro e w1 ⟨he1, ⟨htr, rfl⟩ | ⟨htr, adr, kv, rfl, hT⟩⟩
  · have Hd : Hid (cloneOf l f t = none) := Lib.hid (cloneOf_not (by unfold mvOk; rw [htr]; rfl))
    clear htr Co
    go_wp2
    go_ret2
    exact ⟨_, rfl, OptItsU.nil_ Hd.out, he1⟩
  have Htr := Lib.hid htr
  have HT := Lib.hid hT
  have hg := treeOk_iff'.1 htr
  have HG := Lib.hid hg
  clear htr hT hg Co
  go_wp2_with fail
  refine (turned_c f t HT.out Htr.out hf ht (HM.out.ext he1)).mono ?_
  rintro e w2 ⟨r, rfl, hr, he2⟩
  rcases hr with ⟨hn, rfl⟩ | ⟨hok, cs, v2, hc, rfl, hO⟩
  · have Hd : Hid (cloneOf l f t = none) := Lib.hid (by
      rcases hn with h | h
      · exact cloneOf_not h
      · cases hk : mvOk l f t with
        | false => exact cloneOf_not hk
        | true => exact cloneOf_none hk h)
    clear hn
    go_wp2
    go_ret2
    exact ⟨_, rfl, OptItsU.nil_ Hd.out, he1.trans he2⟩
  have Hd := Lib.hid (cloneOf_put hok hc)
  have Hne := Lib.hid (cs_ne hok hc)
  have hcl := copy_len hc
  have HO : Hid (OwnS w1.heap.size 32 3 (EIt w1.heap.size) w2 v2 cs) := Lib.hid hO
  obtain ⟨A2, c2, rfl⟩ := hO.form
  clear hok hc hO
  go_wp2_with fail
  refine (list_c (HT.out.ext he2) HG.out.2 HG.out.1).mono ?_
  rintro e w3 ⟨v3, rfl, hI3, he3⟩
  have HI3 : Hid (Its w1.heap.size w3 v3 l) := Lib.hid (hI3.keep he2.size (fun _ _ _ => rfl))
  have HO3 := Lib.hid (HO.out.ext (EIt_ok _) he3)
  have E13 := Lib.hid (he2.trans he3)
  have E1 := Lib.hid he1
  have HM1 := Lib.hid (HM.out.ext he1)
  have hl12 := HG.out.1
  clear he1 he2 he3 hI3 HO HT
  go_wp2_with (at_builtin; go_must (refine wp_apS (w0 := w1) (by rfl) _ _ (by rfl) el_It (EIt_ok _) E13.out _ v3 cs l (by rfl) HO3.out (by rfl) HI3.out ?_ ?_))
  · unfold lim; omega
  intro v4 w4 hO4 he4 _
  have hsr : Hid (Srt l) := Lib.hid (tree_set.1 Htr.out).2.1
  have Ci := inTree_c SC he4 (Nat.le_refl _) hO4 (fun h => Hne.out (List.append_eq_nil_iff.1 h).1) (by simp; omega) HM1.out
  clear hO4
  go_wp2_with fail
  refine Ci.mono ?_
  rintro e w5 ⟨he5, s, hp, hw, ⟨ht5, rfl⟩ | ⟨ht5, u, lu, rfl, hlu, hU, hS⟩⟩
  · have Hr : Hid (cloneOf l f t = none) := Lib.hid (by rw [place_eq hsr.out hp hw Hd.out, if_neg (by simp [ht5])])
    clear hp hw ht5
    go_wp2
    go_ret2
    exact ⟨_, rfl, OptItsU.nil_ Hr.out, E1.out.trans he5⟩
  · have Hr : Hid (cloneOf l f t = some s) := Lib.hid (by rw [place_eq hsr.out hp hw Hd.out, if_pos ht5])
    have HP : Hid (OptItsU w.heap.size (cloneOf l f t) (.tuple #[u, .bool true]) w5) := Lib.hid (by rw [Hr.out]; exact ⟨u, lu, rfl, hlu, hU.keep E1.out.size (fun _ _ _ => rfl), hS⟩)
    clear hp hw ht5 hlu hU hS
    go_wp2
    go_ret2
    exact ⟨_, rfl, HP.out, E1.out.trans he5⟩
set_option maxHeartbeats 1000000 in
theorem DrawTreeClone_c {v : Value} {xs : List Int} (w : World) (h : Bys w v xs) : Calls Tryz.prog 14 #[v] w (DrewM w) := by
  have H := Lib.hid h
  clear h
  go_enter Tryz.func14, Tryz.ntmps14
  go_wp2_with fail
  refine (DrawTreeMove_c _ H.out).mono ?_
  rintro e w1 ⟨va, la, f, t, rfl, hIa, hla, hf, ht, he1⟩
  go_wp2
  go_ret3
  exact ⟨_, la, f, t, rfl, hIa, hla, hf, ht, he1⟩
end Go.Sf
