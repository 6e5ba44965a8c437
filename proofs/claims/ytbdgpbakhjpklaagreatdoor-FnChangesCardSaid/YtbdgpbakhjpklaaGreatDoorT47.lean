/- The items within a path, as they are within another one. -/
import Derived.Test.YtbdgpbakhjpklaaGreatDoorT46
import Derived.Test.YtbdgpbakhjpklaaGreatDoorT42
import Derived.Test.YtbdgpbakhjpklaaGreatDoorT28
namespace Go.Sf
open Go Go.RowKit Go.Proofs
/-- what turned hands back -/
def TurnedP (w : World) (l : List It) (f t : ByteArray) (r : Value) (w' : World) : Prop :=
  ((mvOk l f t = false ∨ copyAll f t l = none) ∧ r = .tuple #[.slice none 0 0, .bool false]) ∨ (mvOk l f t = true ∧ ∃ cs v, copyAll f t l = some cs ∧ r = .tuple #[v, .bool true] ∧ OwnS w.heap.size 32 3 (EIt w.heap.size) w' v cs)
theorem findV_none {l : List It} {adr : Key → Nat} {p : ByteArray} (h : (findIt l p).isSome = false) : findV l adr p = .pointer none := by
  unfold findV
  cases hf : findIt l p with
  | none => rfl
  | some x => rw [hf] at h; cases h
theorem findV_some {l : List It} {adr : Key → Nat} {p : ByteArray} (h : (findIt l p).isSome = true) : ∃ a, findV l adr p = .pointer (some ⟨a, 0, none⟩) := by
  unfold findV
  cases hf : findIt l p with
  | none => rw [hf] at h; cases h
  | some x => exact ⟨_, rfl⟩
theorem mvOk_if6 {l : List It} {f t : ByteArray} {b1 b2 b3 b4 b5 b6 : Bool} (h1 : treeOk l = b1) (h2 : pathOk f = b2) (h3 : pathOk t = b3) (h4 : (findIt l f).isSome = b4) (h5 : within t f = b5) (h6 : (findIt l t).isSome = b6) : mvOk l f t = (b1 && (b2 && (b3 && (b4 && (!b5 && !b6))))) := by
  unfold mvOk; rw [h1, h2, h3, h4, h5, h6]
section
variable {B : Nat} {l : List It} {adr : Key → Nat} {kv : Key → Value}
set_option maxRecDepth 8000 in
set_option maxHeartbeats 2000000 in
theorem turned_c (f t : ByteArray) {w : World} (h : TreeAt B w l adr kv) (htr : treeOk l = true) (hf : f.size < lim) (ht : t.size < lim) (hm : ML w) :
    Calls Tryz.prog 44 #[.pointer (some ⟨adr [], 0, none⟩), .string f, .string t] w (RetP (TurnedP w l f t) w) := by
  have hg := treeOk_iff'.1 htr
  have hl12 : l.length ≤ lim := by have := hg.1; unfold lim; omega
  have H := Lib.hid h; have HG := Lib.hid hg; have HM := Lib.hid hm; have Htr := Lib.hid htr
  have C1 : ∀ W, Ext w W → Calls Tryz.prog 84 #[.string f] W (Ret (.bool (pathOk f)) W) := fun W e => PathValid_c f W hf (HM.out.ext e)
  have C2 : ∀ W, Ext w W → Calls Tryz.prog 84 #[.string t] W (Ret (.bool (pathOk t)) W) := fun W e => PathValid_c t W ht (HM.out.ext e)
  have C3 : ∀ W, Ext w W → Calls Tryz.prog 56 #[.pointer (some ⟨adr [], 0, none⟩), .string f] W (Ret (findV l adr f) W) := fun W e => nodeFind_c (H.out.ext e) HG.out.2 hl12 f hf (HM.out.ext e)
  have C4 : ∀ W, Ext w W → Calls Tryz.prog 18 #[.string t, .string f] W (Ret (.bool (pathOk t && within t f)) W) := fun W e => PathWithin_c t f W ht hf (HM.out.ext e)
  have C5 : ∀ W, Ext w W → Calls Tryz.prog 56 #[.pointer (some ⟨adr [], 0, none⟩), .string t] W (Ret (findV l adr t) W) := fun W e => nodeFind_c (H.out.ext e) HG.out.2 hl12 t ht (HM.out.ext e)
  clear h hg hm
  cases h1 : pathOk f with
  | false =>
    rw [h1] at C1
    have Hv : Hid (mvOk l f t = false) := Lib.hid (by rw [mvOk_if6 htr h1 rfl rfl rfl rfl]; rfl)
    clear h1 htr
    go_enter Tryz.func44, Tryz.ntmps44
    go_wp2_with fail
    refine (C1 _ (Ext.refl w)).mono ?_; rintro e w1 ⟨rfl, he1⟩
    have E1 := (Ext.refl w).trans he1
    go_wp2
    go_ret2
    exact ⟨_, rfl, .inl ⟨.inl Hv.out, rfl⟩, E1⟩
  | true =>
  rw [h1] at C1
  cases h2 : pathOk t with
  | false =>
    rw [h2] at C2
    have Hv : Hid (mvOk l f t = false) := Lib.hid (by rw [mvOk_if6 htr h1 h2 rfl rfl rfl]; rfl)
    clear h1 h2 htr
    go_enter Tryz.func44, Tryz.ntmps44
    go_wp2_with fail
    refine (C1 _ (Ext.refl w)).mono ?_; rintro e w1 ⟨rfl, he1⟩
    have E1 := (Ext.refl w).trans he1
    go_wp2_with fail
    refine (C2 _ E1).mono ?_; rintro e w2 ⟨rfl, he2⟩
    have E2 := E1.trans he2
    go_wp2
    go_ret2
    exact ⟨_, rfl, .inl ⟨.inl Hv.out, rfl⟩, E2⟩
  | true =>
  rw [h2] at C2 C4
  cases h3 : (findIt l f).isSome with
  | false =>
    rw [findV_none h3] at C3
    have Hv : Hid (mvOk l f t = false) := Lib.hid (by rw [mvOk_if6 htr h1 h2 h3 rfl rfl]; rfl)
    clear h1 h2 h3 htr
    go_enter Tryz.func44, Tryz.ntmps44
    go_wp2_with fail
    refine (C1 _ (Ext.refl w)).mono ?_; rintro e w1 ⟨rfl, he1⟩
    have E1 := (Ext.refl w).trans he1
    go_wp2_with fail
    refine (C2 _ E1).mono ?_; rintro e w2 ⟨rfl, he2⟩
    have E2 := E1.trans he2
    go_wp2_with fail
    refine (C3 _ E2).mono ?_; rintro e w3 ⟨rfl, he3⟩
    have E3 := E2.trans he3
    go_wp2
    go_ret2
    exact ⟨_, rfl, .inl ⟨.inl Hv.out, rfl⟩, E3⟩
  | true =>
  obtain ⟨a3, ha3⟩ := findV_some (adr := adr) h3
  rw [ha3] at C3
  rw [Bool.true_and] at C4
  cases h4 : within t f with
  | true =>
    rw [h4] at C4
    have Hv : Hid (mvOk l f t = false) := Lib.hid (by rw [mvOk_if6 htr h1 h2 h3 h4 rfl]; rfl)
    clear h1 h2 h3 h4 htr ha3
    go_enter Tryz.func44, Tryz.ntmps44
    go_wp2_with fail
    refine (C1 _ (Ext.refl w)).mono ?_; rintro e w1 ⟨rfl, he1⟩
    have E1 := (Ext.refl w).trans he1
    go_wp2_with fail
    refine (C2 _ E1).mono ?_; rintro e w2 ⟨rfl, he2⟩
    have E2 := E1.trans he2
    go_wp2_with fail
    refine (C3 _ E2).mono ?_; rintro e w3 ⟨rfl, he3⟩
    have E3 := E2.trans he3
    go_wp2_with fail
    refine (C4 _ E3).mono ?_; rintro e w4 ⟨rfl, he4⟩
    have E4 := E3.trans he4
    go_wp2
    go_ret2
    exact ⟨_, rfl, .inl ⟨.inl Hv.out, rfl⟩, E4⟩
  | false =>
  rw [h4] at C4
  cases h5 : (findIt l t).isSome with
  | true =>
    obtain ⟨a5, ha5⟩ := findV_some (adr := adr) h5
    rw [ha5] at C5
    have Hv : Hid (mvOk l f t = false) := Lib.hid (by rw [mvOk_if6 htr h1 h2 h3 h4 h5]; rfl)
    clear h1 h2 h3 h4 h5 htr ha3 ha5
    go_enter Tryz.func44, Tryz.ntmps44
    go_wp2_with fail
    refine (C1 _ (Ext.refl w)).mono ?_; rintro e w1 ⟨rfl, he1⟩
    have E1 := (Ext.refl w).trans he1
    go_wp2_with fail
    refine (C2 _ E1).mono ?_; rintro e w2 ⟨rfl, he2⟩
    have E2 := E1.trans he2
    go_wp2_with fail
    refine (C3 _ E2).mono ?_; rintro e w3 ⟨rfl, he3⟩
    have E3 := E2.trans he3
    go_wp2_with fail
    refine (C4 _ E3).mono ?_; rintro e w4 ⟨rfl, he4⟩
    have E4 := E3.trans he4
    go_wp2_with fail
    refine (C5 _ E4).mono ?_; rintro e w5 ⟨rfl, he5⟩
    have E5 := E4.trans he5
    go_wp2
    go_ret2
    exact ⟨_, rfl, .inl ⟨.inl Hv.out, rfl⟩, E5⟩
  | false =>
    rw [findV_none h5] at C5
    have Hv : Hid (mvOk l f t = true) := Lib.hid (by rw [mvOk_if6 htr h1 h2 h3 h4 h5]; rfl)
    clear h1 h2 h3 h4 h5 htr ha3
    go_enter Tryz.func44, Tryz.ntmps44
    go_wp2_with fail
    refine (C1 _ (Ext.refl w)).mono ?_; rintro e w1 ⟨rfl, he1⟩
    have E1 := (Ext.refl w).trans he1
    go_wp2_with fail
    refine (C2 _ E1).mono ?_; rintro e w2 ⟨rfl, he2⟩
    have E2 := E1.trans he2
    go_wp2_with fail
    refine (C3 _ E2).mono ?_; rintro e w3 ⟨rfl, he3⟩
    have E3 := E2.trans he3
    go_wp2_with fail
    refine (C4 _ E3).mono ?_; rintro e w4 ⟨rfl, he4⟩
    have E4 := E3.trans he4
    go_wp2_with fail
    refine (C5 _ E4).mono ?_; rintro e w5 ⟨rfl, he5⟩
    have E5 := E4.trans he5
    have E0 := Lib.hid E5
    clear C1 C2 C3 C4 C5 he1 he2 he3 he4 he5 E1 E2 E3 E4 E5
    go_wp2_with fail
    refine (turner_c f t w5).mono ?_
    rintro e w6 ⟨v6, rfl, ⟨a, b, rfl, hba, hbb⟩, he6⟩
    have HBA := Lib.hid hba; have HBB := Lib.hid hbb
    have E6 := Lib.hid (E0.out.trans he6)
    clear hba hbb he6
    go_wp2_with fail
    refine (list_c (H.out.ext E6.out) HG.out.2 HG.out.1).mono ?_
    rintro e w7 ⟨v7, rfl, hI7, he7⟩
    have hpok : Hid (∀ x, x ∈ l → pathOk x.path = true) := Lib.hid fun x hx => tree_path Htr.out hx
    obtain ⟨A7, c7, rfl, hA7⟩ := hI7
    have HA := Lib.hid hA7
    have E7 := Lib.hid (E6.out.trans he7)
    have HB7 : Hid (Blk w7 a 9 #[.string f] ∧ Blk w7 b 9 #[.string t]) := Lib.hid ⟨HBA.out.ext he7, HBB.out.ext he7⟩
    have HM7 := Lib.hid (HM.out.ext E7.out)
    have hs6 : Hid (w.heap.size ≤ w6.heap.size) := Lib.hid E6.out.size
    have hex : ∃ n, l.length = n := ⟨_, rfl⟩
    obtain ⟨n, hn⟩ := hex
    have hn12 := HG.out.1
    rw [hn] at hn12 ⊢
    have Hn := Lib.hid hn
    clear hA7 hn he7 HBA HBB E6 E0 hl12
    go_wp2
    go_loopw [9, 43] (fun v i wr => ∃ (k : Nat) (out : List It), k ≤ n ∧ i = .int .i64 k ∧ Ext w7 wr ∧ OwnS w7.heap.size 32 3 (EIt w.heap.size) wr v out ∧ out.length ≤ k ∧ Hid (copyAll f t l = (copyAll f t (l.drop k)).map fun ys => out ++ ys)) (fun _ i _ => n - (intOf i).toNat)
    case atStart => exact ⟨0, [], by omega, rfl, Ext.refl _, OwnS.nil _ _ _ _ _, by simp, Lib.hid (by simp)⟩
    case round =>
      obtain ⟨k, out, hk, rfl, he, hO, hol, hrest⟩ := hrel
      have HO := Lib.hid hO
      by_cases hlt : k < n
      · obtain ⟨x, hx⟩ := get_of_lt (l := l) (k := k) (by rw [Hn.out]; exact hlt)
        have hpx := hpok.out x (List.mem_of_getElem? hx)
        obtain ⟨bb, o, u2, rfl, -, -, hps, hu, hc0, hc1, hc2⟩ := Its.at_ HA.out hx
        obtain ⟨Ax, cx, rfl, hux⟩ := hu
        have a0 := fun W (e : Ext wr W) => hc0 W (he.trans e); have a1 := fun W (e : Ext wr W) => hc1 W (he.trans e); have a2 := fun W (e : Ext wr W) => hc2 W (he.trans e)
        have HU : Hid (∀ W, Ext wr W → Ints w.heap.size W (.slice Ax x.ids.length cx) x.ids) := Lib.hid fun W e => (Ints.keep (show Ints w6.heap.size w7 _ _ from ⟨_, _, rfl, hux⟩) hs6.out (fun _ _ _ => rfl)).ext (he.trans e)
        have hd := drop_cons hx
        rw [hd] at hrest
        have Cw : ∀ W, Ext w7 W → Calls Tryz.prog 18 #[.string x.path, .string f] W (Ret (.bool (within x.path f)) W) := fun W e => by
          have := PathWithin_c x.path f W hps hf (HM7.out.ext e)
          rwa [hpx, Bool.true_and] at this
        have Cm : ∀ W, Ext w7 W → Calls Tryz.prog 114 #[.string x.path, .pointer (some ⟨a, 0, none⟩), .pointer (some ⟨b, 0, none⟩)] W (Ret (pmV (pmove x.path f t)) W) := fun W e => turner1_c _ _ _ W (HB7.out.1.ext e) (HB7.out.2.ext e) hps hf ht (HM7.out.ext e)
        have q0 := a0 wr (Ext.refl _); have q1 := a1 wr (Ext.refl _); have q2 := a2 wr (Ext.refl _)
        have hbx := Blk.new wr 32 #[.string x.path, .bool x.dir, .slice Ax x.ids.length cx]
        have HBX := Lib.hid hbx
        have he1 : Ext w7 (wr.alloc (.cells #[.string x.path, .bool x.dir, .slice Ax x.ids.length cx] 32)) := he.alloc _
        clear hc0 hc1 hc2 hux hx hd hO hpx a0 a1 a2 hbx
        cases hw : within x.path f with
        | false =>
          rw [hw] at Cw
          rw [copyAll_out hw] at hrest
          clear hw
          go_wp2_with (go_at_call 18; refine (Cw _ he1).mono ?_; rintro e w8 ⟨rfl, he8⟩)
          go_roundw
          case rel => exact ⟨k + 1, out, by omega, by go_num, he1.trans he8, HO.out.ext (EIt_ok _) (((Ext.refl wr).alloc _).trans he8), by omega, hrest⟩
          case measure => simp [intOf]; omega
        | true =>
          rw [hw] at Cw
          cases hp : pmove x.path f t with
          | none =>
            rw [hp] at Cm
            have Hr : Hid (copyAll f t l = none) := Lib.hid (by rw [hrest.out, copyAll_fail hw hp]; rfl)
            change ∀ W, Ext w7 W → Calls Tryz.prog 114 _ W (Ret (.tuple #[.string ⟨#[]⟩, .bool false]) W) at Cm
            clear hw hp hrest
            go_wp2_with fail
            refine (Cw _ he1).mono ?_
            rintro e w8 ⟨rfl, he8⟩
            have z0 := (HBX.out.ext he8).cell 0
            simp at z0
            go_wp2_with fail
            refine (Cm _ (he1.trans he8)).mono ?_
            rintro e w9 ⟨rfl, he9⟩
            go_wp2
            go_ret2
            exact ⟨_, rfl, .inl ⟨.inr Hr.out, rfl⟩, (E7.out.trans (he1.trans he8)).trans he9⟩
          | some p =>
            rw [hp] at Cm
            have hpp : p.size < lim := by have := pathOk_len (pmove_some hp).2.2.2.2.1; unfold lim; omega
            have Hr : Hid (copyAll f t l = (copyAll f t (l.drop (k + 1))).map fun ys => (out ++ [⟨p, x.dir, x.ids⟩]) ++ ys) := Lib.hid (by
              rw [hrest.out, copyAll_in hw hp, Option.map_map]
              congr 1; funext ys; simp)
            change ∀ W, Ext w7 W → Calls Tryz.prog 114 _ W (Ret (.tuple #[.string p, .bool true]) W) at Cm
            have Hpp := Lib.hid hpp
            clear hw hp hrest hpp
            go_wp2_with fail
            refine (Cw _ he1).mono ?_
            rintro e w8 ⟨rfl, he8⟩
            have z0 := (HBX.out.ext he8).cell 0
            simp at z0
            go_wp2_with fail
            refine (Cm _ (he1.trans he8)).mono ?_
            rintro e w9 ⟨rfl, he9⟩
            have he89 := he8.trans he9
            have hb9 := HBX.out.ext he89
            have d0 := hb9.cell 0; have d1 := hb9.cell 1; have d2 := hb9.cell 2
            have f0 := hb9.frozen 0
            simp at d0 d1 d2
            have hX9 : Ext wr w9 := ((Ext.refl wr).alloc _).trans he89
            have HX10 : Hid (Ext w7 (w9.setCell ⟨wr.heap.size, 0, none⟩ (.string p))) := Lib.hid ((he.trans hX9).setCell he.size _)
            have K10 : KeepsT 32 w9 (w9.setCell ⟨wr.heap.size, 0, none⟩ (.string p)) := KeepsT.set (i := 0) hb9 (.string p) rfl
            have HO10 : Hid (OwnS w7.heap.size 32 3 (EIt w.heap.size) (w9.setCell ⟨wr.heap.size, 0, none⟩ (.string p)) _ out) := Lib.hid ((HO.out.ext (EIt_ok _) hX9).frame (fun g hg => by
              obtain ⟨-, cs', hbg⟩ := HO.out.block hg
              exact Below.heap_setCell w9 ⟨wr.heap.size, 0, none⟩ (.string p) g (Nat.ne_of_lt hbg.lt)) (fun _ _ _ e => EIt.keepT e K10 (by decide)))
            have HU10 : Hid (Ints w.heap.size (w9.setCell ⟨wr.heap.size, 0, none⟩ (.string p)) (.slice Ax x.ids.length cx) x.ids) := Lib.hid ((HU.out _ hX9).keepT K10 (by decide))
            have he10 := HX10.out
            clear hb9 K10 hX9 he89 z0
            go_wp2_with (at_builtin; go_must (refine wp_ap1 (w0 := w7) (by rfl) _ _ (by rfl) el_It (EIt_ok _) he10 _ out [⟨p, x.dir, x.ids⟩] (by rfl) HO10.out 1 1 rfl #[.string p, .bool x.dir, .slice Ax x.ids.length cx] _ (by rfl) (by first | rfl | simp) rfl (one3 rfl) (one_E (eit_of_v (x := ⟨p, x.dir, x.ids⟩) Hpp.out HU10.out)) ?_ ?_))
            · simp; unfold lim; omega
            · intro v' w' hO' he' _
              have HO' := Lib.hid hO'; have HE' := Lib.hid he'
              clear hO' he' he10 d0 d1 d2 f0
              go_wp2
              go_roundw
              case rel => exact ⟨k + 1, _, by omega, by go_num, HE'.out, HO'.out, by simp; omega, Hr⟩
              case measure => simp [intOf]; omega
      · have hks : k = n := by omega
        subst hks
        have Hr : Hid (copyAll f t l = some out) := Lib.hid (by
          rw [hrest.out, List.drop_eq_nil_of_le (by rw [Hn.out]; exact Nat.le_refl _), copyAll]; simp)
        clear hrest hO
        obtain ⟨A', c', rfl⟩ := HO.out.form
        go_wp2
        go_ret2
        exact ⟨_, rfl, .inr ⟨Hv.out, out, _, Hr.out, rfl, HO.out.mono E7.out.size⟩, E7.out.trans he⟩
end
end Go.Sf
