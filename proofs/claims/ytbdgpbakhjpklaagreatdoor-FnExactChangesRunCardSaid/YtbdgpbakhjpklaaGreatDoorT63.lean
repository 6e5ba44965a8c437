/- The program makes one change in a map of items. -/
import Derived.Test.YtbdgpbakhjpklaaGreatDoorGG
import Derived.Test.YtbdgpbakhjpklaaGreatDoorM0
import Derived.Test.YtbdgpbakhjpklaaGreatDoorGI
import Derived.Test.YtbdgpbakhjpklaaGreatDoorGN
namespace Go.Sf
open Go Go.RowKit Go.Proofs Go.Maps
def kL (p : ByteArray) : Lit := .string p.data.toList
theorem kL_ne {p q : ByteArray} (h : p ≠ q) : kL p ≠ kL q := fun e => h (bl_inj (by unfold kL at e; injection e))
theorem kL_key (p : ByteArray) : WideAt.IsKeyLit (kL p) := by unfold kL; simp [WideAt.IsKeyLit]
theorem lawS : Keyed Tryz.prog 9 := string_keyed Tryz.underlying9
theorem keyS {p : ByteArray} (h : p.size < lim) : keyOf Tryz.prog 9 (.string p) = some (kL p) := Go.WideMaps.keyOf_string_mk Tryz.underlying9 (by unfold lim at h; unfold maxLen; omega)
theorem zeroIt (w : World) : (zeroValue 32).run Tryz.prog w = .ok (.agg #[.string ByteArray.empty, .bool false, .slice none 0 0]) w := by kernel_rfl
theorem underMap : Tryz.prog.underlying 98 = some (.map 9 32) := Tryz.underlying98
/-- block b is a map that holds the items S by their paths; their ids lie in w0 -/
def MapIs (w0 : World) (b n : Nat) (S : List It) (w : World) : Prop :=
  ∃ M, MapV Tryz.prog 9 b n M w ∧ ∀ p, (findIt S p = none → M (kL p) = none) ∧ ∀ x, findIt S p = some x → ∃ u, M (kL p) = some (.agg #[.string x.path, .bool x.dir, u]) ∧ Ints 0 w0 u x.ids ∧ x.path.size < lim
theorem MapIs.ext {w0 w w' : World} {b n : Nat} {S : List It} (h : MapIs w0 b n S w) (e : Ext w w') : MapIs w0 b n S w' := let ⟨M, h1, h2⟩ := h; ⟨M, h1.ext e, h2⟩
theorem MapIs.mono {w0 w : World} {b n n' : Nat} {S : List It} (h : MapIs w0 b n S w) (e : n ≤ n') : MapIs w0 b n' S w := let ⟨M, h1, h2⟩ := h; ⟨M, h1.mono e, h2⟩
theorem MapIs.made (w0 w : World) : MapIs w0 w.heap.size 0 [] (w.alloc (.map #[] 0)) := ⟨_, MapV.made w, fun p => ⟨(fun _ => rfl), (fun x h => by cases h)⟩⟩
theorem put_is {w0 w : World} {b n : Nat} {S : List It} {M : Lit → Option Value} {x : It} {u : Value} (hS : Srt S) (h2 : ∀ p, (findIt S p = none → M (kL p) = none) ∧ ∀ x, findIt S p = some x → ∃ u, M (kL p) = some (.agg #[.string x.path, .bool x.dir, u]) ∧ Ints 0 w0 u x.ids ∧ x.path.size < lim)
    (hu : Ints 0 w0 u x.ids) (hp : x.path.size < lim) (h : MapV Tryz.prog 9 b n (updM M (kL x.path) (some (.agg #[.string x.path, .bool x.dir, u]))) w) : MapIs w0 b n (putIt x S) w := by
  refine ⟨_, h, fun p => ?_⟩
  rw [find_put hS]
  by_cases e : p = x.path
  · subst e
    rw [if_pos rfl, updM_same]
    exact ⟨(fun h => by cases h), (fun y hy => by cases hy; exact ⟨u, rfl, hu, hp⟩)⟩
  · rw [if_neg e, updM_other (kL_ne e)]
    exact h2 p
theorem drop_is {w0 w : World} {b n : Nat} {S : List It} {M : Lit → Option Value} {x : It} (hS : Srt S) (h2 : ∀ p, (findIt S p = none → M (kL p) = none) ∧ ∀ x, findIt S p = some x → ∃ u, M (kL p) = some (.agg #[.string x.path, .bool x.dir, u]) ∧ Ints 0 w0 u x.ids ∧ x.path.size < lim)
    (h : MapV Tryz.prog 9 b n (updM M (kL x.path) none) w) : MapIs w0 b n (S.filter (awP x)) w := by
  refine ⟨_, h, fun p => ?_⟩
  rw [find_drop hS]
  by_cases e : p = x.path
  · subst e
    rw [if_pos rfl, updM_same]
    exact ⟨fun _ => rfl, fun y hy => by cases hy⟩
  · rw [if_neg e, updM_other (kL_ne e)]
    exact h2 p
def MakeP (w0 : World) (b n : Nat) (S : List It) (c : Ch) (e : Ending) (w' : World) : Prop :=
  e = .returned (.bool (stepOf S c).isSome) ∧ Ext w0 w' ∧ ∀ S', stepOf S c = some S' → MapIs w0 b (n + 1) S' w'
theorem as_oo (v : Value) (w : World) : (Instr.typeAssert (.iface 136 v) 91 136 true).run Tryz.prog w = .ok (.tuple #[v, .bool true]) w := by kernel_rfl
set_option maxHeartbeats 1000000 in
theorem changeFrom_c (k : Int) (x : It) {u : Value} (_hu : u.oneCell' = true) (w : World) : Calls Tryz.prog 71 #[.int .i64 k, .agg #[.string x.path, .bool x.dir, u]] w (RetP (fun r _ => (k = 1 ∨ k = 2 ∨ k = 3) ∧ r = .tuple #[chgV k x u, .bool true] ∨ (k ≠ 1 ∧ k ≠ 2 ∧ k ≠ 3) ∧ r = .tuple #[.nilIface, .bool false]) w) := by
  by_cases h1 : k = 1
  · subst h1
    go_enter Tryz.func71, Tryz.ntmps71
    go_wp2
    go_ret2
    exact ⟨_, rfl, .inl ⟨by simp, rfl⟩, by (repeat' (first | exact Ext.refl _ | assumption | refine Ext.alloc ?_ _ | refine Ext.drew ?_ | refine Ext.drewN ?_ _))⟩
  by_cases h2 : k = 2
  · subst h2
    go_enter Tryz.func71, Tryz.ntmps71
    go_wp2
    go_ret2
    exact ⟨_, rfl, .inl ⟨by simp, rfl⟩, by (repeat' (first | exact Ext.refl _ | assumption | refine Ext.alloc ?_ _ | refine Ext.drew ?_ | refine Ext.drewN ?_ _))⟩
  by_cases h3 : k = 3
  · subst h3
    go_enter Tryz.func71, Tryz.ntmps71
    go_wp2
    go_ret2
    exact ⟨_, rfl, .inl ⟨by simp, rfl⟩, by (repeat' (first | exact Ext.refl _ | assumption | refine Ext.alloc ?_ _ | refine Ext.drew ?_ | refine Ext.drewN ?_ _))⟩
  go_enter Tryz.func71, Tryz.ntmps71
  go_wp2
  go_ret2
  exact ⟨_, rfl, .inr ⟨⟨h1, h2, h3⟩, rfl⟩, by (repeat' (first | exact Ext.refl _ | assumption | refine Ext.alloc ?_ _ | refine Ext.drew ?_ | refine Ext.drewN ?_ _))⟩
set_option maxRecDepth 8000 in
set_option maxHeartbeats 2000000 in
theorem make_new {w0 w : World} {b n : Nat} {S : List It} {x : It} {u : Value} (h0 : Ext w0 w) (hb : w0.heap.size ≤ b) (hS : Srt S) (hM : MapIs w0 b n S w) (hp : x.path.size < lim) (hu : Ints 0 w0 u x.ids) (hn : n < maxLen) :
    Calls Tryz.prog 73 #[.map (some b), .iface 135 (.agg #[.string x.path, .bool x.dir, u])] w (MakeP w0 b n S ⟨1, x⟩) := by
  obtain ⟨M, hV, h2⟩ := hM
  have HV : Hid (∀ W, Ext w W → MapV Tryz.prog 9 b n M W) := Lib.hid fun W e => hV.ext e
  have H2 := Lib.hid h2; have H0 := Lib.hid h0; have HS := Lib.hid hS; have HU := Lib.hid hu
  have hk := keyS hp
  have q1 := as_nn; have q2 := as_gn; have q3 := as_on; have q4 := as_gg; have q5 := as_og; have q6 := as_oo
  have hul := hu.len
  obtain ⟨Au, cu, rfl, hAu⟩ := hu
  clear hV h0 hS hAu
  cases hf : findIt S x.path with
  | none =>
    have hr := (h2 x.path).1 hf
    have hd : stepOf S ⟨1, x⟩ = some (putIt x S) := step_1n hf
    have Hd := Lib.hid hd; clear hd hf h2
    go_enter Tryz.func73, Tryz.ntmps73
    go_wp2_with fail
    refine upon_item (f := 196) (by kernel_rfl) (by kernel_rfl) (newItem_c x _ _ _ _) ?_
    intro w2 he2
    go_wp2_with (first | (at_lookup; refine wp_mlook_ok_none rfl _ _ rfl lawS underMap (zeroIt _) rfl (HV.out _ (by (repeat' (first | exact Ext.refl _ | assumption | refine Ext.alloc ?_ _ | refine Ext.drew ?_ | refine Ext.drewN ?_ _)))) _ _ rfl hk hr ?_) | (at_mapUpdate; (refine wp_mput rfl _ _ _ rfl lawS underMap (H0.out.trans (by (repeat' (first | exact Ext.refl _ | assumption | refine Ext.alloc ?_ _ | refine Ext.drew ?_ | refine Ext.drewN ?_ _)))) hb rfl (HV.out _ (by (repeat' (first | exact Ext.refl _ | assumption | refine Ext.alloc ?_ _ | refine Ext.drew ?_ | refine Ext.drewN ?_ _)))) hn _ _ _ rfl rfl hk ?_); intro w5 hM5 he5 hg5))
    go_ret
    exact ⟨by rw [Hd.out]; rfl, he5, fun S' e => by rw [Hd.out] at e; cases e; exact put_is HS.out H2.out HU.out hp hM5⟩
  | some y =>
    obtain ⟨u', hr, hu', -⟩ := (h2 x.path).2 y hf
    obtain ⟨Au', cu', rfl, -⟩ := hu'
    have hd : stepOf S ⟨1, x⟩ = none := step_1s hf
    have Hd := Lib.hid hd; clear hd hf h2
    go_enter Tryz.func73, Tryz.ntmps73
    go_wp2_with fail
    refine upon_item (f := 196) (by kernel_rfl) (by kernel_rfl) (newItem_c x _ _ _ _) ?_
    intro w2 he2
    go_wp2_with (first | (at_lookup; refine wp_mlook_ok_some rfl _ _ rfl lawS underMap (zeroIt _) rfl (HV.out _ (by (repeat' (first | exact Ext.refl _ | assumption | refine Ext.alloc ?_ _ | refine Ext.drew ?_ | refine Ext.drewN ?_ _)))) _ _ rfl hk hr ?_))
    go_ret
    exact ⟨by rw [Hd.out]; rfl, H0.out.trans (by (repeat' (first | exact Ext.refl _ | assumption | refine Ext.alloc ?_ _ | refine Ext.drew ?_ | refine Ext.drewN ?_ _))), fun S' e => by rw [Hd.out] at e; cases e⟩
set_option maxRecDepth 8000 in
set_option maxHeartbeats 2000000 in
theorem make_gone {w0 w : World} {b n : Nat} {S : List It} {x : It} {u : Value} (h0 : Ext w0 w) (hb : w0.heap.size ≤ b) (hS : Srt S) (hM : MapIs w0 b n S w) (hp : x.path.size < lim) (hu : Ints 0 w0 u x.ids) (_hn : n < maxLen) :
    Calls Tryz.prog 73 #[.map (some b), .iface 134 (.agg #[.string x.path, .bool x.dir, u])] w (MakeP w0 b n S ⟨2, x⟩) := by
  obtain ⟨M, hV, h2⟩ := hM
  have HV : Hid (∀ W, Ext w W → MapV Tryz.prog 9 b n M W) := Lib.hid fun W e => hV.ext e
  have H2 := Lib.hid h2; have H0 := Lib.hid h0; have HS := Lib.hid hS; have HU := Lib.hid hu
  have hk := keyS hp
  have q1 := as_nn; have q2 := as_gn; have q3 := as_on; have q4 := as_gg; have q5 := as_og; have q6 := as_oo
  have hul := hu.len
  obtain ⟨Au, cu, rfl, hAu⟩ := hu
  clear hV h0 hS hAu
  cases hf : findIt S x.path with
  | none =>
    have hr := (h2 x.path).1 hf
    have hd : stepOf S ⟨2, x⟩ = none := step_2n hf
    have Hd := Lib.hid hd; clear hd hf h2
    go_enter Tryz.func73, Tryz.ntmps73
    go_wp2_with fail
    refine upon_item (f := 195) (by kernel_rfl) (by kernel_rfl) (goneItem_c x _ _ _ _) ?_
    intro w2 he2
    go_wp2_with (first | (at_lookup; refine wp_mlook_ok_none rfl _ _ rfl lawS underMap (zeroIt _) rfl (HV.out _ (by (repeat' (first | exact Ext.refl _ | assumption | refine Ext.alloc ?_ _ | refine Ext.drew ?_ | refine Ext.drewN ?_ _)))) _ _ rfl hk hr ?_))
    go_ret
    exact ⟨by rw [Hd.out]; rfl, H0.out.trans (by (repeat' (first | exact Ext.refl _ | assumption | refine Ext.alloc ?_ _ | refine Ext.drew ?_ | refine Ext.drewN ?_ _))), fun S' e => by rw [Hd.out] at e; cases e⟩
  | some y =>
    obtain ⟨u', hr, hu', hyl⟩ := (h2 x.path).2 y hf
    have hd := step_2s (x := x) hf
    have Ce : ∀ W, Ext w W → Calls Tryz.prog 104 #[.agg #[.string y.path, .bool y.dir, u'], .agg #[.string x.path, .bool x.dir, .slice Au x.ids.length cu]] W (Ret (.bool (eqb y x)) W) := fun W e => impl_itemEqual_c W ⟨_, rfl, hyl, hu'.ext (H0.out.trans e)⟩ ⟨_, rfl, hp, HU.out.ext (H0.out.trans e)⟩
    obtain ⟨Au', cu', rfl, -⟩ := hu'
    clear hf h2
    cases he : eqb y x with
    | false =>
      rw [he] at Ce hd
      have Hd := Lib.hid hd; clear hd
      go_enter Tryz.func73, Tryz.ntmps73
      go_wp2_with fail
      refine upon_item (f := 195) (by kernel_rfl) (by kernel_rfl) (goneItem_c x _ _ _ _) ?_
      intro w2 he2
      go_wp2_with (first | (at_lookup; refine wp_mlook_ok_some rfl _ _ rfl lawS underMap (zeroIt _) rfl (HV.out _ (by (repeat' (first | exact Ext.refl _ | assumption | refine Ext.alloc ?_ _ | refine Ext.drew ?_ | refine Ext.drewN ?_ _)))) _ _ rfl hk hr ?_) | (go_at_call 104; refine (Ce _ (by (repeat' (first | exact Ext.refl _ | assumption | refine Ext.alloc ?_ _ | refine Ext.drew ?_ | refine Ext.drewN ?_ _)))).mono ?_; rintro e w4 ⟨rfl, he4⟩))
      go_ret
      exact ⟨by rw [Hd.out]; rfl, (H0.out.trans (Ext.trans (by (repeat' (first | exact Ext.refl _ | assumption | refine Ext.alloc ?_ _ | refine Ext.drew ?_ | refine Ext.drewN ?_ _))) he4)), fun S' e => by rw [Hd.out] at e; cases e⟩
    | true =>
      rw [he, if_pos rfl] at hd
      rw [he] at Ce
      have Hd := Lib.hid hd; clear hd
      go_enter Tryz.func73, Tryz.ntmps73
      go_wp2_with fail
      refine upon_item (f := 195) (by kernel_rfl) (by kernel_rfl) (goneItem_c x _ _ _ _) ?_
      intro w2 he2
      have hbk := Blk.new w2 32 #[.string x.path, .bool x.dir, .slice Au x.ids.length cu]
      have b0 := fun W (e : Ext _ W) => hbk.at_ (i := 0) (u := .string x.path) rfl W e
      go_wp2_with (first | (at_lookup; refine wp_mlook_ok_some rfl _ _ rfl lawS underMap (zeroIt _) rfl (HV.out _ (by (repeat' (first | exact Ext.refl _ | assumption | refine Ext.alloc ?_ _ | refine Ext.drew ?_ | refine Ext.drewN ?_ _)))) _ _ rfl hk hr ?_) | (go_at_call 104; refine (Ce _ (by (repeat' (first | exact Ext.refl _ | assumption | refine Ext.alloc ?_ _ | refine Ext.drew ?_ | refine Ext.drewN ?_ _)))).mono ?_; rintro e w4 ⟨rfl, he4⟩; have c0 := b0 w4 (Ext.trans (by (repeat' (first | exact Ext.refl _ | assumption | refine Ext.alloc ?_ _ | refine Ext.drew ?_ | refine Ext.drewN ?_ _))) he4); have he6 : Ext w w4 := Ext.trans (by (repeat' (first | exact Ext.refl _ | assumption | refine Ext.alloc ?_ _ | refine Ext.drew ?_ | refine Ext.drewN ?_ _))) he4) | (at_delete; refine wp_mdel rfl _ _ rfl lawS underMap (H0.out.trans he6) hb rfl (HV.out _ he6) _ _ rfl hk ?_; intro w5 hM5 he5 hg5))
      go_ret
      exact ⟨by rw [Hd.out]; rfl, he5, fun S' e => by rw [Hd.out] at e; cases e; exact (drop_is HS.out H2.out hM5).mono (by omega)⟩
set_option maxRecDepth 8000 in
set_option maxHeartbeats 2000000 in
theorem make_other {w0 w : World} {b n : Nat} {S : List It} {x : It} {u : Value} (h0 : Ext w0 w) (hb : w0.heap.size ≤ b) (hS : Srt S) (hM : MapIs w0 b n S w) (hp : x.path.size < lim) (hu : Ints 0 w0 u x.ids) (hn : n < maxLen) :
    Calls Tryz.prog 73 #[.map (some b), .iface 136 (.agg #[.string x.path, .bool x.dir, u])] w (MakeP w0 b n S ⟨3, x⟩) := by
  obtain ⟨M, hV, h2⟩ := hM
  have HV : Hid (∀ W, Ext w W → MapV Tryz.prog 9 b n M W) := Lib.hid fun W e => hV.ext e
  have H2 := Lib.hid h2; have H0 := Lib.hid h0; have HS := Lib.hid hS; have HU := Lib.hid hu
  have hk := keyS hp
  have q1 := as_nn; have q2 := as_gn; have q3 := as_on; have q4 := as_gg; have q5 := as_og; have q6 := as_oo
  have hul := hu.len
  obtain ⟨Au, cu, rfl, hAu⟩ := hu
  clear hV h0 hS hAu
  cases hf : findIt S x.path with
  | none =>
    have hr := (h2 x.path).1 hf
    have hd : stepOf S ⟨3, x⟩ = none := step_3n hf
    have Hd := Lib.hid hd; clear hd hf h2
    go_enter Tryz.func73, Tryz.ntmps73
    go_wp2_with fail
    refine upon_item (f := 197) (by kernel_rfl) (by kernel_rfl) (otherItem_c x _ _ _ _) ?_
    intro w2 he2
    go_wp2_with (first | (at_lookup; refine wp_mlook_ok_none rfl _ _ rfl lawS underMap (zeroIt _) rfl (HV.out _ (by (repeat' (first | exact Ext.refl _ | assumption | refine Ext.alloc ?_ _ | refine Ext.drew ?_ | refine Ext.drewN ?_ _)))) _ _ rfl hk hr ?_))
    go_ret
    exact ⟨by rw [Hd.out]; rfl, H0.out.trans (by (repeat' (first | exact Ext.refl _ | assumption | refine Ext.alloc ?_ _ | refine Ext.drew ?_ | refine Ext.drewN ?_ _))), fun S' e => by rw [Hd.out] at e; cases e⟩
  | some y =>
    obtain ⟨u', hr, hu', hyl⟩ := (h2 x.path).2 y hf
    have hd := step_3s (x := x) hf
    have Ce : ∀ W, Ext w W → Calls Tryz.prog 106 #[u', .slice Au x.ids.length cu] W (Ret (.bool (eqb y.ids x.ids)) W) := fun W e => slices_Equal_int_c W (hu'.ext (H0.out.trans e)) (HU.out.ext (H0.out.trans e))
    obtain ⟨Au', cu', rfl, -⟩ := hu'
    obtain ⟨yp, yd, yi⟩ := y
    obtain ⟨xp, xd, xi⟩ := x
    simp only at *
    clear hf h2
    have Fin : ∀ (w' : World), Ext w w' → stepOf S ⟨3, ⟨xp, xd, xi⟩⟩ = none → MakeP w0 b n S ⟨3, ⟨xp, xd, xi⟩⟩ (.returned (.bool false)) w' := fun w' e h => ⟨by rw [h]; rfl, H0.out.trans e, fun S' k => by rw [h] at k; cases k⟩
    have Fin := Lib.hid Fin
    cases yd with
    | true =>
      rw [if_neg (by simp)] at hd
      have Hd := Lib.hid hd; clear hd
      go_enter Tryz.func73, Tryz.ntmps73
      go_wp2_with fail
      refine upon_item (f := 197) (by kernel_rfl) (by kernel_rfl) (otherItem_c ⟨xp, xd, xi⟩ _ _ _ _) ?_
      intro w2 he2
      go_wp2_with (first | (at_lookup; refine wp_mlook_ok_some rfl _ _ rfl lawS underMap (zeroIt _) rfl (HV.out _ (by (repeat' (first | exact Ext.refl _ | assumption | refine Ext.alloc ?_ _ | refine Ext.drew ?_ | refine Ext.drewN ?_ _)))) _ _ rfl hk hr ?_))
      go_ret
      exact Fin.out _ (by (repeat' (first | exact Ext.refl _ | assumption | refine Ext.alloc ?_ _ | refine Ext.drew ?_ | refine Ext.drewN ?_ _))) Hd.out
    | false =>
    cases xd with
    | true =>
      rw [if_neg (by simp)] at hd
      have Hd := Lib.hid hd; clear hd
      go_enter Tryz.func73, Tryz.ntmps73
      go_wp2_with fail
      refine upon_item (f := 197) (by kernel_rfl) (by kernel_rfl) (otherItem_c ⟨xp, true, xi⟩ _ _ _ _) ?_
      intro w2 he2
      go_wp2_with (first | (at_lookup; refine wp_mlook_ok_some rfl _ _ rfl lawS underMap (zeroIt _) rfl (HV.out _ (by (repeat' (first | exact Ext.refl _ | assumption | refine Ext.alloc ?_ _ | refine Ext.drew ?_ | refine Ext.drewN ?_ _)))) _ _ rfl hk hr ?_))
      go_ret
      exact Fin.out _ (by (repeat' (first | exact Ext.refl _ | assumption | refine Ext.alloc ?_ _ | refine Ext.drew ?_ | refine Ext.drewN ?_ _))) Hd.out
    | false =>
    cases he : eqb yi xi with
    | true =>
      rw [if_neg (by simp [eqb_true.1 he])] at hd
      rw [he] at Ce
      have Hd := Lib.hid hd; clear hd
      go_enter Tryz.func73, Tryz.ntmps73
      go_wp2_with fail
      refine upon_item (f := 197) (by kernel_rfl) (by kernel_rfl) (otherItem_c ⟨xp, false, xi⟩ _ _ _ _) ?_
      intro w2 he2
      go_wp2_with (first | (at_lookup; refine wp_mlook_ok_some rfl _ _ rfl lawS underMap (zeroIt _) rfl (HV.out _ (by (repeat' (first | exact Ext.refl _ | assumption | refine Ext.alloc ?_ _ | refine Ext.drew ?_ | refine Ext.drewN ?_ _)))) _ _ rfl hk hr ?_) | (go_at_call 106; refine (Ce _ (by (repeat' (first | exact Ext.refl _ | assumption | refine Ext.alloc ?_ _ | refine Ext.drew ?_ | refine Ext.drewN ?_ _)))).mono ?_; rintro e w4 ⟨rfl, he4⟩))
      go_ret
      exact Fin.out _ (Ext.trans (by (repeat' (first | exact Ext.refl _ | assumption | refine Ext.alloc ?_ _ | refine Ext.drew ?_ | refine Ext.drewN ?_ _))) he4) Hd.out
    | false =>
      rw [if_pos ⟨rfl, rfl, eqb_false.1 he⟩] at hd
      rw [he] at Ce
      have Hd := Lib.hid hd; clear hd
      go_enter Tryz.func73, Tryz.ntmps73
      go_wp2_with fail
      refine upon_item (f := 197) (by kernel_rfl) (by kernel_rfl) (otherItem_c ⟨xp, false, xi⟩ _ _ _ _) ?_
      intro w2 he2
      have hbk := Blk.new w2 32 #[.string xp, .bool false, .slice Au xi.length cu]
      have b0 := fun W (e : Ext _ W) => hbk.at_ (i := 0) (u := .string xp) rfl W e
      have b1 := fun W (e : Ext _ W) => hbk.at_ (i := 1) (u := .bool false) rfl W e
      have b2 := fun W (e : Ext _ W) => hbk.at_ (i := 2) (u := .slice Au xi.length cu) rfl W e
      go_wp2_with (first | (at_lookup; refine wp_mlook_ok_some rfl _ _ rfl lawS underMap (zeroIt _) rfl (HV.out _ (by (repeat' (first | exact Ext.refl _ | assumption | refine Ext.alloc ?_ _ | refine Ext.drew ?_ | refine Ext.drewN ?_ _)))) _ _ rfl hk hr ?_) | (go_at_call 106; refine (Ce _ (by (repeat' (first | exact Ext.refl _ | assumption | refine Ext.alloc ?_ _ | refine Ext.drew ?_ | refine Ext.drewN ?_ _)))).mono ?_; rintro e w4 ⟨rfl, he4⟩; have c0 := b0 w4 (Ext.trans (by (repeat' (first | exact Ext.refl _ | assumption | refine Ext.alloc ?_ _ | refine Ext.drew ?_ | refine Ext.drewN ?_ _))) he4); have c1 := b1 w4 (Ext.trans (by (repeat' (first | exact Ext.refl _ | assumption | refine Ext.alloc ?_ _ | refine Ext.drew ?_ | refine Ext.drewN ?_ _))) he4); have c2 := b2 w4 (Ext.trans (by (repeat' (first | exact Ext.refl _ | assumption | refine Ext.alloc ?_ _ | refine Ext.drew ?_ | refine Ext.drewN ?_ _))) he4); have he6 : Ext w w4 := Ext.trans (by (repeat' (first | exact Ext.refl _ | assumption | refine Ext.alloc ?_ _ | refine Ext.drew ?_ | refine Ext.drewN ?_ _))) he4) | (at_mapUpdate; refine wp_mput rfl _ _ _ rfl lawS underMap (H0.out.trans he6) hb rfl (HV.out _ he6) hn _ _ _ rfl rfl hk ?_; intro w5 hM5 he5 hg5))
      go_ret
      exact ⟨by rw [Hd.out]; rfl, he5, fun S' e => by rw [Hd.out] at e; cases e; exact put_is (x := ⟨xp, false, xi⟩) HS.out H2.out HU.out hp hM5⟩
end Go.Sf
