/- The turns of a path: the program's way. -/
import Derived.Test.YtneabdoianmfhaaGreatDoorT116
import Derived.Test.YtneabdoianmfhaaGreatDoorT28
set_option linter.all false
namespace Go.Sf
open Go Go.RowKit Go.Proofs Go.Maps
/-- a node that stands for an item, or none -/
def NodeIs (B : Nat) (w : World) (v : Value) (p : ByteArray) (o : Option It) : Prop :=
  (o = none ∧ v = .pointer none) ∨ ∃ x g u kv, o = some x ∧ x.path = p ∧ v = .pointer (some ⟨g, 0, none⟩) ∧ Blk w g 241 #[.string (nameOf (key x)), .bool x.dir, u, kv] ∧ Ints B w u x.ids ∧ (nameOf (key x)).size < lim
theorem NodeIs.ext {B : Nat} {w w' : World} {v : Value} {p : ByteArray} {o : Option It} (h : NodeIs B w v p o) (e : Ext w w') : NodeIs B w' v p o := by
  rcases h with h | ⟨x, g, u, kv, h1, h2, h3, h4, h5, h6⟩
  · exact .inl h
  · exact .inr ⟨x, g, u, kv, h1, h2, h3, h4.ext e, h5.ext e, h6⟩
theorem NodeIs.none (B : Nat) (w : World) (p : ByteArray) : NodeIs B w (.pointer none) p none := .inl ⟨rfl, rfl⟩
theorem name_size {x : It} (h : pathOk x.path = true) : (nameOf (key x)).size < lim := by
  have h1 := kid_path (l := [x]) (k := (key x).dropLast) (mem_kids.2 ⟨by simp, rfl⟩)
  have h2 := pathOk_len h
  have h3 := congrArg ByteArray.size h1
  rw [ByteArray.size_append] at h3
  unfold lim; omega
theorem NodeIs.find {B : Nat} {w : World} {l : List It} {adr : Key → Nat} {kv : Key → Value} (h : TreeAt B w l adr kv) (ht : treeOk l = true) (p : ByteArray) : NodeIs B w (findV l adr p) p (findIt l p) := by
  unfold findV
  cases hf : findIt l p with
  | none => exact .inl ⟨rfl, rfl⟩
  | some x =>
    obtain ⟨h1, h2⟩ := findIt_some hf
    obtain ⟨-, -, u, hb, hu⟩ := h.nodes x h1
    exact .inr ⟨x, adr (key x), u, kv (key x), rfl, h2, rfl, hb, hu, name_size (tree_path ht h1)⟩
set_option maxRecDepth 4000 in
set_option maxHeartbeats 1000000 in
theorem self_c {w : World} {g : Nat} {s : ByteArray} {d : Bool} {u kv : Value} (hb : Blk w g 241 #[.string s, .bool d, u, kv]) (hu : ∃ A n c, u = .slice A n c) :
    Calls Tryz.prog 183 #[.pointer (some ⟨g, 0, none⟩)] w (Ret (.agg #[.string s, .bool d, u]) w) := by
  obtain ⟨A, n, c, rfl⟩ := hu
  have e0 : Ext w (w.alloc (.cells #[.string ⟨#[]⟩, .bool false, .slice none 0 0] 100)) := (Ext.refl w).alloc _
  have d0 := fun W (e : Ext w W) => hb.at_ (i := 0) (u := .string s) rfl W e
  have d1 := fun W (e : Ext w W) => hb.at_ (i := 1) (u := .bool d) rfl W e
  have d2 := fun W (e : Ext w W) => hb.at_ (i := 2) (u := .slice A n c) rfl W e
  have hbk := Blk.new w 100 #[.string ⟨#[]⟩, .bool false, .slice none 0 0]
  have z0 := fun W (e : Ext _ W) => hbk.at_ (i := 0) (u := .string ⟨#[]⟩) rfl W e
  have z1 := fun W (e : Ext _ W) => hbk.at_ (i := 1) (u := .bool false) rfl W e
  have z2 := fun W (e : Ext _ W) => hbk.at_ (i := 2) (u := .slice none 0 0) rfl W e
  go_enter Tryz.func183, Tryz.ntmps183
  go_wp2
  refine wp_region_hold (fun W => W.cell? ⟨g, 0, none⟩ = some (.string s) ∧ W.cell? ⟨g, 1, none⟩ = some (.bool d) ∧ W.cell? ⟨g, 2, none⟩ = some (.slice A n c)) 12 [(0, true), (1, true), (2, true), (3, true), (4, true), (5, true), (6, true), (7, true), (8, true), (9, true), (10, true), (11, true)] (by kernel_rfl) (by kernel_rfl) ?_ ?_
  · exact ⟨d0 _ e0.drew, d1 _ e0.drew, d2 _ e0.drew⟩
  (repeat (first | (apply hw_read (by rfl) (by rfl); (· (intro W hW; (try dsimp only at hW); go_simp; (first | done | rfl | (rw [if_pos] <;> first | omega | rfl)))); (try simp only [Act.put, List.setIfInBounds_toArray, List.set_cons_zero, List.set_cons_succ])) | (refine hw_skip (by rfl) (by rfl) ?_; (try simp only [Act.put, List.setIfInBounds_toArray, List.set_cons_zero, List.set_cons_succ]))))
  (refine hw_nil ?_; (try simp only [List.drop_succ_cons, List.drop_zero]))
  have ed := (Ext.refl (w.alloc (.cells #[.string ⟨#[]⟩, .bool false, .slice none 0 0] 100))).drew
  have y0 := z0 _ ed; have y1 := z1 _ ed; have y2 := z2 _ ed
  have f0 := (hbk.ext ed).frozen 0; have f1 := (hbk.ext ed).frozen 1; have f2 := (hbk.ext ed).frozen 2
  clear z0 z1 z2 d0 d1 d2
  go_wp2
  refine NoPanic.normal ?_
  (try dsimp only [Exit.then])
  have hbn := (Blk.new w 100 #[.string s, .bool d, .slice A n c]).ext (Ext.refl _).drew
  have k0 := hbn.cell 0; have k1 := hbn.cell 1; have k2 := hbn.cell 2
  simp at k0 k1 k2
  go_wp2
  exact bodyPost_ret (v := .agg #[.string s, .bool d, .slice A n c]) (by simp [results, Tryz.results183, go_sem, k0, k1, k2]) rfl ⟨rfl, ((Ext.refl w).alloc _).drew⟩
set_option maxRecDepth 4000 in
set_option maxHeartbeats 2000000 in
theorem turnKind_c {B B' : Nat} {va vb : Value} {p : ByteArray} {a b : Option It} (w : World) (ha : NodeIs B w va p a) (hb : NodeIs B' w vb p b) : Calls Tryz.prog 140 #[va, vb] w (Ret (.int .i64 (turnK a b)) w) := by
  rcases ha with ⟨rfl, rfl⟩ | ⟨x, g, u, kv, rfl, hxp, rfl, hb1, hu1, hs1⟩
  · rcases hb with ⟨rfl, rfl⟩ | ⟨y, g', u', kv', rfl, hyp, rfl, hb2, hu2, hs2⟩
    · go_enter Tryz.func140, Tryz.ntmps140
      go_wp2
      go_ret
      exact ⟨rfl, Ext.refl _⟩
    · go_enter Tryz.func140, Tryz.ntmps140
      go_wp2
      go_ret
      exact ⟨rfl, Ext.refl _⟩
  · rcases hb with ⟨rfl, rfl⟩ | ⟨y, g', u', kv', rfl, hyp, rfl, hb2, hu2, hs2⟩
    · go_enter Tryz.func140, Tryz.ntmps140
      go_wp2
      go_ret
      exact ⟨rfl, Ext.refl _⟩
    · have C1 := self_c hb1 (by obtain ⟨A, c, rfl, -⟩ := hu1; exact ⟨_, _, _, rfl⟩)
      have C2 := fun W (e : Ext w W) => self_c (hb2.ext e) (by obtain ⟨A, c, rfl, -⟩ := hu2; exact ⟨_, _, _, rfl⟩)
      have hnn : nameOf (key x) = nameOf (key y) := by unfold key; rw [hxp, hyp]
      have Ce := fun W (e : Ext w W) => impl_itemEqual_c (x := ⟨nameOf (key x), x.dir, x.ids⟩) (y := ⟨nameOf (key y), y.dir, y.ids⟩) W ⟨u, rfl, hs1, hu1.ext e⟩ ⟨u', rfl, hs2, hu2.ext e⟩
      have heq : eqb (⟨nameOf (key x), x.dir, x.ids⟩ : It) ⟨nameOf (key y), y.dir, y.ids⟩ = eqb x y := by
        obtain ⟨xp, xd, xi⟩ := x
        obtain ⟨yp, yd, yi⟩ := y
        simp only at hxp hyp
        subst hxp
        subst hyp
        unfold eqb
        simp [hnn]
      rw [heq] at Ce
      have fin : turnK (some x) (some y) = if eqb x y = true then 0 else 3 := rfl
      rw [fin]
      obtain ⟨A1, c1, rfl, -⟩ := hu1
      obtain ⟨A2, c2, rfl, -⟩ := hu2
      cases he : eqb x y with
      | true =>
        rw [he] at Ce
        clear he fin heq hb1 hb2 hnn
        go_enter Tryz.func140, Tryz.ntmps140
        go_wp2_with (first | (go_at_call 183; first | (refine C1.mono ?_; clear C1; rintro e w1 ⟨rfl, he1⟩) | (refine (C2 _ he1).mono ?_; rintro e w2 ⟨rfl, he2⟩)) | (go_at_call 143; refine (Ce _ (he1.trans he2)).mono ?_; rintro e w3 ⟨rfl, he3⟩))
        go_ret
        exact ⟨rfl, (he1.trans he2).trans he3⟩
      | false =>
        rw [he] at Ce
        clear he fin heq hb1 hb2 hnn
        go_enter Tryz.func140, Tryz.ntmps140
        go_wp2_with (first | (go_at_call 183; first | (refine C1.mono ?_; clear C1; rintro e w1 ⟨rfl, he1⟩) | (refine (C2 _ he1).mono ?_; rintro e w2 ⟨rfl, he2⟩)) | (go_at_call 143; refine (Ce _ (he1.trans he2)).mono ?_; rintro e w3 ⟨rfl, he3⟩))
        go_ret
        exact ⟨rfl, (he1.trans he2).trans he3⟩
end Go.Sf
