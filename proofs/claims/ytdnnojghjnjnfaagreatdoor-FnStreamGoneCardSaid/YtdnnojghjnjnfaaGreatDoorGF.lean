/- slices.Clone of ints. -/
import Derived.Test.YtdnnojghjnjnfaaGreatDoorGD
import Derived.Test.YtdnnojghjnjnfaaGreatDoorShelf
import Derived.Test.YtdnnojghjnjnfaaGreatDoorGE
import Derived.Test.YtdnnojghjnjnfaaGreatDoorGA
import Derived.Test.YtdnnojghjnjnfaaGreatDoorGB
import Derived.Test.YtdnnojghjnjnfaaGreatDoorGC
/-! slices.Clone of ints. -/
namespace Go.Sf
open Go Go.RowKit Go.Proofs
theorem Clone_int_c {B : Nat} {u : Value} {xs : List Int} (w : World) (h : Ints B w u xs) : Calls Tryz.prog 121 #[u] w (RetP (fun v w' => Ints w.heap.size w' v xs) w) := by
  have hlim := h.len
  obtain ⟨A, c, rfl, hA⟩ := h
  have own : ∀ (v' : Value) (w' : World), w'.ownsRow w.heap.size 3 1 v' xs.length (xs.map (Value.int .i64)) → Ints w.heap.size w' v' xs := fun v' w' ho =>
    SlOf.of_own ho (Nat.le_refl _) hlim fun k x cs hx hj => by
      have h0 := hj 0 (by omega)
      obtain ⟨b, o, cs', -, -, -, he⟩ := hA.2.2.2 k x hx
      refine ⟨?_, he.2⟩
      rw [Nat.add_zero, Nat.mul_one] at h0
      rw [Nat.mul_one, h0, List.getElem?_map, hx]; rfl
  cases A with
  | none =>
    have hx : xs = [] := by
      cases xs with
      | nil => rfl
      | cons y ys => obtain ⟨b, o, cs, e, -⟩ := hA.2.2.2 0 y rfl; cases e
    subst hx
    refine (Tryz.slices_Clone_int_nil _ _ w).mono ?_
    rintro e w' ⟨rfl, rfl⟩
    exact ⟨_, rfl, SlOf.nil _ _ _ _ _, Ext.refl _⟩
  | some a =>
    by_cases hx : xs = []
    · subst hx
      refine (Tryz.slices_Clone_int_zero a c w).mono ?_
      rintro e w' ⟨v', rfl, ho, -, hb⟩
      exact ⟨_, rfl, own v' w' ho, hb⟩
    · have hlen : 0 < xs.length := List.length_pos_iff.2 hx
      obtain ⟨b, o, cs, e, -, hb, -⟩ := hA.2.2.2 0 xs[0] (by simp [hlen])
      simp only [Option.some.injEq] at e
      subst e
      unfold lim at hlim
      refine (Tryz.slices_Clone_int b o xs.length c xs w (Nat.le_refl _) (by omega) fun j hj => ?_).mono ?_
      · obtain ⟨b2, o2, cs2, e2, -, hb2, he2⟩ := hA.2.2.2 j xs[j] (by simp [hj])
        simp only [Option.some.injEq, Addr.mk.injEq, and_true] at e2
        obtain ⟨rfl, rfl⟩ := e2
        rw [hb2.cell]
        have := he2.1
        rw [Nat.mul_one] at this
        rw [this]; simp [List.getD_eq_getElem?_getD, hj]
      · rintro e w' ⟨v', rfl, ho, -, hb'⟩
        rw [List.take_length] at ho
        exact ⟨_, rfl, own v' w' ho, hb'⟩
end Go.Sf

/-! An item goes into the tree of nodes, behind all that are there. -/
namespace Go.Sf
open Go Go.RowKit Go.Proofs
/-- what insert leaves: true, and the tree with the item -/
def KeepsN (w w' : World) : Prop := ∀ b t cs, t ≠ 99 → t ≠ 84 → Blk w b t cs → Blk w' b t cs
def InsV (w0 w : World) (l : List It) (x : It) (r : Nat) (e : Ending) (w' : World) : Prop :=
  e = .returned (.bool true) ∧ Ext w0 w' ∧ KeepsN w w' ∧ ∃ adr kv, TreeAt w0.heap.size w' (l ++ [x]) adr kv ∧ adr [] = r
theorem OwnS.grown_keepsT {α : Type} {B t sz : Nat} {E : World → Array Value → Nat → α → Prop} {W w' : World} {v : Value} {l : List α} (h : OwnS B t sz E W v l) (hg : W.grownBy w' v.ownBlock) : KeepsT t W w' :=
  let ⟨_, h1, _⟩ := h; Go.Sf.grown_keepsT h1 hg
theorem OwnS.grown_ext {α : Type} {t sz : Nat} {E : World → Array Value → Nat → α → Prop} {w0 W w' : World} {v : Value} {l : List α} (h : OwnS w0.heap.size t sz E W v l) (h0 : Ext w0 W) (hg : W.grownBy w' v.ownBlock) : Ext w0 w' :=
  let ⟨_, h1, _⟩ := h; Go.Sf.grown_ext h0 h1 hg
theorem names_lt {l : List It} {x : It} (hf : Fits l x) {nm : ByteArray} (h : nm ∈ namesOf l (key x).dropLast) : blt nm (nameOf (key x)) = true := by
  unfold namesOf at h
  obtain ⟨y, hy, rfl⟩ := List.mem_map.1 h
  have h1 := hf.2.1 y (mem_kids.1 hy).1
  rw [key_path_eq y, key_path_eq x, (mem_kids.1 hy).2, lt8_append] at h1
  rw [blt_eq, nameOf_key, nameOf_key, bl_mkB, bl_mkB]; exact h1
theorem fits_place {l : List It} {x : It} (hf : Fits l x) : lbB (namesOf l (key x).dropLast) (nameOf (key x)) = (namesOf l (key x).dropLast).length ∧ hasB (namesOf l (key x).dropLast) (nameOf (key x)) = false := by
  constructor
  · exact lbB_of (Nat.le_refl _) (fun k y _ hy => names_lt hf (List.mem_of_getElem? hy)) (fun y hy => by rw [List.getElem?_eq_none (Nat.le_refl _)] at hy; cases hy)
  · exact hasB_none fun k y hy e => by
      have := names_lt hf (List.mem_of_getElem? hy)
      rw [e, blt_irrefl] at this; cases this
section
variable {w0 w : World} {l : List It} {adr : Key → Nat} {kv : Key → Value}
set_option maxHeartbeats 1000000 in
theorem insert_no_c (h : TreeAt w0.heap.size w l adr kv) (hg : Grow l) (hl : l.length ≤ lim) {B' : Nat} {v : Value} {x : It} (hx : ItV B' w v x) (hm : ML w) (hn : ¬ inDir l x.path) :
    Calls Tryz.prog 105 #[.pointer (some ⟨adr [], 0, none⟩), v] w (Ret (.bool false) w) := by
  obtain ⟨u2, rfl, hps, hI⟩ := hx
  have he : ∀ o, Ext w (w.alloc o) := fun o => (Ext.refl w).alloc o
  have hd := fun o => dirOf_c (h.ext (he o)) hg hl x.path hps (hm.ext (he o))
  rw [dirOfV_no hn] at hd
  have Hd := Lib.hid hd
  clear hd h hg hm hI hn
  go_enter Tryz.func105, Tryz.ntmps105
  go_wp2_with (go_at_call 106; refine (Hd.out _).mono ?_; rintro e w1 ⟨rfl, he1⟩)
  go_ret
  exact ⟨rfl, (he _).trans he1⟩
set_option maxRecDepth 4000 in
set_option maxHeartbeats 2000000 in
theorem insert_c (h : TreeAt w0.heap.size w l adr kv) (hg : Grow l) (hl : l.length < lim) {B' : Nat} {v : Value} {x : It} (hx : ItV B' w v x) (hm : ML w) (hf : Fits l x) (h0 : Ext w0 w) :
    Calls Tryz.prog 105 #[.pointer (some ⟨adr [], 0, none⟩), v] w (InsV w0 w l x (adr [])) := by
  obtain ⟨u2, rfl, hps, hI⟩ := hx
  have hxp := itemOk_path hf.1
  have hin : inDir l x.path := ⟨hxp, hf.2.2⟩
  have hk : isKey l (key x).dropLast := hf.2.2.imp_right fun ⟨z, h1, h2, _⟩ => ⟨z, h1, h2⟩
  have hd := fun W (e : Ext w W) => dirOf_c (h.ext e) hg (Nat.le_of_lt hl) x.path hps (hm.ext e)
  rw [dirOfV_yes hin] at hd
  change ∀ W, Ext w W → Calls _ _ _ _ (Ret (.tuple #[.pointer (some ⟨adr (key x).dropLast, 0, none⟩), .string (nameOf (key x))]) W) at hd
  have hp := fun W (e : Ext w W) => place_c (h.ext e) hg (Nat.le_of_lt hl) hk (nameOf (key x))
  rw [(fits_place hf).1, (fits_place hf).2] at hp
  obtain ⟨dir, ids, ⟨hBk, hO, uk, hbk, -⟩, -⟩ := h.node hk
  have HBk : Hid (∀ W, Ext w W → Blk W (adr (key x).dropLast) 99 #[.string (nameOf (key x).dropLast), .bool dir, uk, kv (key x).dropLast]) := Lib.hid fun W e => hbk.ext e
  have c3 := fun W (e : Ext w W) => hbk.at_ (i := 3) (u := kv (key x).dropLast) rfl W e
  have hlen : (namesOf l (key x).dropLast).length = ((kidsOf l (key x).dropLast).map fun y => adr (key y)).length := by simp [namesOf]
  have hlk : ((kidsOf l (key x).dropLast).map fun y => adr (key y)).length < lim := by rw [← hlen]; exact Nat.lt_of_le_of_lt (namesOf_le _ _) hl
  rw [hlen] at hp
  generalize hkd : (key x).dropLast = k at *
  have Hkd := Lib.hid hkd
  have H := Lib.hid h; have HG := Lib.hid hg; have HF := Lib.hid hf; have HD := Lib.hid hd; have HP := Lib.hid hp
  have HO := Lib.hid hO; have C3 := Lib.hid c3; have HI := Lib.hid hI; have Hlk := Lib.hid hlk; have H0 := Lib.hid h0
  clear hkd h hg hf hd hp hO c3 hI hlk hlen hbk hin hk hm hl h0
  obtain ⟨Ak, ck, hkv⟩ := HO.out.form
  have HIns : Hid (∀ (W : World) (ad : Addr) (b : Nat), Ext w W → W.cell? (ad.add 0) = some (.pointer (some ⟨b, 0, none⟩)) →
      Calls Tryz.prog 141 #[.slice Ak ((kidsOf l k).map fun y => adr (key y)).length ck, .int .i64 ((kidsOf l k).map fun y => adr (key y)).length, .slice (some ad) 1 1] W (GrownV w0.heap.size 84 1 EPtr W (.slice Ak ((kidsOf l k).map fun y => adr (key y)).length ck) (((kidsOf l k).map fun y => adr (key y)) ++ [b]))) :=
    Lib.hid fun W ad b e hc => by
      have := Insert_end_c (B := w0.heap.size) (H0.out.trans e).size (HO.out.ext eptr_ok e) Hlk.out hc
      rwa [hkv] at this
  generalize hn : ((kidsOf l k).map fun y => adr (key y)).length = n at *
  have Hn := Lib.hid hn; clear hn
  have Hkv := Lib.hid hkv
  rw [hkv] at C3 HBk
  clear hkv
  have he1 : Ext w (w.alloc (.cells #[.string x.path, .bool x.dir, u2] 47)) := (Ext.refl w).alloc _
  have hb1 := Blk.new w 47 #[.string x.path, .bool x.dir, u2]
  have b0 := fun W (e : Ext _ W) => hb1.at_ (i := 0) (u := .string x.path) rfl W e
  have b1 := fun W (e : Ext _ W) => hb1.at_ (i := 1) (u := .bool x.dir) rfl W e
  have b2 := fun W (e : Ext _ W) => hb1.at_ (i := 2) (u := u2) rfl W e
  have HBi : Hid (∀ W, Ext _ W → Blk W w.heap.size 47 #[.string x.path, .bool x.dir, u2]) := Lib.hid fun W e => hb1.ext e
  clear hb1
  have bb0 := b0 _ (Ext.refl _)
  go_enter Tryz.func105, Tryz.ntmps105
  go_wp2_with fail
  refine (HD.out _ he1).mono ?_
  rintro e w2 ⟨rfl, he2⟩
  go_wp2_with fail
  refine (HP.out _ (he1.trans he2)).mono ?_
  rintro e w3 ⟨rfl, he3⟩
  have he4 := he1.trans (he2.trans he3)
  have HBi3 : Hid (∀ W, Ext w3 W → Blk W w.heap.size 47 #[.string x.path, .bool x.dir, u2]) := Lib.hid fun W e => HBi.out W ((he2.trans he3).trans e)
  have HBk3 : Hid (∀ W, Ext w3 W → Blk W (adr k) 99 #[.string (nameOf k), .bool dir, uk, .slice Ak n ck]) := Lib.hid fun W e => HBk.out W (he4.trans e)
  have HO3 : Hid (∀ W, Ext w3 W → OwnS w0.heap.size 84 1 EPtr W (.slice Ak n ck) ((kidsOf l k).map fun y => adr (key y))) := Lib.hid fun W e => by rw [← Hkv.out]; exact HO.out.ext eptr_ok (he4.trans e)
  clear HBi HBk
  have D1 := fun W (e : Ext w3 W) => b1 W ((he2.trans he3).trans e)
  have D2 := fun W (e : Ext w3 W) => b2 W ((he2.trans he3).trans e)
  have D3 := fun W (e : Ext w3 W) => C3.out W (he4.trans e)
  clear b0 b1 b2 bb0 he1 he2 he3
  go_wp2
  refine wp_region_hold (fun W => W.cell? ⟨adr k, 3, none⟩ = some (.slice Ak n ck) ∧ W.cell? ⟨w.heap.size, 1, none⟩ = some (.bool x.dir) ∧ W.cell? ⟨w.heap.size, 2, none⟩ = some u2) 16 [(0, true), (1, true), (2, true), (3, true), (4, true), (5, true), (6, true), (7, true), (8, true), (9, true), (10, true), (11, false), (12, true), (13, false), (14, false), (15, false)] (by kernel_rfl) (by kernel_rfl) ?_ ?_
  · exact ⟨D3 _ (Ext.refl _).drew, D1 _ (Ext.refl _).drew, D2 _ (Ext.refl _).drew⟩
  (repeat (first | (apply hw_read (by rfl) (by rfl); (· (intro W hW; (try dsimp only at hW); go_simp; (first | done | rfl | (rw [if_pos] <;> first | omega | rfl)))); (try simp only [Act.put, List.setIfInBounds_toArray, List.set_cons_zero, List.set_cons_succ])) | (refine hw_skip (by rfl) (by rfl) ?_; (try simp only [Act.put, List.setIfInBounds_toArray, List.set_cons_zero, List.set_cons_succ]))))
  refine hw_step (by rfl) ?_
  go_wp2_with (go_at_call 121; refine (Clone_int_c (xs := x.ids) _ (HI.out.ext (he4.trans (Ext.refl _).drew))).mono ?_; rintro e w4 ⟨u9, rfl, ⟨A9, c9, rfl, hu9⟩, he9⟩)
  have he5 := (Ext.refl w3).drew.trans he9
  clear he9
  refine ⟨⟨D3 _ he5, D1 _ he5, D2 _ he5⟩, ?_⟩
  (repeat (first | (apply hw_read (by rfl) (by rfl); (· (intro W hW; (try dsimp only at hW); go_simp; (first | done | rfl | (rw [if_pos] <;> first | omega | rfl)))); (try simp only [Act.put, List.setIfInBounds_toArray, List.set_cons_zero, List.set_cons_succ])) | (refine hw_skip (by rfl) (by rfl) ?_; (try simp only [Act.put, List.setIfInBounds_toArray, List.set_cons_zero, List.set_cons_succ]))))
  refine hw_step (by rfl) ?_
  go_wp2
  refine ⟨⟨D3 _ (he5.alloc _), D1 _ (he5.alloc _), D2 _ (he5.alloc _)⟩, ?_⟩
  (repeat (first | (apply hw_read (by rfl) (by rfl); (· (intro W hW; (try dsimp only at hW); go_simp; (first | done | rfl | (rw [if_pos] <;> first | omega | rfl)))); (try simp only [Act.put, List.setIfInBounds_toArray, List.set_cons_zero, List.set_cons_succ])) | (refine hw_skip (by rfl) (by rfl) ?_; (try simp only [Act.put, List.setIfInBounds_toArray, List.set_cons_zero, List.set_cons_succ]))))
  refine hw_step (by rfl) ?_
  go_wp2
  refine ⟨⟨D3 _ ((he5.alloc _).alloc _), D1 _ ((he5.alloc _).alloc _), D2 _ ((he5.alloc _).alloc _)⟩, ?_⟩
  have he6 := fun o1 o2 => (he5.alloc o1).alloc o2
  have Hu9 : Hid (Ints w0.heap.size w4 (.slice A9 x.ids.length c9) x.ids) := Lib.hid (Ints.keep ⟨_, _, rfl, hu9⟩ (H0.out.trans (he4.trans (Ext.refl _).drew)).size (fun _ _ _ => rfl))
  clear D1 D2 D3 hu9
  (repeat (first | (apply hw_read (by rfl) (by rfl); (· (intro W hW; (try dsimp only at hW); go_simp; (first | done | rfl | (rw [if_pos] <;> first | omega | rfl)))); (try simp only [Act.put, List.setIfInBounds_toArray, List.set_cons_zero, List.set_cons_succ])) | (refine hw_skip (by rfl) (by rfl) ?_; (try simp only [Act.put, List.setIfInBounds_toArray, List.set_cons_zero, List.set_cons_succ]))))
  refine hw_step (by rfl) ?_
  go_wp2_with (go_at_call 141; refine (HIns.out _ ⟨w4.heap.size + 1, 0, none⟩ w4.heap.size (he4.trans (he6 _ _)) ?_).mono ?_; rotate_left; rintro e w7 ⟨v', rfl, hO7, hgr7, hvb7⟩; obtain ⟨A7, c7, hA7⟩ := hO7.form; generalize (((kidsOf l k).map fun y => adr (key y)) ++ [w4.heap.size]).length = n7 at hA7; subst hA7)
  · have hk7 := (HO3.out _ (he6 _ _)).grown_keepsT hgr7
    have bi7 := hk7 _ _ _ (by decide) (HBi3.out _ (he6 _ _))
    have bk7 := hk7 _ _ _ (by decide) (HBk3.out _ (he6 _ _))
    have he7 : Ext w0 w7 := (HO3.out _ (he6 _ _)).grown_ext (H0.out.trans (he4.trans (he6 _ _))) hgr7
    have cc := bk7.cell 3; have cf := bk7.frozen 3; have ci1 := bi7.cell 1; have ci2 := bi7.cell 2
    simp at cc ci1 ci2
    refine ⟨⟨cc, ci1, ci2⟩, ?_⟩
    have Hk := Lib.hid Hkd.out
    have hfin : ∃ adr' kv', TreeAt w0.heap.size (w7.setCell ⟨adr k, 3, none⟩ (.slice A7 n7 c7)) (l ++ [x]) adr' kv' ∧ adr' [] = adr [] ∧ w0.heap.size ≤ adr k := by
      have hh := TreeAt.grow (w4 := w4) (w7 := w7) (x := x) (u := .slice A9 x.ids.length c9) (v' := .slice A7 n7 c7) (H.out.ext (he4.trans he5)) HG.out HF.out (H0.out.trans (he4.trans he5)).size Hu9.out
        (by rw [Hkd.out]; exact hO7) (by rw [Hkd.out, Hkv.out]; exact hgr7) (by rw [Hkd.out, Hkv.out]; simpa using hvb7)
      rw [Hkd.out] at hh
      exact hh
    obtain ⟨adr', kv', hT, ha, -⟩ := hfin
    have hKN : KeepsN w (w7.setCell ⟨adr k, 3, none⟩ (.slice A7 n7 c7)) := fun b t cs ht1 ht2 hb =>
      KeepsT.set (t' := 99) bk7 (.slice A7 n7 c7) rfl b t cs ht1 (hk7 b t cs ht2 (hb.ext (he4.trans (he6 _ _))))
    have HKN := Lib.hid hKN
    have HT := Lib.hid hT; have Ha := Lib.hid ha; have He7 := Lib.hid he7
    clear hKN hT ha he7 hO7 hgr7 hvb7 hk7 bi7 bk7 ci1 ci2
    (refine hw_nil ?_; (try simp only [List.drop_succ_cons, List.drop_zero]))
    go_wp2
    refine NoPanic.normal ?_
    dsimp only [Exit.then]
    go_wp2
    go_ret
    exact ⟨rfl, He7.out.setCell hBk _, HKN.out, adr', kv', HT.out, Ha.out⟩
  · simp [Addr.add]
end
end Go.Sf

/-! Is an item valid by itself? -/
namespace Go.Sf
open Go Go.RowKit Go.Proofs
theorem itemOk_ids {x : It} (h1 : pathOk x.path = true) (h2 : x.ids.length ≤ 4) (h3 : x.dir = false ∨ x.ids = []) : itemOk x = x.ids.all fun i => inB i 1 99 := by
  have : idsOk x = x.ids.all fun i => inB i 1 99 := by
    unfold idsOk
    rcases h3 with h | h
    · simp [h]
    · simp [h]
  rw [itemOk, this, h1]; simp [h2]
set_option maxHeartbeats 2000000 in
theorem itemValid_c {B : Nat} {v : Value} {x : It} (w : World) (h : ItV B w v x) (hm : ML w) : Calls Tryz.prog 104 #[v] w (Ret (.bool (itemOk x)) w) := by
  obtain ⟨u2, rfl, hps, hI⟩ := h
  have he : Ext w (w.alloc (.cells #[.string x.path, .bool x.dir, u2] 47)) := (Ext.refl w).alloc _
  have Cp : ∀ W, Ext w W → Calls Tryz.prog 88 #[.string x.path] W (Ret (.bool (pathOk x.path)) W) := fun W e => PathValid_c _ _ hps (hm.ext e)
  have hl := hI.len
  unfold lim at hl
  obtain ⟨A, c, rfl, hA⟩ := hI
  have hbk := Blk.new w 47 #[.string x.path, .bool x.dir, .slice A x.ids.length c]
  have b0 := fun W (e : Ext _ W) => hbk.at_ (i := 0) (u := .string x.path) rfl W e
  have b1 := fun W (e : Ext _ W) => hbk.at_ (i := 1) (u := .bool x.dir) rfl W e
  have b2 := fun W (e : Ext _ W) => hbk.at_ (i := 2) (u := .slice A x.ids.length c) rfl W e
  clear hbk
  cases hp : pathOk x.path with
  | false =>
    rw [hp] at Cp
    have Hf : Hid (itemOk x = false) := Lib.hid (by simp [itemOk, hp])
    clear hp
    go_enter Tryz.func104, Tryz.ntmps104
    go_wp2_with (go_at_call 88; refine (Cp _ he).mono ?_; rintro e w1 ⟨rfl, he1⟩)
    go_ret
    exact ⟨ret_b Hf.out.symm, he.trans he1⟩
  | true =>
    rw [hp] at Cp
    generalize hn : x.ids.length = n at *
    have Hn := Lib.hid hn; clear hn
    have HA := Lib.hid hA; clear hA
    have Hp := Lib.hid hp; clear hp
    by_cases h4 : 4 < n
    · have h4i : (4 : Int) < (n : Int) := by omega
      have Hf : Hid (itemOk x = false) := Lib.hid (by
        have : ¬ x.ids.length ≤ 4 := by rw [Hn.out]; omega
        simp [itemOk, this])
      go_enter Tryz.func104, Tryz.ntmps104
      go_wp2_with (go_at_call 88; refine (Cp _ he).mono ?_; rintro e w1 ⟨rfl, he1⟩; have c2 := b2 _ he1)
      go_ret
      exact ⟨ret_b Hf.out.symm, he.trans he1⟩
    · have h4i : ¬ (4 : Int) < (n : Int) := by omega
      by_cases hd : x.dir = true ∧ 0 < n
      · obtain ⟨hd, h0⟩ := hd
        have h0i : (0 : Int) < (n : Int) := by omega
        have Hf : Hid (itemOk x = false) := Lib.hid (by
          have : idsOk x = false := by
            unfold idsOk
            rw [List.all_eq_false]
            have hlt : 0 < x.ids.length := by rw [Hn.out]; exact h0
            exact ⟨x.ids[0], List.getElem_mem hlt, by simp [hd]⟩
          simp [itemOk, this])
        rw [hd] at b1
        rw [hd] at b0 b2 he ⊢
        have Hd := Lib.hid hd; clear hd
        go_enter Tryz.func104, Tryz.ntmps104
        go_wp2_with (go_at_call 88; refine (Cp _ he).mono ?_; rintro e w1 ⟨rfl, he1⟩; have c1 := b1 _ he1; have c2 := b2 _ he1)
        go_ret
        exact ⟨ret_b Hf.out.symm, he.trans he1⟩
      · have hor : x.dir = false ∨ x.ids = [] := by
          cases hx : x.dir with
          | false => exact .inl rfl
          | true =>
            right
            have : ¬ 0 < n := fun h => hd ⟨hx, h⟩
            exact List.length_eq_zero_iff.1 (by rw [Hn.out]; omega)
        have Hor : Hid (itemOk x = x.ids.all fun i => inB i 1 99) := Lib.hid (itemOk_ids Hp.out (by rw [Hn.out]; omega) hor)
        clear hor
        have key : ∀ b : Bool, x.dir = b → (b = true → n = 0) → Calls Tryz.prog 104 #[.agg #[.string x.path, .bool x.dir, .slice A n c]] w (Ret (.bool (itemOk x)) w) := by
          intro b hb hbn
          rw [hb] at b1
          rw [hb] at b0 b2 he ⊢
          have Hb := Lib.hid hb; clear hb hd
          cases b with
          | true =>
            have h0 : n = 0 := hbn rfl
            subst h0
            have Ht : Hid (itemOk x = true) := Lib.hid (by rw [Hor.out, List.length_eq_zero_iff.1 Hn.out]; rfl)
            clear hbn
            go_enter Tryz.func104, Tryz.ntmps104
            go_wp2_with (go_at_call 88; refine (Cp _ he).mono ?_; rintro e w1 ⟨rfl, he1⟩; have c1 := b1 _ he1; have c2 := b2 _ he1)
            refine wp_loop_rounds 1 ?_; rw [rounds_succ]
            go_wp2
            go_ret
            exact ⟨ret_b Ht.out.symm, he.trans he1⟩
          | false =>
            clear hbn
            go_enter Tryz.func104, Tryz.ntmps104
            go_wp2_with (go_at_call 88; refine (Cp _ he).mono ?_; rintro e w1 ⟨rfl, he1⟩; have c1 := b1 _ he1; have c2 := b2 _ he1)
            have he2 := he.trans he1
            clear b0 b1 b2 c1 c2 he he1 Cp
            go_loopw [28] (fun i wr => ∃ k : Nat, k ≤ n ∧ i = .int .i64 k ∧ Ext w wr ∧ Hid ((x.ids.take k).all (fun i => inB i 1 99) = true)) (fun i _ => n - (RowKit.intOf i).toNat)
            case atStart => exact ⟨0, by omega, rfl, he2, by simp [Hid]⟩
            case round =>
              obtain ⟨k, hk, rfl, he, hall⟩ := hrel
              by_cases hlt : k < n
              · obtain ⟨y, hy⟩ := get_of_lt (l := x.ids) (k := k) (by rw [Hn.out]; exact hlt)
                obtain ⟨b, o, rfl, -, -, hin, hcc⟩ := Ints.at_ HA.out hy
                have ha := hcc wr he
                have Hy := Lib.hid hy
                clear hcc hy
                by_cases g1 : 1 ≤ y
                · by_cases g2 : y ≤ 99
                  · go_wp2
                    go_roundw
                    case rel =>
                      refine ⟨k + 1, by omega, by go_num, he, ?_⟩
                      show _ = true
                      rw [List.take_add_one, Hy.out, List.all_append, hall.out]
                      simp [inB, g1, g2]
                    case measure => simp [RowKit.intOf]; omega
                  · go_wp2
                    go_ret
                    refine ⟨ret_b ?_, he⟩
                    rw [Hor.out]
                    symm
                    rw [List.all_eq_false]
                    exact ⟨y, List.mem_of_getElem? Hy.out, by simp [inB]; omega⟩
                · go_wp2
                  go_ret
                  refine ⟨ret_b ?_, he⟩
                  rw [Hor.out]
                  symm
                  rw [List.all_eq_false]
                  exact ⟨y, List.mem_of_getElem? Hy.out, by simp [inB]; omega⟩
              · have hks : k = n := by omega
                subst hks
                go_wp2
                go_ret
                refine ⟨ret_b ?_, he⟩
                have := hall.out
                rw [List.take_of_length_le (by rw [Hn.out]; omega)] at this
                rw [Hor.out, this]
        exact key x.dir rfl (fun h => by
          have : ¬ 0 < n := fun h' => hd ⟨h, h'⟩
          omega)
end Go.Sf

/-! The tree of nodes is opened: it is there just where the tree is valid. -/
namespace Go.Sf
open Go Go.RowKit Go.Proofs
/-- what openTree hands back -/
def OpenV (w0 : World) (l : List It) (e : Ending) (w' : World) : Prop :=
  Ext w0 w' ∧ ((treeOk l = false ∧ e = .returned (.tuple #[.pointer none, .bool false])) ∨ (treeOk l = true ∧ ∃ adr kv, e = .returned (.tuple #[.pointer (some ⟨adr [], 0, none⟩), .bool true]) ∧ TreeAt w0.heap.size w' l adr kv))
/-- the path of the item ahead of k -/
def lastPath (l : List It) : Nat → ByteArray
  | 0 => ⟨#[]⟩
  | k + 1 => ((l[k]?).map (·.path)).getD ⟨#[]⟩
theorem fits_next {l : List It} {k : Nat} {x : It} (hg : Grow (l.take k)) (hx : l[k]? = some x) (h1 : blt (lastPath l k) x.path = true) (h2 : itemOk x = true) (h3 : inDir (l.take k) x.path) : Fits (l.take k) x := by
  refine ⟨h2, fun y hy => ?_, h3.2⟩
  cases k with
  | zero => simp at hy
  | succ k =>
    have hk : k < l.length := by have := lt_of_get hx; omega
    have e : lastPath l (k + 1) = l[k].path := by simp [lastPath, hk]
    rw [e, blt_eq] at h1
    obtain ⟨i, hi⟩ := List.mem_iff_getElem?.1 hy
    have hi' := hi
    rw [List.getElem?_take] at hi
    split at hi
    · next hik =>
      rcases Nat.lt_or_ge i k with h | h
      · have hkk : (l.take (k + 1))[k]? = some l[k] := by rw [List.getElem?_take, if_pos (by omega)]; simp [hk]
        exact lt8_trans _ _ _ (hg.lt hi' hkk h) h1
      · have : i = k := by omega
        subst this
        rw [List.getElem?_eq_getElem hk] at hi
        rw [← Option.some.inj hi]; exact h1
    · cases hi
theorem grow_next {l : List It} {k : Nat} {x : It} (hg : Grow l) (hx : l[k]? = some x) : blt (lastPath l k) x.path = true ∧ itemOk x = true ∧ inDir (l.take k) x.path := by
  obtain ⟨h1, h2, h3⟩ := hg k x hx
  refine ⟨?_, h1, itemOk_path h1, h3⟩
  cases k with
  | zero =>
    rw [blt_eq]
    show lt8 [] (bl x.path) = true
    cases hb : bl x.path with
    | nil => have := itemOk_path h1; unfold pathOk at this; rw [hb] at this; exact absurd this (by decide)
    | cons => rfl
  | succ k =>
    have hk : k < l.length := by have := lt_of_get hx; omega
    have e : lastPath l (k + 1) = l[k].path := by simp [lastPath, hk]
    rw [e, blt_eq]
    exact hg.lt (List.getElem?_eq_getElem hk) hx (by omega)
set_option maxRecDepth 4000 in
set_option maxHeartbeats 2000000 in
theorem openTree_c {B : Nat} {v : Value} {l : List It} (w : World) (h : Its B w v l) (hm : ML w) : Calls Tryz.prog 58 #[v] w (OpenV w l) := by
  obtain ⟨A, c, rfl, hA⟩ := h
  have hl := hA.2.2.1
  have HA := Lib.hid hA; clear hA
  have Hl := Lib.hid hl
  unfold lim at hl
  generalize hn : l.length = n at *
  have Hn := Lib.hid hn; clear hn
  by_cases h12 : n ≤ 12
  · have h12i : ¬ (12 : Int) < (n : Int) := by omega
    have HM := Lib.hid hm; clear hm
    go_enter Tryz.func58, Tryz.ntmps58
    go_wp2
    go_loopw [5, 15] (fun s i wr => ∃ k : Nat, k ≤ n ∧ i = .int .i64 k ∧ s = .string (lastPath l k) ∧ Ext w wr ∧ Hid (Grow (l.take k) ∧ ∃ adr kv, TreeAt w.heap.size wr (l.take k) adr kv ∧ adr [] = w.heap.size)) (fun _ i _ => n - (RowKit.intOf i).toNat)
    case atStart =>
      refine ⟨0, by omega, rfl, rfl, (Ext.refl w).alloc _, Lib.hid ⟨Grow.nil, fun _ => w.heap.size, fun _ => .slice none 0 0, ?_, rfl⟩⟩
      have hb := Blk.new w 99 #[.string ⟨#[]⟩, .bool true, .slice none 0 0, .slice none 0 0]
      exact ⟨⟨Nat.le_refl _, OwnS.nil _ _ _ _ _, _, hb, SlOf.nil _ _ _ _ _⟩, fun x hx => by simp at hx, fun k k' hk hk' _ => by
        rcases hk with rfl | ⟨z, hz, -⟩
        · rcases hk' with rfl | ⟨z, hz, -⟩
          · rfl
          · simp at hz
        · simp at hz, fun k k' g _ _ h1 _ => by cases h1⟩
    case round =>
      obtain ⟨k, hk, rfl, rfl, he, hT⟩ := hrel
      by_cases hlt : k < n
      · obtain ⟨x, hx⟩ := get_of_lt (l := l) (k := k) (by rw [Hn.out]; exact hlt)
        obtain ⟨b, o, u2, rfl, -, -, hps, ⟨A2, c2, rfl, hA2⟩, hc0, hc1, hc2⟩ := Its.at_ HA.out hx
        have a0 := hc0 wr he; have a1 := hc1 wr he; have a2 := hc2 wr he
        have Hx := Lib.hid hx
        have HI : Hid (∀ W, Ext wr W → ItV B W (.agg #[.string x.path, .bool x.dir, .slice A2 x.ids.length c2]) x) := Lib.hid fun W e => ⟨_, rfl, hps, Ints.ext ⟨_, _, rfl, hA2⟩ (he.trans e)⟩
        have HMr : Hid (∀ W, Ext wr W → ML W) := Lib.hid fun W e => HM.out.ext (he.trans e)
        have ee : ∀ o1, Ext wr (wr.alloc o1) := fun o1 => (Ext.refl wr).alloc o1
        have Fail : ∀ (W : World), Ext w W → ¬ (blt (lastPath l k) x.path = true ∧ itemOk x = true ∧ inDir (l.take k) x.path) → OpenV w l (.returned (.tuple #[.pointer none, .bool false])) W := fun W e hf =>
          ⟨e, .inl ⟨by
            cases ht : treeOk l with
            | false => rfl
            | true => exact absurd (grow_next (treeOk_iff'.1 ht).2 Hx.out) hf, rfl⟩⟩
        have HFail := Lib.hid Fail
        have hl2 := hA2.2.2.1
        unfold lim at hl2
        clear hc0 hc1 hc2 hx hA2 Fail
        cases hb : blt (lastPath l k) x.path with
        | false =>
          have hle : (Op.bytesLess x.path.toList (lastPath l k).toList || x.path.toList == (lastPath l k).toList) = true := by rw [le_of_blt, hb]; rfl
          have Hb := Lib.hid hb; clear hb
          rw [Bool.or_eq_true] at hle
          rcases hle with hle | hle
          · go_wp2
            go_ret2
            exact HFail.out _ (he.trans (ee _)) (fun h => by rw [Hb.out] at h; cases h.1)
          · cases hle2 : Op.bytesLess x.path.toList (lastPath l k).toList with
            | true =>
              go_wp2
              go_ret2
              exact HFail.out _ (he.trans (ee _)) (fun h => by rw [Hb.out] at h; cases h.1)
            | false =>
              go_wp2
              go_ret2
              exact HFail.out _ (he.trans (ee _)) (fun h => by rw [Hb.out] at h; cases h.1)
        | true =>
          have g1 : Op.bytesLess x.path.toList (lastPath l k).toList = false := by
            show blt x.path (lastPath l k) = false
            rw [blt_eq] at hb ⊢; exact lt8_asymm hb
          have g2 : (x.path.toList == (lastPath l k).toList) = false := by
            rw [bytes_ne_iff, decide_eq_false_iff_not]; exact fun e => blt_ne hb e.symm
          have Hb := Lib.hid hb; clear hb
          cases hio : itemOk x with
          | false =>
            have Ci : ∀ W, Ext wr W → Calls Tryz.prog 104 #[.agg #[.string x.path, .bool x.dir, .slice A2 x.ids.length c2]] W (Ret (.bool false) W) := fun W e => by rw [← hio]; exact itemValid_c W (HI.out W e) (HMr.out W e)
            have Hio := Lib.hid hio; clear hio
            go_wp2_with (go_at_call 104; refine (Ci _ (ee _)).mono ?_; rintro e w2 ⟨rfl, he2⟩)
            go_ret2
            exact HFail.out _ (he.trans ((ee _).trans he2)) (fun h => by rw [Hio.out] at h; cases h.2.1)
          | true =>
            have Ci : ∀ W, Ext wr W → Calls Tryz.prog 104 #[.agg #[.string x.path, .bool x.dir, .slice A2 x.ids.length c2]] W (Ret (.bool true) W) := fun W e => by rw [← hio]; exact itemValid_c W (HI.out W e) (HMr.out W e)
            have Hio := Lib.hid hio; clear hio
            obtain ⟨hgr, adr, kv, hta, had⟩ := hT.out
            have hll : (l.take k).length < lim := by
              have := List.length_take_le' k l
              have := Hn.out; unfold lim; omega
            by_cases hin : inDir (l.take k) x.path
            · have hfit := fits_next hgr Hx.out Hb.out Hio.out hin
              have Cn : ∀ W, Ext wr W → Calls Tryz.prog 105 #[.pointer (some ⟨w.heap.size, 0, none⟩), .agg #[.string x.path, .bool x.dir, .slice A2 x.ids.length c2]] W (InsV w W (l.take k) x w.heap.size) := fun W e => by
                have := insert_c (w0 := w) (hta.ext e) hgr hll (HI.out W e) (HMr.out W e) hfit (he.trans e)
                rwa [had] at this
              have Hnext : Hid (Grow (l.take (k + 1)) ∧ l.take (k + 1) = l.take k ++ [x] ∧ lastPath l (k + 1) = x.path) := Lib.hid (by
                have e : l.take (k + 1) = l.take k ++ [x] := by rw [List.take_add_one, Hx.out]; rfl
                exact ⟨by rw [e]; exact hgr.snoc hfit, e, by simp [lastPath, Hx.out]⟩)
              clear hgr hta had hin hfit hT
              have hbk := Blk.new wr 47 #[.string x.path, .bool x.dir, .slice A2 x.ids.length c2]
              have HBk : Hid (∀ W, Ext _ W → Blk W wr.heap.size 47 #[.string x.path, .bool x.dir, .slice A2 x.ids.length c2]) := Lib.hid fun W e => hbk.ext e
              have bb := fun W (e : Ext _ W) => hbk.at_ (i := 0) (u := .string x.path) rfl W e
              have b1 := fun W (e : Ext _ W) => hbk.at_ (i := 1) (u := .bool x.dir) rfl W e
              have b2 := fun W (e : Ext _ W) => hbk.at_ (i := 2) (u := .slice A2 x.ids.length c2) rfl W e
              clear hbk
              go_wp2_with (first | (go_at_call 104; refine (Ci _ (ee _)).mono ?_; rintro e w2 ⟨rfl, he2⟩; have q0 := bb _ he2; have q1 := b1 _ he2; have q2 := b2 _ he2) | (go_at_call 105; refine (Cn _ ((ee _).trans he2)).mono ?_; rintro e w3 ⟨rfl, he3, hkn, hT3⟩; have z0 := (hkn _ _ _ (by decide) (by decide) (HBk.out _ he2)).cell 0; simp at z0; have HT3 := Lib.hid hT3; clear hT3 hkn q0 q1 q2 bb b1 b2))
              go_roundw
              case rel =>
                refine ⟨k + 1, by omega, by go_num, by rw [Hnext.out.2.2], he3, Lib.hid ⟨Hnext.out.1, ?_⟩⟩
                rw [Hnext.out.2.1]; exact HT3.out
              case measure => simp [RowKit.intOf]; omega
            · have Cn : ∀ W, Ext wr W → Calls Tryz.prog 105 #[.pointer (some ⟨w.heap.size, 0, none⟩), .agg #[.string x.path, .bool x.dir, .slice A2 x.ids.length c2]] W (Ret (.bool false) W) := fun W e => by
                have := insert_no_c (w0 := w) (hta.ext e) hgr (Nat.le_of_lt hll) (HI.out W e) (HMr.out W e) hin
                rwa [had] at this
              have Hin := Lib.hid hin
              clear hgr hta had hin hT
              have hbk := Blk.new wr 47 #[.string x.path, .bool x.dir, .slice A2 x.ids.length c2]
              have bb := fun W (e : Ext _ W) => hbk.at_ (i := 0) (u := .string x.path) rfl W e
              have b1 := fun W (e : Ext _ W) => hbk.at_ (i := 1) (u := .bool x.dir) rfl W e
              have b2 := fun W (e : Ext _ W) => hbk.at_ (i := 2) (u := .slice A2 x.ids.length c2) rfl W e
              clear hbk
              go_wp2_with (first | (go_at_call 104; refine (Ci _ (ee _)).mono ?_; rintro e w2 ⟨rfl, he2⟩; have q0 := bb _ he2; have q1 := b1 _ he2; have q2 := b2 _ he2) | (go_at_call 105; refine (Cn _ ((ee _).trans he2)).mono ?_; rintro e w3 ⟨rfl, he3⟩))
              go_ret2
              exact HFail.out _ (he.trans (((ee _).trans he2).trans he3)) (fun h => Hin.out h.2.2)
      · have hks : k = n := by omega
        subst hks
        have e : l.take k = l := List.take_of_length_le (by rw [Hn.out]; omega)
        have hT2 := hT.out
        rw [e] at hT2
        have HT2 := Lib.hid hT2
        clear hT hT2 e
        go_wp2
        go_ret2
        obtain ⟨hgr, adr, kv, hta, had⟩ := HT2.out
        refine ⟨he, .inr ⟨treeOk_iff'.2 ⟨by rw [Hn.out]; exact h12, hgr⟩, adr, kv, ?_, hta⟩⟩
        rw [had]; rfl
  · have h12i : (12 : Int) < (n : Int) := by omega
    have Hf : Hid (treeOk l = false) := Lib.hid (treeOk_false.2 fun h => by have := h.1; rw [Hn.out] at this; omega)
    go_enter Tryz.func58, Tryz.ntmps58
    go_wp2
    go_ret2
    exact ⟨Ext.refl w, .inl ⟨Hf.out, rfl⟩⟩
end Go.Sf

/-! The items of a tree of nodes are listed. -/
namespace Go.Sf
open Go Go.RowKit Go.Proofs
theorem bl_append (a b : ByteArray) : bl (a ++ b) = bl a ++ bl b := by
  unfold bl; simp
theorem kid_path {l : List It} {k : Key} {x : It} (h : x ∈ kidsOf l k) : mkB (startOf k) ++ nameOf (key x) = x.path := by
  apply bl_inj
  rw [bl_append, bl_mkB, nameOf_key, bl_mkB, key_path_eq x, (mem_kids.1 h).2]
theorem kid_start (x : It) : x.path ++ (⟨#[47]⟩ : ByteArray) = mkB (startOf (key x)) := by
  apply bl_inj
  rw [bl_append, bl_mkB, startOf, if_neg (key_ne x), key_join]; rfl
theorem flat_take {l : List It} {d : Nat} {k : Key} {j : Nat} {x : It} (h : (kidsOf l k)[j]? = some x) :
    ((kidsOf l k).take (j + 1)).flatMap (fun x => x :: flat l d (key x)) = ((kidsOf l k).take j).flatMap (fun x => x :: flat l d (key x)) ++ [x] ++ flat l d (key x) := by
  rw [List.take_add_one, h]
  simp
def bdF : Nat → Nat
  | 0 => 0
  | d + 1 => 12 * (1 + bdF d)
theorem flatMap_len {α β : Type} (L : List α) (f : α → List β) (b : Nat) (h : ∀ x, x ∈ L → (f x).length ≤ b) : (L.flatMap f).length ≤ L.length * b := by
  induction L with
  | nil => simp
  | cons a L ih =>
    rw [List.flatMap_cons, List.length_append, List.length_cons, Nat.add_mul]
    have h1 := h a (by simp)
    have h2 := ih fun x hx => h x (by simp [hx])
    omega
theorem flat_len {l : List It} (hl : l.length ≤ 12) : ∀ d k, (flat l d k).length ≤ bdF d := by
  intro d
  induction d with
  | zero => intro k; simp [flat]
  | succ d ih =>
    intro k
    rw [flat]
    have h1 := flatMap_len (kidsOf l k) (fun x => x :: flat l d (key x)) (1 + bdF d) (fun x _ => by have := ih (key x); simp; omega)
    have h2 : (kidsOf l k).length ≤ 12 := Nat.le_trans (List.length_filter_le _ _) hl
    exact Nat.le_trans h1 (Nat.mul_le_mul_right _ h2)
theorem bdF_le {d : Nat} (h : d ≤ 4) : bdF d ≤ 22620 := by
  match d, h with
  | 0, _ => decide
  | 1, _ => decide
  | 2, _ => decide
  | 3, _ => decide
  | 4, _ => decide
theorem flat_take_len {l : List It} (hl : l.length ≤ 12) {d : Nat} (hd : d + 1 ≤ 4) (k : Key) (j : Nat) : (((kidsOf l k).take j).flatMap fun x => x :: flat l d (key x)).length ≤ 22620 := by
  refine Nat.le_trans (flatMap_len _ _ (1 + bdF d) (fun x _ => by have := flat_len hl d (key x); simp; omega)) ?_
  have h2 : ((kidsOf l k).take j).length ≤ 12 := Nat.le_trans (List.length_take_le' _ _) (Nat.le_trans (List.length_filter_le _ _) hl)
  exact Nat.le_trans (Nat.mul_le_mul_right _ h2) (bdF_le hd)
theorem kids_deep {l : List It} (hg : Grow l) {k : Key} (h : 4 ≤ k.length) : kidsOf l k = [] := by
  rw [kidsOf, List.filter_eq_nil_iff]
  intro x hx
  simp only [kin, decide_eq_true_eq]
  intro e
  have h4 := (key_ok (itemOk_path (hg.fits hx).1)).2
  have h1 := congrArg List.length (key_last (x := x))
  rw [e, List.length_append, List.length_singleton] at h1
  omega
section
variable {B : Nat} {l : List It} {adr : Key → Nat} {kv : Key → Value}
set_option maxRecDepth 4000 in
set_option maxHeartbeats 2000000 in
theorem listIn_c (hg : Grow l) (hl : l.length ≤ 12) : ∀ (d : Nat) (w : World) (k : Key), TreeAt B w l adr kv → isKey l k → 4 ≤ k.length + d → d ≤ 4 →
    Calls Tryz.prog 139 #[.pointer (some ⟨adr k, 0, none⟩), .string (mkB (startOf k))] w (RetP (fun v w' => OwnS w.heap.size 47 3 (EIt w.heap.size) w' v (flat l d k)) w) := by
  intro d
  induction d with
  | zero =>
    intro w k h hk hd _
    obtain ⟨A, c, hkv, -⟩ := h.kids hk
    obtain ⟨dir, ids, ⟨-, -, u, hb, -⟩, -⟩ := h.node hk
    have hn : (namesOf l k).length = 0 := by unfold namesOf; rw [kids_deep hg (by simpa using hd)]; rfl
    rw [hkv, hn] at hb
    have cc3 := hb.cell 3
    simp at cc3
    clear hkv hb h hk hn hg
    go_enter Tryz.func139, Tryz.ntmps139
    go_wp2
    refine wp_loop_rounds 1 ?_; rw [rounds_succ]
    go_wp2
    go_ret
    exact ⟨_, rfl, OwnS.nil _ _ _ _ _, Ext.refl w⟩
  | succ d ih =>
    intro w k h hk hd hd4
    have H := Lib.hid h
    have HG := Lib.hid hg
    have Hk := Lib.hid hk
    have IH := Lib.hid ih
    obtain ⟨A, c, hkv, hP⟩ := h.kids hk
    obtain ⟨dir, ids, ⟨hB, hO, u, hb, hu⟩, -⟩ := h.node hk
    rw [hkv] at hb
    have c3 := hb.at_ (i := 3) (u := .slice A (namesOf l k).length c) rfl
    have cc3 := c3 w (Ext.refl w)
    have HP := Lib.hid hP
    have hnl := namesOf_le l k
    have hlen : (namesOf l k).length = (kidsOf l k).length := by simp [namesOf]
    have Hlen := Lib.hid hlen
    clear hkv hb hO hu hP h hg hk ih hlen
    generalize hn : (namesOf l k).length = n at *
    have Hn := Lib.hid hn; clear hn
    go_enter Tryz.func139, Tryz.ntmps139
    go_wp2
    go_loopw [5, 14] (fun v i wr => ∃ j : Nat, j ≤ n ∧ i = .int .i64 j ∧ Ext w wr ∧ OwnS w.heap.size 47 3 (EIt w.heap.size) wr v (((kidsOf l k).take j).flatMap fun x => x :: flat l d (key x))) (fun _ i _ => n - (RowKit.intOf i).toNat)
    case atStart => exact ⟨0, by omega, rfl, Ext.refl w, OwnS.nil _ _ _ _ _⟩
    case round =>
      obtain ⟨j, hj, rfl, he, hO⟩ := hrel
      by_cases hlt : j < n
      · obtain ⟨x, hx⟩ := get_of_lt (l := kidsOf l k) (k := j) (by rw [← Hlen.out]; exact hlt)
        have hnm : (namesOf l k)[j]? = some (nameOf (key x)) := by unfold namesOf; rw [List.getElem?_map, hx]; rfl
        obtain ⟨ab, ao, pb, hpb, hAe, h1, h2⟩ := HP.out j _ hnm
        subst hAe
        have hxk : x ∈ kidsOf l k := List.mem_of_getElem? hx
        have hxl := (mem_kids.1 hxk).1
        have hpe : pb = adr (key x) := by
          rw [List.getElem?_map, hx] at hpb; exact (Option.some.inj hpb).symm
        subst hpe
        obtain ⟨-, -, ux, hbx, hux⟩ := H.out.nodes x hxl
        obtain ⟨Ax, cx, rfl, hAx⟩ := hux
        have f1 := fun W (e : Ext wr W) => h1 W (he.trans e)
        have g0 := fun W (e : Ext wr W) => hbx.at_ (i := 0) (u := .string (nameOf (key x))) rfl W (he.trans e)
        have g1 := fun W (e : Ext wr W) => hbx.at_ (i := 1) (u := .bool x.dir) rfl W (he.trans e)
        have g2 := fun W (e : Ext wr W) => hbx.at_ (i := 2) (u := .slice Ax x.ids.length cx) rfl W (he.trans e)
        have HI : Hid (∀ W, Ext wr W → Ints B W (.slice Ax x.ids.length cx) x.ids) := Lib.hid fun W e => Ints.ext ⟨_, _, rfl, hAx⟩ (he.trans e)
        have hcat := kid_path hxk
        have hcat2 := kid_start x
        have Hft := Lib.hid (flat_take (d := d) hx)
        have Hx := Lib.hid hx
        have HO := Lib.hid hO
        have Hkx : Hid (isKey l (key x) ∧ 4 ≤ (key x).length + d) := Lib.hid ⟨.inr ⟨x, hxl, rfl⟩, by rw [name_kid hxk]; simp; omega⟩
        have hp23 := pathOk_len (itemOk_path (HG.out.fits hxl).1)
        have hs1 : (mkB (startOf k)).size + (nameOf (key x)).size = x.path.size := by rw [← hcat]; simp
        have hs2 : ¬ 9223372036854775807 < (mkB (startOf k)).size + (nameOf (key x)).size := by omega
        have hs3 : ¬ 9223372036854775807 < x.path.size + 1 := by omega
        have hps : x.path.size < lim := by unfold lim; omega
        have Hps := Lib.hid hps
        have hlen1 := flat_take_len hl hd4 k j
        have hlen2 := flat_take_len hl hd4 k (j + 1)
        rw [Hft.out] at hlen2
        simp only [List.length_append, List.length_singleton] at hlen2
        have Hl1 := Lib.hid hlen1; have Hl2 := Lib.hid hlen2
        clear h1 h2 hbx hAx hx hnm hpb hxk hxl hO hs1 hps hlen1 hlen2
        generalize hL : ((kidsOf l k).take j).flatMap (fun x => x :: flat l d (key x)) = L at *
        clear hL
        have q1 := f1 wr (Ext.refl _)
        have q0 := g0 wr (Ext.refl _)
        go_wp2
        refine wp_region_hold (fun W => W.cell? ⟨adr (key x), 1, none⟩ = some (.bool x.dir) ∧ W.cell? ⟨adr (key x), 2, none⟩ = some (.slice Ax x.ids.length cx)) 13 [(0, true), (1, true), (2, true), (3, true), (4, true), (5, true), (6, true), (7, true), (8, true), (9, true), (10, false), (11, true), (12, false)] (by kernel_rfl) (by kernel_rfl) ?_ ?_
        · exact ⟨g1 _ (Ext.refl _).drew, g2 _ (Ext.refl _).drew⟩
        (repeat (first | (apply hw_read (by rfl) (by rfl); (· (intro W hW; (try dsimp only at hW); go_simp; (first | done | rfl | (rw [if_pos] <;> first | omega | rfl)))); (try simp only [Act.put, List.setIfInBounds_toArray, List.set_cons_zero, List.set_cons_succ])) | (refine hw_skip (by rfl) (by rfl) ?_; (try simp only [Act.put, List.setIfInBounds_toArray, List.set_cons_zero, List.set_cons_succ]))))
        refine hw_step (by rfl) ?_
        go_wp2_with (go_at_call 121; refine (Clone_int_c (xs := x.ids) _ (HI.out _ (Ext.refl _).drew)).mono ?_; rintro e w4 ⟨u9, rfl, ⟨A9, c9, rfl, hu9⟩, he9⟩)
        have he5 := (Ext.refl wr).drew.trans he9
        have he6 := he.trans he5
        have Hu9 : Hid (Ints w.heap.size w4 (.slice A9 x.ids.length c9) x.ids) := Lib.hid (Ints.keep ⟨_, _, rfl, hu9⟩ (he.trans (Ext.refl _).drew).size (fun _ _ _ => rfl))
        have HO6 := Lib.hid (HO.out.ext (EIt_ok _) he5)
        clear he9 hu9
        refine ⟨⟨g1 _ he5, g2 _ he5⟩, ?_⟩
        (repeat (first | (apply hw_read (by rfl) (by rfl); (· (intro W hW; (try dsimp only at hW); go_simp; (first | done | rfl | (rw [if_pos] <;> first | omega | rfl)))); (try simp only [Act.put, List.setIfInBounds_toArray, List.set_cons_zero, List.set_cons_succ])) | (refine hw_skip (by rfl) (by rfl) ?_; (try simp only [Act.put, List.setIfInBounds_toArray, List.set_cons_zero, List.set_cons_succ]))))
        refine hw_step (by rfl) ?_
        go_wp2
        refine ⟨⟨g1 _ (he5.alloc _), g2 _ (he5.alloc _)⟩, ?_⟩
        (refine hw_nil ?_; (try simp only [List.drop_succ_cons, List.drop_zero]))
        go_wp2_with (at_builtin; go_must (refine wp_ap1 (w0 := w) (by rfl) _ _ (by rfl) el_It (EIt_ok _) he6 _ L [x] (by rfl) HO6.out 1 1 rfl #[.string x.path, .bool x.dir, .slice A9 x.ids.length c9] _ (by rfl) (by first | rfl | simp) rfl (one3 rfl) (one_E (eit_of_v Hps.out Hu9.out)) ?_ ?_))
        · have := Hl1.out; simp; unfold lim; omega
        · intro v' w' hO' he' _
          have HO' := Lib.hid hO'
          clear hO' f1 g0 g1 g2 q0 q1 he5 he6
          go_wp2
          refine NoPanic.normal ?_
          dsimp only [Exit.then]
          obtain ⟨A', c', rfl⟩ := HO'.out.form
          have HO1 := HO'.out
          rw [show (L ++ [x]).length = L.length + 1 by simp] at HO1 ⊢
          have HO' := Lib.hid HO1
          clear HO1
          go_wp2_with fail
          refine (IH.out _ (key x) (H.out.ext he') Hkx.out.1 Hkx.out.2 (by omega)).mono ?_
          rintro e w5 ⟨v5, rfl, hO5, he7⟩
          have hfl := flat_len hl d (key x)
          have hfb := bdF_le (d := d) (by omega)
          have HS5 : Hid (Its w.heap.size w5 v5 (flat l d (key x))) := Lib.hid (Its.keep (hO5.sl (EIt_ok _) (Nat.le_refl _) (by unfold lim; omega)) (Ext.size he') (fun _ _ _ => rfl))
          have HO7 := Lib.hid (HO'.out.ext (EIt_ok _) he7)
          have he8 := he'.trans he7
          clear hO5 he' he7 hfl hfb
          go_wp2_with (at_builtin; go_must (refine wp_apS (w0 := w) (by rfl) _ _ (by rfl) el_It (EIt_ok _) he8 _ v5 (L ++ [x]) (flat l d (key x)) (by rfl) HO7.out (by rfl) HS5.out ?_ ?_))
          · have := Hl2.out; simp; unfold lim; omega
          · intro v'' w'' hO'' he'' _
            have HO'' := Lib.hid hO''
            clear hO'' he8
            go_wp2
            go_roundw
            case rel => exact ⟨j + 1, by omega, by go_num, he'', by rw [Hft.out]; simpa using HO''.out⟩
            case measure => simp [RowKit.intOf]; omega
      · have hjs : j = n := by omega
        subst hjs
        have e : (kidsOf l k).take j = kidsOf l k := List.take_of_length_le (by rw [Hlen.out]; omega)
        rw [e] at hO
        have HO := Lib.hid hO
        clear hO e
        go_wp2
        go_ret
        exact ⟨_, rfl, HO.out, he⟩
set_option maxHeartbeats 1000000 in
theorem list_c {w : World} (h : TreeAt B w l adr kv) (hg : Grow l) (hl : l.length ≤ 12) : Calls Tryz.prog 98 #[.pointer (some ⟨adr [], 0, none⟩)] w (RetP (fun v w' => Its w.heap.size w' v l) w) := by
  have hc := listIn_c hg hl 4 w [] h (.inl rfl) (by simp) (Nat.le_refl _)
  rw [flat_list l hg] at hc
  have HC : Hid (Calls Tryz.prog 139 #[.pointer (some ⟨adr [], 0, none⟩), .string ⟨#[]⟩] w (RetP (fun v w' => OwnS w.heap.size 47 3 (EIt w.heap.size) w' v l) w)) := Lib.hid hc
  have Hl : Hid (l.length ≤ lim) := Lib.hid (by unfold lim; omega)
  clear hc h hg hl
  go_enter Tryz.func98, Tryz.ntmps98
  go_wp2_with (go_at_call 139; refine HC.out.mono ?_; rintro e w1 ⟨v, rfl, hO, he⟩)
  go_ret
  exact ⟨_, rfl, hO.sl (EIt_ok _) (Nat.le_refl _) Hl.out, he⟩
end
end Go.Sf

/-! The changes between two lists of items. -/
namespace Go.Sf
open Go Go.RowKit Go.Proofs
/-- what the loop keeps: la and lb are still to come -/
def CbRel (B : Nat) (l1 l2 : List It) (w : World) (v1 v2 v : Value) (wr : World) : Prop :=
  ∃ la lb out A1 c1 A2 c2, v1 = .slice A1 la.length c1 ∧ v2 = .slice A2 lb.length c2 ∧ Hid (SlIn B 47 3 (EIt B) w A1 c1 la) ∧ Hid (SlIn B 47 3 (EIt B) w A2 c2 lb) ∧ Ext w wr ∧
    Hid (OwnS w.heap.size 123 1 (ECg B) wr v out) ∧ out.length + (la.length + lb.length) ≤ l1.length + l2.length ∧ Hid (out ++ chg la lb = chg l1 l2)
theorem SlIn.tailIf {B : Nat} {w : World} {b o c : Nat} {x : It} {l : List It} (h : SlIn B 47 3 (EIt B) w (some ⟨b, o, none⟩) c (x :: l)) : SlIn B 47 3 (EIt B) w (if c = 1 then some ⟨b, o, none⟩ else some ⟨b, o + 3, none⟩) (c - 1) l := by
  by_cases hc : c = 1
  · rw [if_pos hc]; exact h.tail0 hc (by simp)
  · rw [if_neg hc]; exact h.tail
theorem ecg_of {B : Nat} {w : World} {x : It} {u : Value} {k : Int} (hk : k = 1 ∨ k = 2 ∨ k = 3) (h1 : x.path.size < lim) (h2 : Ints B w u x.ids) : ECg B w #[chgV k x u] 0 ⟨k, x⟩ := ⟨hk, h1, u, rfl, h2⟩
theorem one1 {k : Int} {x : It} {u : Value} : ∀ c ∈ (#[chgV k x u] : Array Value).toList, c.oneCell' = true := by
  intro c hc; simp at hc; subst hc; rfl
theorem one2c {k k' : Int} {x y : It} {u u' : Value} : ∀ c ∈ (#[chgV k x u, chgV k' y u'] : Array Value).toList, c.oneCell' = true := by
  intro c hc; simp at hc; rcases hc with rfl | rfl <;> rfl
set_option maxRecDepth 4000 in
set_option maxHeartbeats 4000000 in
theorem changesBetween_c {B : Nat} {v1 v2 : Value} {l1 l2 : List It} (w : World) (h1 : Its B w v1 l1) (h2 : Its B w v2 l2) (hlen : l1.length + l2.length ≤ 1000) :
    Calls Tryz.prog 77 #[v1, v2] w (RetP (fun v w' => OwnS w.heap.size 123 1 (ECg B) w' v (chg l1 l2)) w) := by
  obtain ⟨A10, c10, rfl, hA10⟩ := h1
  obtain ⟨A20, c20, rfl, hA20⟩ := h2
  have H10 := Lib.hid hA10
  have H20 := Lib.hid hA20
  clear hA10 hA20
  go_enter Tryz.func77, Tryz.ntmps77
  go_wp2
  go_loopw [0, 1, 5] (fun v1 v2 v wr => CbRel B l1 l2 w v1 v2 v wr) (fun v1 v2 _ _ => lenOf v1 + lenOf v2)
  case atStart => exact ⟨l1, l2, [], A10, c10, A20, c20, rfl, rfl, H10, H20, Ext.refl w, Lib.hid (OwnS.nil _ _ _ _ _), by simp, Lib.hid rfl⟩
  case round =>
    obtain ⟨la, lb, out, A1, c1, A2, c2, rfl, rfl, HA, HB, he, HO, hol, hrest⟩ := hrel
    cases la with
    | nil =>
      cases lb with
      | nil =>
        simp only [List.length_nil]
        have hr : Hid (out = chg l1 l2) := Lib.hid (by have := hrest.out; rwa [chg_nil, List.append_nil] at this)
        clear hrest
        go_wp2
        go_ret
        exact ⟨_, rfl, by rw [← hr.out]; exact HO.out, he⟩
      | cons y lb =>
        obtain ⟨b2, o2, Ay, cy, rfl, hc1y, hc2y, hpsy, huy, huly, f0, f1, f2⟩ := Its.head HB.out
        have HTy := Lib.hid (SlIn.tailIf HB.out)
        have gy0 := fun W (e : Ext wr W) => f0 W (he.trans e)
        have gy1 := fun W (e : Ext wr W) => f1 W (he.trans e)
        have gy2 := fun W (e : Ext wr W) => f2 W (he.trans e)
        have HUy := Lib.hid huy
        unfold lim at huly
        have HBk := HB
        clear f0 f1 f2 huy HB
        have hr : Hid (∀ c : Ch, c = ⟨1, y⟩ → (out ++ [c]) ++ chg [] lb = chg l1 l2) := Lib.hid fun c hc => by subst hc; have := hrest.out; rw [chg_right] at this; simpa using this
        simp only [List.length_nil, List.length_cons] at hol ⊢
        clear hrest
        generalize hmlb : lb.length = mlb at *
        have Hmlb := Lib.hid hmlb; clear hmlb
        have hzlb : ((mlb : Int) + 1 == 0) = false := by rw [beq_eq_false_iff_ne]; omega
        go_wp2
        (refine wp_region_hold (fun W => Ext wr W) 16 [(0, true), (1, true), (2, true), (3, true), (4, true), (5, true), (6, true), (7, true), (8, true), (9, true), (10, true), (11, true), (12, true), (13, true), (14, true), (15, true)] (by kernel_rfl) (by kernel_rfl) ?_ ?_; (· (show Ext _ _); (repeat' (first | exact Ext.refl _ | assumption | refine Ext.alloc ?_ _ | refine Ext.drew ?_ | refine Ext.drewN ?_ _ | refine Ext.trans ?_ (by assumption)))); (repeat (first | (apply hw_read (by rfl) (by rfl); (· (intro W hW; (try dsimp only at hW); go_simp; (first | done | rfl | (rw [if_pos] <;> first | omega | rfl)))); (try simp only [Act.put, List.setIfInBounds_toArray, List.set_cons_zero, List.set_cons_succ])) | (refine hw_skip (by rfl) (by rfl) ?_; (try simp only [Act.put, List.setIfInBounds_toArray, List.set_cons_zero, List.set_cons_succ])))); (refine hw_nil ?_; (try simp only [List.drop_succ_cons, List.drop_zero])); go_wp2; all_goals (refine NoPanic.normal ?_; (try dsimp only [Exit.then])))
        go_wp2
        (refine wp_region_hold (fun W => Ext wr W) 12 [(0, true), (1, true), (2, true), (3, true), (4, true), (5, true), (6, true), (7, true), (8, true), (9, true), (10, true), (11, true)] (by kernel_rfl) (by kernel_rfl) ?_ ?_; (· (show Ext _ _); (repeat' (first | exact Ext.refl _ | assumption | refine Ext.alloc ?_ _ | refine Ext.drew ?_ | refine Ext.drewN ?_ _ | refine Ext.trans ?_ (by assumption)))); (repeat (first | (apply hw_read (by rfl) (by rfl); (· (intro W hW; (try dsimp only at hW); go_simp; (first | done | rfl | (rw [if_pos] <;> first | omega | rfl)))); (try simp only [Act.put, List.setIfInBounds_toArray, List.set_cons_zero, List.set_cons_succ])) | (refine hw_skip (by rfl) (by rfl) ?_; (try simp only [Act.put, List.setIfInBounds_toArray, List.set_cons_zero, List.set_cons_succ])))); (refine hw_nil ?_; (try simp only [List.drop_succ_cons, List.drop_zero])); go_wp2; all_goals (refine NoPanic.normal ?_; (try dsimp only [Exit.then])))
        have HO2 := Lib.hid (HO.out.ext (ECg_ok _) (Ext.refl wr).drew.drew)
        have he2 : Ext w wr.drew.drew := he.drew.drew
        clear HO
        go_wp2_with (at_builtin; go_must (refine wp_ap1 (w0 := w) (by rfl) _ _ (by rfl) el_Cg (ECg_ok _) he2 _ out [⟨1, y⟩] (by rfl) HO2.out 1 1 rfl #[chgV 1 y (.slice Ay y.ids.length cy)] _ (by rfl) (by first | rfl | simp) rfl one1 (one_E (ecg_of (.inl rfl) hpsy (HUy.out.ext he2))) ?_ ?_))
        · simp; unfold lim; omega
        · intro v' w' hO' he' hk'
          have HO' := Lib.hid hO'
          clear hO' hk' he2 he gy0 gy1 gy2
          go_wp2
          exact ⟨⟨[], lb, out ++ [⟨1, y⟩], _, _, _, _, rfl, by rw [Hmlb.out], HA, HTy, he', HO', by have := Hmlb.out; simp; omega, Lib.hid (hr.out _ rfl)⟩, by simp [lenOf]⟩
    | cons x la =>
      obtain ⟨b1, o1, Ax, cx, rfl, hc1x, hc2x, hpsx, hux, hulx, f0, f1, f2⟩ := Its.head HA.out
      have HTx := Lib.hid (SlIn.tailIf HA.out)
      have gx0 := fun W (e : Ext wr W) => f0 W (he.trans e)
      have gx1 := fun W (e : Ext wr W) => f1 W (he.trans e)
      have gx2 := fun W (e : Ext wr W) => f2 W (he.trans e)
      have HUx := Lib.hid hux
      unfold lim at hulx
      have HAk := HA
      clear f0 f1 f2 hux HA
      cases lb with
      | nil =>
        have hr : Hid (∀ c : Ch, c = ⟨2, x⟩ → (out ++ [c]) ++ chg la [] = chg l1 l2) := Lib.hid fun c hc => by subst hc; have := hrest.out; rw [chg_left] at this; simpa using this
        simp only [List.length_nil, List.length_cons] at hol ⊢
        clear hrest
        generalize hmla : la.length = mla at *
        have Hmla := Lib.hid hmla; clear hmla
        have hzla : ((mla : Int) + 1 == 0) = false := by rw [beq_eq_false_iff_ne]; omega
        go_wp2
        (refine wp_region_hold (fun W => Ext wr W) 16 [(0, true), (1, true), (2, true), (3, true), (4, true), (5, true), (6, true), (7, true), (8, true), (9, true), (10, true), (11, true), (12, true), (13, true), (14, true), (15, true)] (by kernel_rfl) (by kernel_rfl) ?_ ?_; (· (show Ext _ _); (repeat' (first | exact Ext.refl _ | assumption | refine Ext.alloc ?_ _ | refine Ext.drew ?_ | refine Ext.drewN ?_ _ | refine Ext.trans ?_ (by assumption)))); (repeat (first | (apply hw_read (by rfl) (by rfl); (· (intro W hW; (try dsimp only at hW); go_simp; (first | done | rfl | (rw [if_pos] <;> first | omega | rfl)))); (try simp only [Act.put, List.setIfInBounds_toArray, List.set_cons_zero, List.set_cons_succ])) | (refine hw_skip (by rfl) (by rfl) ?_; (try simp only [Act.put, List.setIfInBounds_toArray, List.set_cons_zero, List.set_cons_succ])))); (refine hw_nil ?_; (try simp only [List.drop_succ_cons, List.drop_zero])); go_wp2; all_goals (refine NoPanic.normal ?_; (try dsimp only [Exit.then])))
        have HO2 := Lib.hid (HO.out.ext (ECg_ok _) (Ext.refl wr).drew)
        have he2 : Ext w wr.drew := he.drew
        clear HO
        go_wp2_with (at_builtin; go_must (refine wp_ap1 (w0 := w) (by rfl) _ _ (by rfl) el_Cg (ECg_ok _) he2 _ out [⟨2, x⟩] (by rfl) HO2.out 1 1 rfl #[chgV 2 x (.slice Ax x.ids.length cx)] _ (by rfl) (by first | rfl | simp) rfl one1 (one_E (ecg_of (.inr (.inl rfl)) hpsx (HUx.out.ext he2))) ?_ ?_))
        · simp; unfold lim; omega
        · intro v' w' hO' he' hk'
          have HO' := Lib.hid hO'
          clear hO' hk' he2 he gx0 gx1 gx2
          go_wp2
          exact ⟨⟨la, [], out ++ [⟨2, x⟩], _, _, _, _, by rw [Hmla.out], rfl, HTx, HB, he', HO', by have := Hmla.out; simp; omega, Lib.hid (hr.out _ rfl)⟩, by simp [lenOf]⟩
      | cons y lb =>
        obtain ⟨b2, o2, Ay, cy, rfl, hc1y, hc2y, hpsy, huy, huly, f0, f1, f2⟩ := Its.head HB.out
        have HTy := Lib.hid (SlIn.tailIf HB.out)
        have gy0 := fun W (e : Ext wr W) => f0 W (he.trans e)
        have gy1 := fun W (e : Ext wr W) => f1 W (he.trans e)
        have gy2 := fun W (e : Ext wr W) => f2 W (he.trans e)
        have HUy := Lib.hid huy
        unfold lim at huly
        have HBk := HB
        clear f0 f1 f2 huy HB
        simp only [List.length_cons] at hol ⊢
        generalize hmla : la.length = mla at *
        have Hmla := Lib.hid hmla; clear hmla
        have hzla : ((mla : Int) + 1 == 0) = false := by rw [beq_eq_false_iff_ne]; omega
        generalize hmlb : lb.length = mlb at *
        have Hmlb := Lib.hid hmlb; clear hmlb
        have hzlb : ((mlb : Int) + 1 == 0) = false := by rw [beq_eq_false_iff_ne]; omega
        cases q1 : Op.bytesLess x.path.toList y.path.toList with
        | true =>
          have hr : Hid (∀ c : Ch, c = ⟨2, x⟩ → (out ++ [c]) ++ chg la (y :: lb) = chg l1 l2) := Lib.hid fun c hc => by subst hc; have := hrest.out; rw [chg_lt _ _ q1] at this; simpa using this
          clear hrest
          go_wp2
          (refine wp_region_hold (fun W => Ext wr W) 16 [(0, true), (1, true), (2, true), (3, true), (4, true), (5, true), (6, true), (7, true), (8, true), (9, true), (10, true), (11, true), (12, true), (13, true), (14, true), (15, true)] (by kernel_rfl) (by kernel_rfl) ?_ ?_; (· (show Ext _ _); (repeat' (first | exact Ext.refl _ | assumption | refine Ext.alloc ?_ _ | refine Ext.drew ?_ | refine Ext.drewN ?_ _ | refine Ext.trans ?_ (by assumption)))); (repeat (first | (apply hw_read (by rfl) (by rfl); (· (intro W hW; (try dsimp only at hW); go_simp; (first | done | rfl | (rw [if_pos] <;> first | omega | rfl)))); (try simp only [Act.put, List.setIfInBounds_toArray, List.set_cons_zero, List.set_cons_succ])) | (refine hw_skip (by rfl) (by rfl) ?_; (try simp only [Act.put, List.setIfInBounds_toArray, List.set_cons_zero, List.set_cons_succ])))); (refine hw_nil ?_; (try simp only [List.drop_succ_cons, List.drop_zero])); go_wp2; all_goals (refine NoPanic.normal ?_; (try dsimp only [Exit.then])))
          have HO2 := Lib.hid (HO.out.ext (ECg_ok _) (Ext.refl wr).drew)
          have he2 : Ext w wr.drew := he.drew
          clear HO
          go_wp2_with (at_builtin; go_must (refine wp_ap1 (w0 := w) (by rfl) _ _ (by rfl) el_Cg (ECg_ok _) he2 _ out [⟨2, x⟩] (by rfl) HO2.out 1 1 rfl #[chgV 2 x (.slice Ax x.ids.length cx)] _ (by rfl) (by first | rfl | simp) rfl one1 (one_E (ecg_of (.inr (.inl rfl)) hpsx (HUx.out.ext he2))) ?_ ?_))
          · simp; unfold lim; omega
          · intro v' w' hO' he' hk'
            have HO' := Lib.hid hO'
            clear hO' hk' he2 he gx0 gx1 gx2 gy0 gy1 gy2
            go_wp2
            exact ⟨⟨la, y :: lb, out ++ [⟨2, x⟩], _, _, _, _, by rw [Hmla.out], by rw [List.length_cons, Hmlb.out], HTx, HBk, he', HO', by have := Hmla.out; have := Hmlb.out; simp; omega, Lib.hid (hr.out _ rfl)⟩, by simp [lenOf]⟩
        | false =>
          cases q2 : Op.bytesLess y.path.toList x.path.toList with
          | true =>
            have hr : Hid (∀ c : Ch, c = ⟨1, y⟩ → (out ++ [c]) ++ chg (x :: la) lb = chg l1 l2) := Lib.hid fun c hc => by subst hc; have := hrest.out; rw [chg_gt _ _ q1 q2] at this; simpa using this
            clear hrest
            go_wp2
            (refine wp_region_hold (fun W => Ext wr W) 16 [(0, true), (1, true), (2, true), (3, true), (4, true), (5, true), (6, true), (7, true), (8, true), (9, true), (10, true), (11, true), (12, true), (13, true), (14, true), (15, true)] (by kernel_rfl) (by kernel_rfl) ?_ ?_; (· (show Ext _ _); (repeat' (first | exact Ext.refl _ | assumption | refine Ext.alloc ?_ _ | refine Ext.drew ?_ | refine Ext.drewN ?_ _ | refine Ext.trans ?_ (by assumption)))); (repeat (first | (apply hw_read (by rfl) (by rfl); (· (intro W hW; (try dsimp only at hW); go_simp; (first | done | rfl | (rw [if_pos] <;> first | omega | rfl)))); (try simp only [Act.put, List.setIfInBounds_toArray, List.set_cons_zero, List.set_cons_succ])) | (refine hw_skip (by rfl) (by rfl) ?_; (try simp only [Act.put, List.setIfInBounds_toArray, List.set_cons_zero, List.set_cons_succ])))); (refine hw_nil ?_; (try simp only [List.drop_succ_cons, List.drop_zero])); go_wp2; all_goals (refine NoPanic.normal ?_; (try dsimp only [Exit.then])))
            go_wp2
            (refine wp_region_hold (fun W => Ext wr W) 12 [(0, true), (1, true), (2, true), (3, true), (4, true), (5, true), (6, true), (7, true), (8, true), (9, true), (10, true), (11, true)] (by kernel_rfl) (by kernel_rfl) ?_ ?_; (· (show Ext _ _); (repeat' (first | exact Ext.refl _ | assumption | refine Ext.alloc ?_ _ | refine Ext.drew ?_ | refine Ext.drewN ?_ _ | refine Ext.trans ?_ (by assumption)))); (repeat (first | (apply hw_read (by rfl) (by rfl); (· (intro W hW; (try dsimp only at hW); go_simp; (first | done | rfl | (rw [if_pos] <;> first | omega | rfl)))); (try simp only [Act.put, List.setIfInBounds_toArray, List.set_cons_zero, List.set_cons_succ])) | (refine hw_skip (by rfl) (by rfl) ?_; (try simp only [Act.put, List.setIfInBounds_toArray, List.set_cons_zero, List.set_cons_succ])))); (refine hw_nil ?_; (try simp only [List.drop_succ_cons, List.drop_zero])); go_wp2; all_goals (refine NoPanic.normal ?_; (try dsimp only [Exit.then])))
            have HO2 := Lib.hid (HO.out.ext (ECg_ok _) (Ext.refl wr).drew.drew)
            have he2 : Ext w wr.drew.drew := he.drew.drew
            clear HO
            go_wp2_with (at_builtin; go_must (refine wp_ap1 (w0 := w) (by rfl) _ _ (by rfl) el_Cg (ECg_ok _) he2 _ out [⟨1, y⟩] (by rfl) HO2.out 1 1 rfl #[chgV 1 y (.slice Ay y.ids.length cy)] _ (by rfl) (by first | rfl | simp) rfl one1 (one_E (ecg_of (.inl rfl) hpsy (HUy.out.ext he2))) ?_ ?_))
            · simp; unfold lim; omega
            · intro v' w' hO' he' hk'
              have HO' := Lib.hid hO'
              clear hO' hk' he2 he gx0 gx1 gx2 gy0 gy1 gy2
              go_wp2
              exact ⟨⟨x :: la, lb, out ++ [⟨1, y⟩], _, _, _, _, by rw [List.length_cons, Hmla.out], by rw [Hmlb.out], HAk, HTy, he', HO', by have := Hmla.out; have := Hmlb.out; simp; omega, Lib.hid (hr.out _ rfl)⟩, by simp [lenOf]⟩
          | false =>
            have hstep : ∀ W : World, Hid (SlIn B 47 3 (EIt B) w (if c1 = 1 then some ⟨b1, o1, none⟩ else some ⟨b1, o1 + 3, none⟩) (c1 - 1) la ∧ SlIn B 47 3 (EIt B) w (if c2 = 1 then some ⟨b2, o2, none⟩ else some ⟨b2, o2 + 3, none⟩) (c2 - 1) lb) := fun _ => Lib.hid ⟨HTx.out, HTy.out⟩
            have HST := Lib.hid hstep; clear hstep
            by_cases hdir : x.dir = y.dir
            · cases hq : eqb x y with
              | true =>
                have hr : Hid (out ++ chg la lb = chg l1 l2) := Lib.hid (by have := hrest.out; rwa [chg_same _ _ q1 q2 hdir hq] at this)
                have Ce : ∀ W, Ext wr W → Calls Tryz.prog 123 #[.agg #[.string x.path, .bool x.dir, .slice Ax x.ids.length cx], .agg #[.string y.path, .bool y.dir, .slice Ay y.ids.length cy]] W (Ret (.bool true) W) := fun W e => by
                  rw [← hq]; exact impl_itemEqual_c W ⟨_, rfl, hpsx, HUx.out.ext (he.trans e)⟩ ⟨_, rfl, hpsy, HUy.out.ext (he.trans e)⟩
                have hd1 : (x.dir != y.dir) = false := by rw [hdir]; simp
                have hd2 : (x.dir == y.dir) = true := by rw [hdir]; simp
                have Hdir := Lib.hid hdir
                clear hrest hq hdir
                go_wp2
                (refine wp_region_hold (fun W => Ext wr W) 16 [(0, true), (1, true), (2, true), (3, true), (4, true), (5, true), (6, true), (7, true), (8, true), (9, true), (10, true), (11, true), (12, true), (13, true), (14, true), (15, true)] (by kernel_rfl) (by kernel_rfl) ?_ ?_; (· (show Ext _ _); (repeat' (first | exact Ext.refl _ | assumption | refine Ext.alloc ?_ _ | refine Ext.drew ?_ | refine Ext.drewN ?_ _ | refine Ext.trans ?_ (by assumption)))); (repeat (first | (apply hw_read (by rfl) (by rfl); (· (intro W hW; (try dsimp only at hW); go_simp; (first | done | rfl | (rw [if_pos] <;> first | omega | rfl)))); (try simp only [Act.put, List.setIfInBounds_toArray, List.set_cons_zero, List.set_cons_succ])) | (refine hw_skip (by rfl) (by rfl) ?_; (try simp only [Act.put, List.setIfInBounds_toArray, List.set_cons_zero, List.set_cons_succ])))); (refine hw_nil ?_; (try simp only [List.drop_succ_cons, List.drop_zero])); go_wp2; all_goals (refine NoPanic.normal ?_; (try dsimp only [Exit.then])))
                go_wp2
                (refine wp_region_hold (fun W => Ext wr W) 12 [(0, true), (1, true), (2, true), (3, true), (4, true), (5, true), (6, true), (7, true), (8, true), (9, true), (10, true), (11, true)] (by kernel_rfl) (by kernel_rfl) ?_ ?_; (· (show Ext _ _); (repeat' (first | exact Ext.refl _ | assumption | refine Ext.alloc ?_ _ | refine Ext.drew ?_ | refine Ext.drewN ?_ _ | refine Ext.trans ?_ (by assumption)))); (repeat (first | (apply hw_read (by rfl) (by rfl); (· (intro W hW; (try dsimp only at hW); go_simp; (first | done | rfl | (rw [if_pos] <;> first | omega | rfl)))); (try simp only [Act.put, List.setIfInBounds_toArray, List.set_cons_zero, List.set_cons_succ])) | (refine hw_skip (by rfl) (by rfl) ?_; (try simp only [Act.put, List.setIfInBounds_toArray, List.set_cons_zero, List.set_cons_succ])))); (refine hw_nil ?_; (try simp only [List.drop_succ_cons, List.drop_zero])); go_wp2; all_goals (refine NoPanic.normal ?_; (try dsimp only [Exit.then])))
                go_wp2
                (refine wp_region_hold (fun W => Ext wr W) 8 [(0, true), (1, true), (2, true), (3, true), (4, true), (5, true), (6, true), (7, true)] (by kernel_rfl) (by kernel_rfl) ?_ ?_; (· (show Ext _ _); (repeat' (first | exact Ext.refl _ | assumption | refine Ext.alloc ?_ _ | refine Ext.drew ?_ | refine Ext.drewN ?_ _ | refine Ext.trans ?_ (by assumption)))); (repeat (first | (apply hw_read (by rfl) (by rfl); (· (intro W hW; (try dsimp only at hW); go_simp; (first | done | rfl | (rw [if_pos] <;> first | omega | rfl)))); (try simp only [Act.put, List.setIfInBounds_toArray, List.set_cons_zero, List.set_cons_succ])) | (refine hw_skip (by rfl) (by rfl) ?_; (try simp only [Act.put, List.setIfInBounds_toArray, List.set_cons_zero, List.set_cons_succ])))); (refine hw_nil ?_; (try simp only [List.drop_succ_cons, List.drop_zero])); go_wp2; all_goals (refine NoPanic.normal ?_; (try dsimp only [Exit.then])))
                go_wp2
                refine wp_region_hold (fun W => Ext wr W) 6 [(0, true), (1, true), (2, true), (3, true), (4, true), (5, true)] (by kernel_rfl) (by kernel_rfl) ?_ ?_
                · show Ext _ _; (repeat' (first | exact Ext.refl _ | assumption | refine Ext.alloc ?_ _ | refine Ext.drew ?_ | refine Ext.drewN ?_ _ | refine Ext.trans ?_ (by assumption)))
                (repeat (first | (apply hw_read (by rfl) (by rfl); (· (intro W hW; (try dsimp only at hW); go_simp; (first | done | rfl | (rw [if_pos] <;> first | omega | rfl)))); (try simp only [Act.put, List.setIfInBounds_toArray, List.set_cons_zero, List.set_cons_succ])) | (refine hw_skip (by rfl) (by rfl) ?_; (try simp only [Act.put, List.setIfInBounds_toArray, List.set_cons_zero, List.set_cons_succ]))))
                (refine hw_nil ?_; (try simp only [List.drop_succ_cons, List.drop_zero]))
                go_wp2_with (go_at_call 123; refine (Ce _ (by (repeat' (first | exact Ext.refl _ | assumption | refine Ext.alloc ?_ _ | refine Ext.drew ?_ | refine Ext.drewN ?_ _ | refine Ext.trans ?_ (by assumption))))).mono ?_; rintro e w5 ⟨rfl, he5⟩)
                refine NoPanic.normal ?_
                dsimp only [Exit.then]
                have he6 : Ext wr w5 := by (repeat' (first | exact Ext.refl _ | assumption | refine Ext.alloc ?_ _ | refine Ext.drew ?_ | refine Ext.drewN ?_ _ | refine Ext.trans ?_ (by assumption)))
                clear he5
                go_wp2
                have HO6 := Lib.hid (HO.out.ext (ECg_ok _) he6)
                have he7 := he.trans he6
                clear he6 Ce HO he gx0 gx1 gx2 gy0 gy1 gy2 hd1 hd2
                refine wp_region_hold (fun W => Ext w5 W) 5 [(0, true), (1, true), (2, true), (3, true), (4, true)] (by kernel_rfl) (by kernel_rfl) ?_ ?_
                · exact (Ext.refl _).drew
                (repeat (first | (apply hw_read (by rfl) (by rfl); (· (intro W hW; (try dsimp only at hW); go_simp; (first | done | rfl | (rw [if_pos] <;> first | omega | rfl)))); (try simp only [Act.put, List.setIfInBounds_toArray, List.set_cons_zero, List.set_cons_succ])) | (refine hw_skip (by rfl) (by rfl) ?_; (try simp only [Act.put, List.setIfInBounds_toArray, List.set_cons_zero, List.set_cons_succ]))))
                have HTT : Hid (SlIn B 47 3 (EIt B) w (if c1 = 1 then some ⟨b1, o1, none⟩ else some ⟨b1, o1 + 3, none⟩) (c1 - 1) la ∧ SlIn B 47 3 (EIt B) w (if c2 = 1 then some ⟨b2, o2, none⟩ else some ⟨b2, o2 + 3, none⟩) (c2 - 1) lb) := Lib.hid ⟨HTx.out, HTy.out⟩
                clear HTx HTy HST
                generalize (if c1 = 1 then (some ⟨b1, o1, none⟩ : Option Addr) else some ⟨b1, o1 + 3, none⟩) = X1 at *
                generalize (if c2 = 1 then (some ⟨b2, o2, none⟩ : Option Addr) else some ⟨b2, o2 + 3, none⟩) = X2 at *
                (refine hw_nil ?_; (try simp only [List.drop_succ_cons, List.drop_zero]))
                go_wp2
                refine NoPanic.normal ?_
                (try dsimp only [Exit.then])
                go_wp2
                exact ⟨⟨la, lb, out, _, _, _, _, by rw [Hmla.out], by rw [Hmlb.out], Lib.hid HTT.out.1, Lib.hid HTT.out.2, by (repeat' (first | exact Ext.refl _ | assumption | refine Ext.alloc ?_ _ | refine Ext.drew ?_ | refine Ext.drewN ?_ _ | refine Ext.trans ?_ (by assumption))), Lib.hid (HO6.out.ext (ECg_ok _) (by (repeat' (first | exact Ext.refl _ | assumption | refine Ext.alloc ?_ _ | refine Ext.drew ?_ | refine Ext.drewN ?_ _ | refine Ext.trans ?_ (by assumption))))), by have := Hmla.out; have := Hmlb.out; omega, hr⟩, by simp [lenOf]; omega⟩
              | false =>
                have hr : Hid (∀ c : Ch, c = ⟨3, y⟩ → (out ++ [c]) ++ chg la lb = chg l1 l2) := Lib.hid fun c hc => by subst hc; have := hrest.out; rw [chg_other _ _ q1 q2 hdir hq] at this; simpa using this
                have Ce : ∀ W, Ext wr W → Calls Tryz.prog 123 #[.agg #[.string x.path, .bool x.dir, .slice Ax x.ids.length cx], .agg #[.string y.path, .bool y.dir, .slice Ay y.ids.length cy]] W (Ret (.bool false) W) := fun W e => by
                  rw [← hq]; exact impl_itemEqual_c W ⟨_, rfl, hpsx, HUx.out.ext (he.trans e)⟩ ⟨_, rfl, hpsy, HUy.out.ext (he.trans e)⟩
                have hd1 : (x.dir != y.dir) = false := by rw [hdir]; simp
                have hd2 : (x.dir == y.dir) = true := by rw [hdir]; simp
                have Hdir := Lib.hid hdir
                clear hrest hq hdir
                go_wp2
                (refine wp_region_hold (fun W => Ext wr W) 16 [(0, true), (1, true), (2, true), (3, true), (4, true), (5, true), (6, true), (7, true), (8, true), (9, true), (10, true), (11, true), (12, true), (13, true), (14, true), (15, true)] (by kernel_rfl) (by kernel_rfl) ?_ ?_; (· (show Ext _ _); (repeat' (first | exact Ext.refl _ | assumption | refine Ext.alloc ?_ _ | refine Ext.drew ?_ | refine Ext.drewN ?_ _ | refine Ext.trans ?_ (by assumption)))); (repeat (first | (apply hw_read (by rfl) (by rfl); (· (intro W hW; (try dsimp only at hW); go_simp; (first | done | rfl | (rw [if_pos] <;> first | omega | rfl)))); (try simp only [Act.put, List.setIfInBounds_toArray, List.set_cons_zero, List.set_cons_succ])) | (refine hw_skip (by rfl) (by rfl) ?_; (try simp only [Act.put, List.setIfInBounds_toArray, List.set_cons_zero, List.set_cons_succ])))); (refine hw_nil ?_; (try simp only [List.drop_succ_cons, List.drop_zero])); go_wp2; all_goals (refine NoPanic.normal ?_; (try dsimp only [Exit.then])))
                go_wp2
                (refine wp_region_hold (fun W => Ext wr W) 12 [(0, true), (1, true), (2, true), (3, true), (4, true), (5, true), (6, true), (7, true), (8, true), (9, true), (10, true), (11, true)] (by kernel_rfl) (by kernel_rfl) ?_ ?_; (· (show Ext _ _); (repeat' (first | exact Ext.refl _ | assumption | refine Ext.alloc ?_ _ | refine Ext.drew ?_ | refine Ext.drewN ?_ _ | refine Ext.trans ?_ (by assumption)))); (repeat (first | (apply hw_read (by rfl) (by rfl); (· (intro W hW; (try dsimp only at hW); go_simp; (first | done | rfl | (rw [if_pos] <;> first | omega | rfl)))); (try simp only [Act.put, List.setIfInBounds_toArray, List.set_cons_zero, List.set_cons_succ])) | (refine hw_skip (by rfl) (by rfl) ?_; (try simp only [Act.put, List.setIfInBounds_toArray, List.set_cons_zero, List.set_cons_succ])))); (refine hw_nil ?_; (try simp only [List.drop_succ_cons, List.drop_zero])); go_wp2; all_goals (refine NoPanic.normal ?_; (try dsimp only [Exit.then])))
                go_wp2
                (refine wp_region_hold (fun W => Ext wr W) 8 [(0, true), (1, true), (2, true), (3, true), (4, true), (5, true), (6, true), (7, true)] (by kernel_rfl) (by kernel_rfl) ?_ ?_; (· (show Ext _ _); (repeat' (first | exact Ext.refl _ | assumption | refine Ext.alloc ?_ _ | refine Ext.drew ?_ | refine Ext.drewN ?_ _ | refine Ext.trans ?_ (by assumption)))); (repeat (first | (apply hw_read (by rfl) (by rfl); (· (intro W hW; (try dsimp only at hW); go_simp; (first | done | rfl | (rw [if_pos] <;> first | omega | rfl)))); (try simp only [Act.put, List.setIfInBounds_toArray, List.set_cons_zero, List.set_cons_succ])) | (refine hw_skip (by rfl) (by rfl) ?_; (try simp only [Act.put, List.setIfInBounds_toArray, List.set_cons_zero, List.set_cons_succ])))); (refine hw_nil ?_; (try simp only [List.drop_succ_cons, List.drop_zero])); go_wp2; all_goals (refine NoPanic.normal ?_; (try dsimp only [Exit.then])))
                go_wp2
                refine wp_region_hold (fun W => Ext wr W) 6 [(0, true), (1, true), (2, true), (3, true), (4, true), (5, true)] (by kernel_rfl) (by kernel_rfl) ?_ ?_
                · show Ext _ _; (repeat' (first | exact Ext.refl _ | assumption | refine Ext.alloc ?_ _ | refine Ext.drew ?_ | refine Ext.drewN ?_ _ | refine Ext.trans ?_ (by assumption)))
                (repeat (first | (apply hw_read (by rfl) (by rfl); (· (intro W hW; (try dsimp only at hW); go_simp; (first | done | rfl | (rw [if_pos] <;> first | omega | rfl)))); (try simp only [Act.put, List.setIfInBounds_toArray, List.set_cons_zero, List.set_cons_succ])) | (refine hw_skip (by rfl) (by rfl) ?_; (try simp only [Act.put, List.setIfInBounds_toArray, List.set_cons_zero, List.set_cons_succ]))))
                (refine hw_nil ?_; (try simp only [List.drop_succ_cons, List.drop_zero]))
                go_wp2_with (go_at_call 123; refine (Ce _ (by (repeat' (first | exact Ext.refl _ | assumption | refine Ext.alloc ?_ _ | refine Ext.drew ?_ | refine Ext.drewN ?_ _ | refine Ext.trans ?_ (by assumption))))).mono ?_; rintro e w5 ⟨rfl, he5⟩)
                refine NoPanic.normal ?_
                dsimp only [Exit.then]
                have he6 : Ext wr w5 := by (repeat' (first | exact Ext.refl _ | assumption | refine Ext.alloc ?_ _ | refine Ext.drew ?_ | refine Ext.drewN ?_ _ | refine Ext.trans ?_ (by assumption)))
                clear he5
                have HO6 := Lib.hid (HO.out.ext (ECg_ok _) he6)
                have he7 := he.trans he6
                have k0 := gy0 w5 he6; have k1 := gy1 w5 he6; have k2 := gy2 w5 he6
                clear Ce HO he gx0 gx1 gx2 gy0 gy1 gy2 hd1 hd2
                go_wp2_with (at_builtin; go_must (refine wp_ap1 (w0 := w) (by rfl) _ _ (by rfl) el_Cg (ECg_ok _) he7 _ out [⟨3, y⟩] (by rfl) HO6.out 1 1 rfl #[chgV 3 y (.slice Ay y.ids.length cy)] _ (by rfl) (by first | rfl | simp) rfl one1 (one_E (ecg_of (.inr (.inr rfl)) hpsy (HUy.out.ext he7))) ?_ ?_))
                · simp; unfold lim; omega
                · intro v' w' hO' he' hk'
                  have HO' := Lib.hid hO'
                  clear hO' hk' he6 he7 k0 k1 k2
                  go_wp2
                  refine wp_region_hold (fun W => Ext w' W) 5 [(0, true), (1, true), (2, true), (3, true), (4, true)] (by kernel_rfl) (by kernel_rfl) ?_ ?_
                  · exact (Ext.refl _).drew
                  (repeat (first | (apply hw_read (by rfl) (by rfl); (· (intro W hW; (try dsimp only at hW); go_simp; (first | done | rfl | (rw [if_pos] <;> first | omega | rfl)))); (try simp only [Act.put, List.setIfInBounds_toArray, List.set_cons_zero, List.set_cons_succ])) | (refine hw_skip (by rfl) (by rfl) ?_; (try simp only [Act.put, List.setIfInBounds_toArray, List.set_cons_zero, List.set_cons_succ]))))
                  have HTT : Hid (SlIn B 47 3 (EIt B) w (if c1 = 1 then some ⟨b1, o1, none⟩ else some ⟨b1, o1 + 3, none⟩) (c1 - 1) la ∧ SlIn B 47 3 (EIt B) w (if c2 = 1 then some ⟨b2, o2, none⟩ else some ⟨b2, o2 + 3, none⟩) (c2 - 1) lb) := Lib.hid ⟨HTx.out, HTy.out⟩
                  clear HTx HTy HST
                  generalize (if c1 = 1 then (some ⟨b1, o1, none⟩ : Option Addr) else some ⟨b1, o1 + 3, none⟩) = X1 at *
                  generalize (if c2 = 1 then (some ⟨b2, o2, none⟩ : Option Addr) else some ⟨b2, o2 + 3, none⟩) = X2 at *
                  (refine hw_nil ?_; (try simp only [List.drop_succ_cons, List.drop_zero]))
                  go_wp2
                  refine NoPanic.normal ?_
                  (try dsimp only [Exit.then])
                  go_wp2
                  exact ⟨⟨la, lb, out ++ [⟨3, y⟩], _, _, _, _, by rw [Hmla.out], by rw [Hmlb.out], Lib.hid HTT.out.1, Lib.hid HTT.out.2, by (repeat' (first | exact Ext.refl _ | assumption | refine Ext.alloc ?_ _ | refine Ext.drew ?_ | refine Ext.drewN ?_ _ | refine Ext.trans ?_ (by assumption))), Lib.hid (HO'.out.ext (ECg_ok _) (by (repeat' (first | exact Ext.refl _ | assumption | refine Ext.alloc ?_ _ | refine Ext.drew ?_ | refine Ext.drewN ?_ _ | refine Ext.trans ?_ (by assumption))))), by have := Hmla.out; have := Hmlb.out; simp; omega, Lib.hid (hr.out _ rfl)⟩, by simp [lenOf]; omega⟩
            · have hr : Hid (∀ c d : Ch, c = ⟨2, x⟩ → d = ⟨1, y⟩ → (out ++ [c, d]) ++ chg la lb = chg l1 l2) := Lib.hid fun c d hc hd => by subst hc; subst hd; have := hrest.out; rw [chg_two _ _ q1 q2 hdir] at this; simpa using this
              have hd1 : (x.dir != y.dir) = true := by simpa using hdir
              have hd2 : (x.dir == y.dir) = false := by simpa using hdir
              have Hdir := Lib.hid hdir
              clear hrest hdir
              go_wp2
              (refine wp_region_hold (fun W => Ext wr W) 16 [(0, true), (1, true), (2, true), (3, true), (4, true), (5, true), (6, true), (7, true), (8, true), (9, true), (10, true), (11, true), (12, true), (13, true), (14, true), (15, true)] (by kernel_rfl) (by kernel_rfl) ?_ ?_; (· (show Ext _ _); (repeat' (first | exact Ext.refl _ | assumption | refine Ext.alloc ?_ _ | refine Ext.drew ?_ | refine Ext.drewN ?_ _ | refine Ext.trans ?_ (by assumption)))); (repeat (first | (apply hw_read (by rfl) (by rfl); (· (intro W hW; (try dsimp only at hW); go_simp; (first | done | rfl | (rw [if_pos] <;> first | omega | rfl)))); (try simp only [Act.put, List.setIfInBounds_toArray, List.set_cons_zero, List.set_cons_succ])) | (refine hw_skip (by rfl) (by rfl) ?_; (try simp only [Act.put, List.setIfInBounds_toArray, List.set_cons_zero, List.set_cons_succ])))); (refine hw_nil ?_; (try simp only [List.drop_succ_cons, List.drop_zero])); go_wp2; all_goals (refine NoPanic.normal ?_; (try dsimp only [Exit.then])))
              go_wp2
              (refine wp_region_hold (fun W => Ext wr W) 12 [(0, true), (1, true), (2, true), (3, true), (4, true), (5, true), (6, true), (7, true), (8, true), (9, true), (10, true), (11, true)] (by kernel_rfl) (by kernel_rfl) ?_ ?_; (· (show Ext _ _); (repeat' (first | exact Ext.refl _ | assumption | refine Ext.alloc ?_ _ | refine Ext.drew ?_ | refine Ext.drewN ?_ _ | refine Ext.trans ?_ (by assumption)))); (repeat (first | (apply hw_read (by rfl) (by rfl); (· (intro W hW; (try dsimp only at hW); go_simp; (first | done | rfl | (rw [if_pos] <;> first | omega | rfl)))); (try simp only [Act.put, List.setIfInBounds_toArray, List.set_cons_zero, List.set_cons_succ])) | (refine hw_skip (by rfl) (by rfl) ?_; (try simp only [Act.put, List.setIfInBounds_toArray, List.set_cons_zero, List.set_cons_succ])))); (refine hw_nil ?_; (try simp only [List.drop_succ_cons, List.drop_zero])); go_wp2; all_goals (refine NoPanic.normal ?_; (try dsimp only [Exit.then])))
              go_wp2
              (refine wp_region_hold (fun W => Ext wr W) 8 [(0, true), (1, true), (2, true), (3, true), (4, true), (5, true), (6, true), (7, true)] (by kernel_rfl) (by kernel_rfl) ?_ ?_; (· (show Ext _ _); (repeat' (first | exact Ext.refl _ | assumption | refine Ext.alloc ?_ _ | refine Ext.drew ?_ | refine Ext.drewN ?_ _ | refine Ext.trans ?_ (by assumption)))); (repeat (first | (apply hw_read (by rfl) (by rfl); (· (intro W hW; (try dsimp only at hW); go_simp; (first | done | rfl | (rw [if_pos] <;> first | omega | rfl)))); (try simp only [Act.put, List.setIfInBounds_toArray, List.set_cons_zero, List.set_cons_succ])) | (refine hw_skip (by rfl) (by rfl) ?_; (try simp only [Act.put, List.setIfInBounds_toArray, List.set_cons_zero, List.set_cons_succ])))); (refine hw_nil ?_; (try simp only [List.drop_succ_cons, List.drop_zero])); go_wp2; all_goals (refine NoPanic.normal ?_; (try dsimp only [Exit.then])))
              go_wp2
              refine wp_region_hold (fun W => Ext wr W) 12 [(0, true), (1, true), (2, true), (3, true), (4, true), (5, true), (6, true), (7, true), (8, true), (9, true), (10, true), (11, false)] (by kernel_rfl) (by kernel_rfl) ?_ ?_
              · show Ext _ _; (repeat' (first | exact Ext.refl _ | assumption | refine Ext.alloc ?_ _ | refine Ext.drew ?_ | refine Ext.drewN ?_ _ | refine Ext.trans ?_ (by assumption)))
              (repeat (first | (apply hw_read (by rfl) (by rfl); (· (intro W hW; (try dsimp only at hW); go_simp; (first | done | rfl | (rw [if_pos] <;> first | omega | rfl)))); (try simp only [Act.put, List.setIfInBounds_toArray, List.set_cons_zero, List.set_cons_succ])) | (refine hw_skip (by rfl) (by rfl) ?_; (try simp only [Act.put, List.setIfInBounds_toArray, List.set_cons_zero, List.set_cons_succ]))))
              refine hw_step (by rfl) ?_
              go_wp2
              refine ⟨by (repeat' (first | exact Ext.refl _ | assumption | refine Ext.alloc ?_ _ | refine Ext.drew ?_ | refine Ext.drewN ?_ _ | refine Ext.trans ?_ (by assumption))), ?_⟩
              have HO6 := Lib.hid (HO.out.ext (ECg_ok _) (Ext.refl wr).drew.drew.drew.drew)
              have he7 := he.drew.drew.drew.drew
              clear HO gx0 gx1 gx2 gy0 gy1 gy2 hd1 hd2
              (refine hw_nil ?_; (try simp only [List.drop_succ_cons, List.drop_zero]))
              go_wp2_with (at_builtin; go_must (refine wp_ap1 (w0 := w) (by rfl) _ _ (by rfl) el_Cg (ECg_ok _) he7 _ out [⟨2, x⟩, ⟨1, y⟩] (by rfl) HO6.out 2 2 rfl #[chgV 2 x (.slice Ax x.ids.length cx), chgV 1 y (.slice Ay y.ids.length cy)] _ (by rfl) (by first | rfl | simp) rfl one2c (two_E (ecg_of (.inr (.inl rfl)) hpsx (HUx.out.ext he7)) ⟨.inl rfl, hpsy, _, rfl, HUy.out.ext he7⟩) ?_ ?_))
              · simp; unfold lim; omega
              · intro v' w' hO' he' hk'
                have HO' := Lib.hid hO'
                clear hO' hk' he7 he
                go_wp2
                refine NoPanic.normal ?_
                (try dsimp only [Exit.then])
                go_wp2
                refine wp_region_hold (fun W => Ext w' W) 5 [(0, true), (1, true), (2, true), (3, true), (4, true)] (by kernel_rfl) (by kernel_rfl) ?_ ?_
                · exact (Ext.refl _).drew
                (repeat (first | (apply hw_read (by rfl) (by rfl); (· (intro W hW; (try dsimp only at hW); go_simp; (first | done | rfl | (rw [if_pos] <;> first | omega | rfl)))); (try simp only [Act.put, List.setIfInBounds_toArray, List.set_cons_zero, List.set_cons_succ])) | (refine hw_skip (by rfl) (by rfl) ?_; (try simp only [Act.put, List.setIfInBounds_toArray, List.set_cons_zero, List.set_cons_succ]))))
                have HTT : Hid (SlIn B 47 3 (EIt B) w (if c1 = 1 then some ⟨b1, o1, none⟩ else some ⟨b1, o1 + 3, none⟩) (c1 - 1) la ∧ SlIn B 47 3 (EIt B) w (if c2 = 1 then some ⟨b2, o2, none⟩ else some ⟨b2, o2 + 3, none⟩) (c2 - 1) lb) := Lib.hid ⟨HTx.out, HTy.out⟩
                clear HTx HTy HST
                generalize (if c1 = 1 then (some ⟨b1, o1, none⟩ : Option Addr) else some ⟨b1, o1 + 3, none⟩) = X1 at *
                generalize (if c2 = 1 then (some ⟨b2, o2, none⟩ : Option Addr) else some ⟨b2, o2 + 3, none⟩) = X2 at *
                (refine hw_nil ?_; (try simp only [List.drop_succ_cons, List.drop_zero]))
                go_wp2
                refine NoPanic.normal ?_
                (try dsimp only [Exit.then])
                go_wp2
                exact ⟨⟨la, lb, out ++ [⟨2, x⟩, ⟨1, y⟩], _, _, _, _, by rw [Hmla.out], by rw [Hmlb.out], Lib.hid HTT.out.1, Lib.hid HTT.out.2, by (repeat' (first | exact Ext.refl _ | assumption | refine Ext.alloc ?_ _ | refine Ext.drew ?_ | refine Ext.drewN ?_ _ | refine Ext.trans ?_ (by assumption))), Lib.hid (HO'.out.ext (ECg_ok _) (by (repeat' (first | exact Ext.refl _ | assumption | refine Ext.alloc ?_ _ | refine Ext.drew ?_ | refine Ext.drewN ?_ _ | refine Ext.trans ?_ (by assumption))))), by have := Hmla.out; have := Hmlb.out; simp; omega, Lib.hid (hr.out _ _ rfl rfl)⟩, by simp [lenOf]; omega⟩
end Go.Sf
