/- slices.Clone of ints. -/
import Derived.Test.YtpldhlpegpgmcaaDoorGD
import Derived.Test.YtpldhlpegpgmcaaDoorShelf
import Derived.Test.YtpldhlpegpgmcaaDoorGE
import Derived.Test.YtpldhlpegpgmcaaDoorGA
import Derived.Test.YtpldhlpegpgmcaaDoorGB
import Derived.Test.YtpldhlpegpgmcaaDoorGC
/-! slices.Clone of ints. -/
namespace Go.Sf
open Go Go.RowKit Go.Proofs
theorem Clone_int_c {B : Nat} {u : Value} {xs : List Int} (w : World) (h : Ints B w u xs) : Calls Tryd.prog 49 #[u] w (RetP (fun v w' => Ints w.heap.size w' v xs) w) := by
  have hlim := h.len
  obtain ⟨A, c, rfl, hA⟩ := h
  have own : ∀ (v' : Value) (w' : World), w'.ownsRow w.heap.size 3 1 v' xs.length (xs.map (Value.int .i64)) → Ints w.heap.size w' v' xs := fun v' w' ho =>
    SlOf.of_own ho (Nat.le_refl _) hlim fun k x cs hx hj => by
      have h0 := hj 0 (by omega)
      obtain ⟨b, o, cs', -, -, -, he⟩ := hA.2.2.2 k x hx
      refine ⟨?_, he.2⟩
      rw [Nat.add_zero, Nat.mul_one] at h0
      rw [Nat.mul_one, h0, List.getElem?_map, hx]; rfl
  cases A with
  | none =>
    have hx : xs = [] := by
      cases xs with
      | nil => rfl
      | cons y ys => obtain ⟨b, o, cs, e, -⟩ := hA.2.2.2 0 y rfl; cases e
    subst hx
    refine (Tryd.slices_Clone_int_nil _ _ w).mono ?_
    rintro e w' ⟨rfl, rfl⟩
    exact ⟨_, rfl, SlOf.nil _ _ _ _ _, Ext.refl _⟩
  | some a =>
    by_cases hx : xs = []
    · subst hx
      refine (Tryd.slices_Clone_int_zero a c w).mono ?_
      rintro e w' ⟨v', rfl, ho, -, hb⟩
      exact ⟨_, rfl, own v' w' ho, hb⟩
    · have hlen : 0 < xs.length := List.length_pos_iff.2 hx
      obtain ⟨b, o, cs, e, -, hb, -⟩ := hA.2.2.2 0 xs[0] (by simp [hlen])
      simp only [Option.some.injEq] at e
      subst e
      unfold lim at hlim
      refine (Tryd.slices_Clone_int b o xs.length c xs w (Nat.le_refl _) (by omega) fun j hj => ?_).mono ?_
      · obtain ⟨b2, o2, cs2, e2, -, hb2, he2⟩ := hA.2.2.2 j xs[j] (by simp [hj])
        simp only [Option.some.injEq, Addr.mk.injEq, and_true] at e2
        obtain ⟨rfl, rfl⟩ := e2
        rw [hb2.cell]
        have := he2.1
        rw [Nat.mul_one] at this
        rw [this]; simp [List.getD_eq_getElem?_getD, hj]
      · rintro e w' ⟨v', rfl, ho, -, hb'⟩
        rw [List.take_length] at ho
        exact ⟨_, rfl, own v' w' ho, hb'⟩
end Go.Sf

/-! An item goes into the tree of nodes, behind all that are there. -/
namespace Go.Sf
open Go Go.RowKit Go.Proofs
/-- what insert leaves: true, and the tree with the item -/
def KeepsN (w w' : World) : Prop := ∀ b t cs, t ≠ 87 → t ≠ 41 → Blk w b t cs → Blk w' b t cs
def InsV (w0 w : World) (l : List It) (x : It) (r : Nat) (e : Ending) (w' : World) : Prop :=
  e = .returned (.bool true) ∧ Ext w0 w' ∧ KeepsN w w' ∧ ∃ adr kv, TreeAt w0.heap.size w' (l ++ [x]) adr kv ∧ adr [] = r
theorem OwnS.grown_keepsT {α : Type} {B t sz : Nat} {E : World → Array Value → Nat → α → Prop} {W w' : World} {v : Value} {l : List α} (h : OwnS B t sz E W v l) (hg : W.grownBy w' v.ownBlock) : KeepsT t W w' :=
  let ⟨_, h1, _⟩ := h; Go.Sf.grown_keepsT h1 hg
theorem OwnS.grown_ext {α : Type} {t sz : Nat} {E : World → Array Value → Nat → α → Prop} {w0 W w' : World} {v : Value} {l : List α} (h : OwnS w0.heap.size t sz E W v l) (h0 : Ext w0 W) (hg : W.grownBy w' v.ownBlock) : Ext w0 w' :=
  let ⟨_, h1, _⟩ := h; Go.Sf.grown_ext h0 h1 hg
theorem names_lt {l : List It} {x : It} (hf : Fits l x) {nm : ByteArray} (h : nm ∈ namesOf l (key x).dropLast) : blt nm (nameOf (key x)) = true := by
  unfold namesOf at h
  obtain ⟨y, hy, rfl⟩ := List.mem_map.1 h
  have h1 := hf.2.1 y (mem_kids.1 hy).1
  rw [key_path_eq y, key_path_eq x, (mem_kids.1 hy).2, lt8_append] at h1
  rw [blt_eq, nameOf_key, nameOf_key, bl_mkB, bl_mkB]; exact h1
theorem fits_place {l : List It} {x : It} (hf : Fits l x) : lbB (namesOf l (key x).dropLast) (nameOf (key x)) = (namesOf l (key x).dropLast).length ∧ hasB (namesOf l (key x).dropLast) (nameOf (key x)) = false := by
  constructor
  · exact lbB_of (Nat.le_refl _) (fun k y _ hy => names_lt hf (List.mem_of_getElem? hy)) (fun y hy => by rw [List.getElem?_eq_none (Nat.le_refl _)] at hy; cases hy)
  · exact hasB_none fun k y hy e => by
      have := names_lt hf (List.mem_of_getElem? hy)
      rw [e, blt_irrefl] at this; cases this
section
variable {w0 w : World} {l : List It} {adr : Key → Nat} {kv : Key → Value}
set_option maxHeartbeats 1000000 in
theorem insert_no_c (h : TreeAt w0.heap.size w l adr kv) (hg : Grow l) (hl : l.length ≤ lim) {B' : Nat} {v : Value} {x : It} (hx : ItV B' w v x) (hm : ML w) (hn : ¬ inDir l x.path) :
    Calls Tryd.prog 51 #[.pointer (some ⟨adr [], 0, none⟩), v] w (Ret (.bool false) w) := by
  obtain ⟨u2, rfl, hps, hI⟩ := hx
  have he : ∀ o, Ext w (w.alloc o) := fun o => (Ext.refl w).alloc o
  have hd := fun o => dirOf_c (h.ext (he o)) hg hl x.path hps (hm.ext (he o))
  rw [dirOfV_no hn] at hd
  have Hd := Lib.hid hd
  clear hd h hg hm hI hn
  go_enter Tryd.func51, Tryd.ntmps51
  go_wp2_with (go_at_call 62; refine (Hd.out _).mono ?_; rintro e w1 ⟨rfl, he1⟩)
  go_ret
  exact ⟨rfl, (he _).trans he1⟩
set_option maxRecDepth 4000 in
set_option maxHeartbeats 2000000 in
theorem insert_c (h : TreeAt w0.heap.size w l adr kv) (hg : Grow l) (hl : l.length < lim) {B' : Nat} {v : Value} {x : It} (hx : ItV B' w v x) (hm : ML w) (hf : Fits l x) (h0 : Ext w0 w) :
    Calls Tryd.prog 51 #[.pointer (some ⟨adr [], 0, none⟩), v] w (InsV w0 w l x (adr [])) := by
  obtain ⟨u2, rfl, hps, hI⟩ := hx
  have hxp := itemOk_path hf.1
  have hin : inDir l x.path := ⟨hxp, hf.2.2⟩
  have hk : isKey l (key x).dropLast := hf.2.2.imp_right fun ⟨z, h1, h2, _⟩ => ⟨z, h1, h2⟩
  have hd := fun W (e : Ext w W) => dirOf_c (h.ext e) hg (Nat.le_of_lt hl) x.path hps (hm.ext e)
  rw [dirOfV_yes hin] at hd
  change ∀ W, Ext w W → Calls _ _ _ _ (Ret (.tuple #[.pointer (some ⟨adr (key x).dropLast, 0, none⟩), .string (nameOf (key x))]) W) at hd
  have hp := fun W (e : Ext w W) => place_c (h.ext e) hg (Nat.le_of_lt hl) hk (nameOf (key x))
  rw [(fits_place hf).1, (fits_place hf).2] at hp
  obtain ⟨dir, ids, ⟨hBk, hO, uk, hbk, -⟩, -⟩ := h.node hk
  have HBk : Hid (∀ W, Ext w W → Blk W (adr (key x).dropLast) 87 #[.string (nameOf (key x).dropLast), .bool dir, uk, kv (key x).dropLast]) := Lib.hid fun W e => hbk.ext e
  have c3 := fun W (e : Ext w W) => hbk.at_ (i := 3) (u := kv (key x).dropLast) rfl W e
  have hlen : (namesOf l (key x).dropLast).length = ((kidsOf l (key x).dropLast).map fun y => adr (key y)).length := by simp [namesOf]
  have hlk : ((kidsOf l (key x).dropLast).map fun y => adr (key y)).length < lim := by rw [← hlen]; exact Nat.lt_of_le_of_lt (namesOf_le _ _) hl
  rw [hlen] at hp
  generalize hkd : (key x).dropLast = k at *
  have Hkd := Lib.hid hkd
  have H := Lib.hid h; have HG := Lib.hid hg; have HF := Lib.hid hf; have HD := Lib.hid hd; have HP := Lib.hid hp
  have HO := Lib.hid hO; have C3 := Lib.hid c3; have HI := Lib.hid hI; have Hlk := Lib.hid hlk; have H0 := Lib.hid h0
  clear hkd h hg hf hd hp hO c3 hI hlk hlen hbk hin hk hm hl h0
  obtain ⟨Ak, ck, hkv⟩ := HO.out.form
  have HIns : Hid (∀ (W : World) (ad : Addr) (b : Nat), Ext w W → W.cell? (ad.add 0) = some (.pointer (some ⟨b, 0, none⟩)) →
      Calls Tryd.prog 64 #[.slice Ak ((kidsOf l k).map fun y => adr (key y)).length ck, .int .i64 ((kidsOf l k).map fun y => adr (key y)).length, .slice (some ad) 1 1] W (GrownV w0.heap.size 41 1 EPtr W (.slice Ak ((kidsOf l k).map fun y => adr (key y)).length ck) (((kidsOf l k).map fun y => adr (key y)) ++ [b]))) :=
    Lib.hid fun W ad b e hc => by
      have := Insert_end_c (B := w0.heap.size) (H0.out.trans e).size (HO.out.ext eptr_ok e) Hlk.out hc
      rwa [hkv] at this
  generalize hn : ((kidsOf l k).map fun y => adr (key y)).length = n at *
  have Hn := Lib.hid hn; clear hn
  have Hkv := Lib.hid hkv
  rw [hkv] at C3 HBk
  clear hkv
  have he1 : Ext w (w.alloc (.cells #[.string x.path, .bool x.dir, u2] 34)) := (Ext.refl w).alloc _
  have hb1 := Blk.new w 34 #[.string x.path, .bool x.dir, u2]
  have b0 := fun W (e : Ext _ W) => hb1.at_ (i := 0) (u := .string x.path) rfl W e
  have b1 := fun W (e : Ext _ W) => hb1.at_ (i := 1) (u := .bool x.dir) rfl W e
  have b2 := fun W (e : Ext _ W) => hb1.at_ (i := 2) (u := u2) rfl W e
  have HBi : Hid (∀ W, Ext _ W → Blk W w.heap.size 34 #[.string x.path, .bool x.dir, u2]) := Lib.hid fun W e => hb1.ext e
  clear hb1
  have bb0 := b0 _ (Ext.refl _)
  go_enter Tryd.func51, Tryd.ntmps51
  go_wp2_with fail
  refine (HD.out _ he1).mono ?_
  rintro e w2 ⟨rfl, he2⟩
  go_wp2_with fail
  refine (HP.out _ (he1.trans he2)).mono ?_
  rintro e w3 ⟨rfl, he3⟩
  have he4 := he1.trans (he2.trans he3)
  have HBi3 : Hid (∀ W, Ext w3 W → Blk W w.heap.size 34 #[.string x.path, .bool x.dir, u2]) := Lib.hid fun W e => HBi.out W ((he2.trans he3).trans e)
  have HBk3 : Hid (∀ W, Ext w3 W → Blk W (adr k) 87 #[.string (nameOf k), .bool dir, uk, .slice Ak n ck]) := Lib.hid fun W e => HBk.out W (he4.trans e)
  have HO3 : Hid (∀ W, Ext w3 W → OwnS w0.heap.size 41 1 EPtr W (.slice Ak n ck) ((kidsOf l k).map fun y => adr (key y))) := Lib.hid fun W e => by rw [← Hkv.out]; exact HO.out.ext eptr_ok (he4.trans e)
  clear HBi HBk
  have D1 := fun W (e : Ext w3 W) => b1 W ((he2.trans he3).trans e)
  have D2 := fun W (e : Ext w3 W) => b2 W ((he2.trans he3).trans e)
  have D3 := fun W (e : Ext w3 W) => C3.out W (he4.trans e)
  clear b0 b1 b2 bb0 he1 he2 he3
  go_wp2
  refine wp_region_hold (fun W => W.cell? ⟨adr k, 3, none⟩ = some (.slice Ak n ck) ∧ W.cell? ⟨w.heap.size, 1, none⟩ = some (.bool x.dir) ∧ W.cell? ⟨w.heap.size, 2, none⟩ = some u2) 16 [(0, true), (1, true), (2, true), (3, true), (4, true), (5, true), (6, true), (7, true), (8, true), (9, true), (10, true), (11, false), (12, true), (13, false), (14, false), (15, false)] (by kernel_rfl) (by kernel_rfl) ?_ ?_
  · exact ⟨D3 _ (Ext.refl _).drew, D1 _ (Ext.refl _).drew, D2 _ (Ext.refl _).drew⟩
  (repeat (first | (apply hw_read (by rfl) (by rfl); (· (intro W hW; (try dsimp only at hW); go_simp; (first | done | rfl | (rw [if_pos] <;> first | omega | rfl)))); (try simp only [Act.put, List.setIfInBounds_toArray, List.set_cons_zero, List.set_cons_succ])) | (refine hw_skip (by rfl) (by rfl) ?_; (try simp only [Act.put, List.setIfInBounds_toArray, List.set_cons_zero, List.set_cons_succ]))))
  refine hw_step (by rfl) ?_
  go_wp2_with (go_at_call 49; refine (Clone_int_c (xs := x.ids) _ (HI.out.ext (he4.trans (Ext.refl _).drew))).mono ?_; rintro e w4 ⟨u9, rfl, ⟨A9, c9, rfl, hu9⟩, he9⟩)
  have he5 := (Ext.refl w3).drew.trans he9
  clear he9
  refine ⟨⟨D3 _ he5, D1 _ he5, D2 _ he5⟩, ?_⟩
  (repeat (first | (apply hw_read (by rfl) (by rfl); (· (intro W hW; (try dsimp only at hW); go_simp; (first | done | rfl | (rw [if_pos] <;> first | omega | rfl)))); (try simp only [Act.put, List.setIfInBounds_toArray, List.set_cons_zero, List.set_cons_succ])) | (refine hw_skip (by rfl) (by rfl) ?_; (try simp only [Act.put, List.setIfInBounds_toArray, List.set_cons_zero, List.set_cons_succ]))))
  refine hw_step (by rfl) ?_
  go_wp2
  refine ⟨⟨D3 _ (he5.alloc _), D1 _ (he5.alloc _), D2 _ (he5.alloc _)⟩, ?_⟩
  (repeat (first | (apply hw_read (by rfl) (by rfl); (· (intro W hW; (try dsimp only at hW); go_simp; (first | done | rfl | (rw [if_pos] <;> first | omega | rfl)))); (try simp only [Act.put, List.setIfInBounds_toArray, List.set_cons_zero, List.set_cons_succ])) | (refine hw_skip (by rfl) (by rfl) ?_; (try simp only [Act.put, List.setIfInBounds_toArray, List.set_cons_zero, List.set_cons_succ]))))
  refine hw_step (by rfl) ?_
  go_wp2
  refine ⟨⟨D3 _ ((he5.alloc _).alloc _), D1 _ ((he5.alloc _).alloc _), D2 _ ((he5.alloc _).alloc _)⟩, ?_⟩
  have he6 := fun o1 o2 => (he5.alloc o1).alloc o2
  have Hu9 : Hid (Ints w0.heap.size w4 (.slice A9 x.ids.length c9) x.ids) := Lib.hid (Ints.keep ⟨_, _, rfl, hu9⟩ (H0.out.trans (he4.trans (Ext.refl _).drew)).size (fun _ _ _ => rfl))
  clear D1 D2 D3 hu9
  (repeat (first | (apply hw_read (by rfl) (by rfl); (· (intro W hW; (try dsimp only at hW); go_simp; (first | done | rfl | (rw [if_pos] <;> first | omega | rfl)))); (try simp only [Act.put, List.setIfInBounds_toArray, List.set_cons_zero, List.set_cons_succ])) | (refine hw_skip (by rfl) (by rfl) ?_; (try simp only [Act.put, List.setIfInBounds_toArray, List.set_cons_zero, List.set_cons_succ]))))
  refine hw_step (by rfl) ?_
  go_wp2_with (go_at_call 64; refine (HIns.out _ ⟨w4.heap.size + 1, 0, none⟩ w4.heap.size (he4.trans (he6 _ _)) ?_).mono ?_; rotate_left; rintro e w7 ⟨v', rfl, hO7, hgr7, hvb7⟩; obtain ⟨A7, c7, hA7⟩ := hO7.form; generalize (((kidsOf l k).map fun y => adr (key y)) ++ [w4.heap.size]).length = n7 at hA7; subst hA7)
  · have hk7 := (HO3.out _ (he6 _ _)).grown_keepsT hgr7
    have bi7 := hk7 _ _ _ (by decide) (HBi3.out _ (he6 _ _))
    have bk7 := hk7 _ _ _ (by decide) (HBk3.out _ (he6 _ _))
    have he7 : Ext w0 w7 := (HO3.out _ (he6 _ _)).grown_ext (H0.out.trans (he4.trans (he6 _ _))) hgr7
    have cc := bk7.cell 3; have cf := bk7.frozen 3; have ci1 := bi7.cell 1; have ci2 := bi7.cell 2
    simp at cc ci1 ci2
    refine ⟨⟨cc, ci1, ci2⟩, ?_⟩
    have Hk := Lib.hid Hkd.out
    have hfin : ∃ adr' kv', TreeAt w0.heap.size (w7.setCell ⟨adr k, 3, none⟩ (.slice A7 n7 c7)) (l ++ [x]) adr' kv' ∧ adr' [] = adr [] ∧ w0.heap.size ≤ adr k := by
      have hh := TreeAt.grow (w4 := w4) (w7 := w7) (x := x) (u := .slice A9 x.ids.length c9) (v' := .slice A7 n7 c7) (H.out.ext (he4.trans he5)) HG.out HF.out (H0.out.trans (he4.trans he5)).size Hu9.out
        (by rw [Hkd.out]; exact hO7) (by rw [Hkd.out, Hkv.out]; exact hgr7) (by rw [Hkd.out, Hkv.out]; simpa using hvb7)
      rw [Hkd.out] at hh
      exact hh
    obtain ⟨adr', kv', hT, ha, -⟩ := hfin
    have hKN : KeepsN w (w7.setCell ⟨adr k, 3, none⟩ (.slice A7 n7 c7)) := fun b t cs ht1 ht2 hb =>
      KeepsT.set (t' := 87) bk7 (.slice A7 n7 c7) rfl b t cs ht1 (hk7 b t cs ht2 (hb.ext (he4.trans (he6 _ _))))
    have HKN := Lib.hid hKN
    have HT := Lib.hid hT; have Ha := Lib.hid ha; have He7 := Lib.hid he7
    clear hKN hT ha he7 hO7 hgr7 hvb7 hk7 bi7 bk7 ci1 ci2
    (refine hw_nil ?_; (try simp only [List.drop_succ_cons, List.drop_zero]))
    go_wp2
    refine NoPanic.normal ?_
    dsimp only [Exit.then]
    go_wp2
    go_ret
    exact ⟨rfl, He7.out.setCell hBk _, HKN.out, adr', kv', HT.out, Ha.out⟩
  · simp [Addr.add]
end
end Go.Sf

/-! Is an item valid by itself? -/
namespace Go.Sf
open Go Go.RowKit Go.Proofs
theorem itemOk_ids {x : It} (h1 : pathOk x.path = true) (h2 : x.ids.length ≤ 4) (h3 : x.dir = false ∨ x.ids = []) : itemOk x = x.ids.all fun i => inB i 1 99 := by
  have : idsOk x = x.ids.all fun i => inB i 1 99 := by
    unfold idsOk
    rcases h3 with h | h
    · simp [h]
    · simp [h]
  rw [itemOk, this, h1]; simp [h2]
set_option maxHeartbeats 2000000 in
theorem itemValid_c {B : Nat} {v : Value} {x : It} (w : World) (h : ItV B w v x) (hm : ML w) : Calls Tryd.prog 50 #[v] w (Ret (.bool (itemOk x)) w) := by
  obtain ⟨u2, rfl, hps, hI⟩ := h
  have he : Ext w (w.alloc (.cells #[.string x.path, .bool x.dir, u2] 34)) := (Ext.refl w).alloc _
  have Cp : ∀ W, Ext w W → Calls Tryd.prog 61 #[.string x.path] W (Ret (.bool (pathOk x.path)) W) := fun W e => PathValid_c _ _ hps (hm.ext e)
  have hl := hI.len
  unfold lim at hl
  obtain ⟨A, c, rfl, hA⟩ := hI
  have hbk := Blk.new w 34 #[.string x.path, .bool x.dir, .slice A x.ids.length c]
  have b0 := fun W (e : Ext _ W) => hbk.at_ (i := 0) (u := .string x.path) rfl W e
  have b1 := fun W (e : Ext _ W) => hbk.at_ (i := 1) (u := .bool x.dir) rfl W e
  have b2 := fun W (e : Ext _ W) => hbk.at_ (i := 2) (u := .slice A x.ids.length c) rfl W e
  clear hbk
  cases hp : pathOk x.path with
  | false =>
    rw [hp] at Cp
    have Hf : Hid (itemOk x = false) := Lib.hid (by simp [itemOk, hp])
    clear hp
    go_enter Tryd.func50, Tryd.ntmps50
    go_wp2_with (go_at_call 61; refine (Cp _ he).mono ?_; rintro e w1 ⟨rfl, he1⟩)
    go_ret
    exact ⟨ret_b Hf.out.symm, he.trans he1⟩
  | true =>
    rw [hp] at Cp
    generalize hn : x.ids.length = n at *
    have Hn := Lib.hid hn; clear hn
    have HA := Lib.hid hA; clear hA
    have Hp := Lib.hid hp; clear hp
    by_cases h4 : 4 < n
    · have h4i : (4 : Int) < (n : Int) := by omega
      have Hf : Hid (itemOk x = false) := Lib.hid (by
        have : ¬ x.ids.length ≤ 4 := by rw [Hn.out]; omega
        simp [itemOk, this])
      go_enter Tryd.func50, Tryd.ntmps50
      go_wp2_with (go_at_call 61; refine (Cp _ he).mono ?_; rintro e w1 ⟨rfl, he1⟩; have c2 := b2 _ he1)
      go_ret
      exact ⟨ret_b Hf.out.symm, he.trans he1⟩
    · have h4i : ¬ (4 : Int) < (n : Int) := by omega
      by_cases hd : x.dir = true ∧ 0 < n
      · obtain ⟨hd, h0⟩ := hd
        have h0i : (0 : Int) < (n : Int) := by omega
        have Hf : Hid (itemOk x = false) := Lib.hid (by
          have : idsOk x = false := by
            unfold idsOk
            rw [List.all_eq_false]
            have hlt : 0 < x.ids.length := by rw [Hn.out]; exact h0
            exact ⟨x.ids[0], List.getElem_mem hlt, by simp [hd]⟩
          simp [itemOk, this])
        rw [hd] at b1
        rw [hd] at b0 b2 he ⊢
        have Hd := Lib.hid hd; clear hd
        go_enter Tryd.func50, Tryd.ntmps50
        go_wp2_with (go_at_call 61; refine (Cp _ he).mono ?_; rintro e w1 ⟨rfl, he1⟩; have c1 := b1 _ he1; have c2 := b2 _ he1)
        go_ret
        exact ⟨ret_b Hf.out.symm, he.trans he1⟩
      · have hor : x.dir = false ∨ x.ids = [] := by
          cases hx : x.dir with
          | false => exact .inl rfl
          | true =>
            right
            have : ¬ 0 < n := fun h => hd ⟨hx, h⟩
            exact List.length_eq_zero_iff.1 (by rw [Hn.out]; omega)
        have Hor : Hid (itemOk x = x.ids.all fun i => inB i 1 99) := Lib.hid (itemOk_ids Hp.out (by rw [Hn.out]; omega) hor)
        clear hor
        have key : ∀ b : Bool, x.dir = b → (b = true → n = 0) → Calls Tryd.prog 50 #[.agg #[.string x.path, .bool x.dir, .slice A n c]] w (Ret (.bool (itemOk x)) w) := by
          intro b hb hbn
          rw [hb] at b1
          rw [hb] at b0 b2 he ⊢
          have Hb := Lib.hid hb; clear hb hd
          cases b with
          | true =>
            have h0 : n = 0 := hbn rfl
            subst h0
            have Ht : Hid (itemOk x = true) := Lib.hid (by rw [Hor.out, List.length_eq_zero_iff.1 Hn.out]; rfl)
            clear hbn
            go_enter Tryd.func50, Tryd.ntmps50
            go_wp2_with (go_at_call 61; refine (Cp _ he).mono ?_; rintro e w1 ⟨rfl, he1⟩; have c1 := b1 _ he1; have c2 := b2 _ he1)
            refine wp_loop_rounds 1 ?_; rw [rounds_succ]
            go_wp2
            go_ret
            exact ⟨ret_b Ht.out.symm, he.trans he1⟩
          | false =>
            clear hbn
            go_enter Tryd.func50, Tryd.ntmps50
            go_wp2_with (go_at_call 61; refine (Cp _ he).mono ?_; rintro e w1 ⟨rfl, he1⟩; have c1 := b1 _ he1; have c2 := b2 _ he1)
            have he2 := he.trans he1
            clear b0 b1 b2 c1 c2 he he1 Cp
            go_loopw [28] (fun i wr => ∃ k : Nat, k ≤ n ∧ i = .int .i64 k ∧ Ext w wr ∧ Hid ((x.ids.take k).all (fun i => inB i 1 99) = true)) (fun i _ => n - (RowKit.intOf i).toNat)
            case atStart => exact ⟨0, by omega, rfl, he2, by simp [Hid]⟩
            case round =>
              obtain ⟨k, hk, rfl, he, hall⟩ := hrel
              by_cases hlt : k < n
              · obtain ⟨y, hy⟩ := get_of_lt (l := x.ids) (k := k) (by rw [Hn.out]; exact hlt)
                obtain ⟨b, o, rfl, -, -, hin, hcc⟩ := Ints.at_ HA.out hy
                have ha := hcc wr he
                have Hy := Lib.hid hy
                clear hcc hy
                by_cases g1 : 1 ≤ y
                · by_cases g2 : y ≤ 99
                  · go_wp2
                    go_roundw
                    case rel =>
                      refine ⟨k + 1, by omega, by go_num, he, ?_⟩
                      show _ = true
                      rw [List.take_add_one, Hy.out, List.all_append, hall.out]
                      simp [inB, g1, g2]
                    case measure => simp [RowKit.intOf]; omega
                  · go_wp2
                    go_ret
                    refine ⟨ret_b ?_, he⟩
                    rw [Hor.out]
                    symm
                    rw [List.all_eq_false]
                    exact ⟨y, List.mem_of_getElem? Hy.out, by simp [inB]; omega⟩
                · go_wp2
                  go_ret
                  refine ⟨ret_b ?_, he⟩
                  rw [Hor.out]
                  symm
                  rw [List.all_eq_false]
                  exact ⟨y, List.mem_of_getElem? Hy.out, by simp [inB]; omega⟩
              · have hks : k = n := by omega
                subst hks
                go_wp2
                go_ret
                refine ⟨ret_b ?_, he⟩
                have := hall.out
                rw [List.take_of_length_le (by rw [Hn.out]; omega)] at this
                rw [Hor.out, this]
        exact key x.dir rfl (fun h => by
          have : ¬ 0 < n := fun h' => hd ⟨h, h'⟩
          omega)
end Go.Sf

/-! The tree of nodes is opened: it is there just where the tree is valid. -/
namespace Go.Sf
open Go Go.RowKit Go.Proofs
/-- what openTree hands back -/
def OpenV (w0 : World) (l : List It) (e : Ending) (w' : World) : Prop :=
  Ext w0 w' ∧ ((treeOk l = false ∧ e = .returned (.tuple #[.pointer none, .bool false])) ∨ (treeOk l = true ∧ ∃ adr kv, e = .returned (.tuple #[.pointer (some ⟨adr [], 0, none⟩), .bool true]) ∧ TreeAt w0.heap.size w' l adr kv))
/-- the path of the item ahead of k -/
def lastPath (l : List It) : Nat → ByteArray
  | 0 => ⟨#[]⟩
  | k + 1 => ((l[k]?).map (·.path)).getD ⟨#[]⟩
theorem fits_next {l : List It} {k : Nat} {x : It} (hg : Grow (l.take k)) (hx : l[k]? = some x) (h1 : blt (lastPath l k) x.path = true) (h2 : itemOk x = true) (h3 : inDir (l.take k) x.path) : Fits (l.take k) x := by
  refine ⟨h2, fun y hy => ?_, h3.2⟩
  cases k with
  | zero => simp at hy
  | succ k =>
    have hk : k < l.length := by have := lt_of_get hx; omega
    have e : lastPath l (k + 1) = l[k].path := by simp [lastPath, hk]
    rw [e, blt_eq] at h1
    obtain ⟨i, hi⟩ := List.mem_iff_getElem?.1 hy
    have hi' := hi
    rw [List.getElem?_take] at hi
    split at hi
    · next hik =>
      rcases Nat.lt_or_ge i k with h | h
      · have hkk : (l.take (k + 1))[k]? = some l[k] := by rw [List.getElem?_take, if_pos (by omega)]; simp [hk]
        exact lt8_trans _ _ _ (hg.lt hi' hkk h) h1
      · have : i = k := by omega
        subst this
        rw [List.getElem?_eq_getElem hk] at hi
        rw [← Option.some.inj hi]; exact h1
    · cases hi
theorem grow_next {l : List It} {k : Nat} {x : It} (hg : Grow l) (hx : l[k]? = some x) : blt (lastPath l k) x.path = true ∧ itemOk x = true ∧ inDir (l.take k) x.path := by
  obtain ⟨h1, h2, h3⟩ := hg k x hx
  refine ⟨?_, h1, itemOk_path h1, h3⟩
  cases k with
  | zero =>
    rw [blt_eq]
    show lt8 [] (bl x.path) = true
    cases hb : bl x.path with
    | nil => have := itemOk_path h1; unfold pathOk at this; rw [hb] at this; exact absurd this (by decide)
    | cons => rfl
  | succ k =>
    have hk : k < l.length := by have := lt_of_get hx; omega
    have e : lastPath l (k + 1) = l[k].path := by simp [lastPath, hk]
    rw [e, blt_eq]
    exact hg.lt (List.getElem?_eq_getElem hk) hx (by omega)
set_option maxRecDepth 4000 in
set_option maxHeartbeats 2000000 in
theorem openTree_c {B : Nat} {v : Value} {l : List It} (w : World) (h : Its B w v l) (hm : ML w) : Calls Tryd.prog 36 #[v] w (OpenV w l) := by
  obtain ⟨A, c, rfl, hA⟩ := h
  have hl := hA.2.2.1
  have HA := Lib.hid hA; clear hA
  have Hl := Lib.hid hl
  unfold lim at hl
  generalize hn : l.length = n at *
  have Hn := Lib.hid hn; clear hn
  by_cases h12 : n ≤ 12
  · have h12i : ¬ (12 : Int) < (n : Int) := by omega
    have HM := Lib.hid hm; clear hm
    go_enter Tryd.func36, Tryd.ntmps36
    go_wp2
    go_loopw [5, 15] (fun s i wr => ∃ k : Nat, k ≤ n ∧ i = .int .i64 k ∧ s = .string (lastPath l k) ∧ Ext w wr ∧ Hid (Grow (l.take k) ∧ ∃ adr kv, TreeAt w.heap.size wr (l.take k) adr kv ∧ adr [] = w.heap.size)) (fun _ i _ => n - (RowKit.intOf i).toNat)
    case atStart =>
      refine ⟨0, by omega, rfl, rfl, (Ext.refl w).alloc _, Lib.hid ⟨Grow.nil, fun _ => w.heap.size, fun _ => .slice none 0 0, ?_, rfl⟩⟩
      have hb := Blk.new w 87 #[.string ⟨#[]⟩, .bool true, .slice none 0 0, .slice none 0 0]
      exact ⟨⟨Nat.le_refl _, OwnS.nil _ _ _ _ _, _, hb, SlOf.nil _ _ _ _ _⟩, fun x hx => by simp at hx, fun k k' hk hk' _ => by
        rcases hk with rfl | ⟨z, hz, -⟩
        · rcases hk' with rfl | ⟨z, hz, -⟩
          · rfl
          · simp at hz
        · simp at hz, fun k k' g _ _ h1 _ => by cases h1⟩
    case round =>
      obtain ⟨k, hk, rfl, rfl, he, hT⟩ := hrel
      by_cases hlt : k < n
      · obtain ⟨x, hx⟩ := get_of_lt (l := l) (k := k) (by rw [Hn.out]; exact hlt)
        obtain ⟨b, o, u2, rfl, -, -, hps, ⟨A2, c2, rfl, hA2⟩, hc0, hc1, hc2⟩ := Its.at_ HA.out hx
        have a0 := hc0 wr he; have a1 := hc1 wr he; have a2 := hc2 wr he
        have Hx := Lib.hid hx
        have HI : Hid (∀ W, Ext wr W → ItV B W (.agg #[.string x.path, .bool x.dir, .slice A2 x.ids.length c2]) x) := Lib.hid fun W e => ⟨_, rfl, hps, Ints.ext ⟨_, _, rfl, hA2⟩ (he.trans e)⟩
        have HMr : Hid (∀ W, Ext wr W → ML W) := Lib.hid fun W e => HM.out.ext (he.trans e)
        have ee : ∀ o1, Ext wr (wr.alloc o1) := fun o1 => (Ext.refl wr).alloc o1
        have Fail : ∀ (W : World), Ext w W → ¬ (blt (lastPath l k) x.path = true ∧ itemOk x = true ∧ inDir (l.take k) x.path) → OpenV w l (.returned (.tuple #[.pointer none, .bool false])) W := fun W e hf =>
          ⟨e, .inl ⟨by
            cases ht : treeOk l with
            | false => rfl
            | true => exact absurd (grow_next (treeOk_iff'.1 ht).2 Hx.out) hf, rfl⟩⟩
        have HFail := Lib.hid Fail
        have hl2 := hA2.2.2.1
        unfold lim at hl2
        clear hc0 hc1 hc2 hx hA2 Fail
        cases hb : blt (lastPath l k) x.path with
        | false =>
          have hle : (Op.bytesLess x.path.toList (lastPath l k).toList || x.path.toList == (lastPath l k).toList) = true := by rw [le_of_blt, hb]; rfl
          have Hb := Lib.hid hb; clear hb
          rw [Bool.or_eq_true] at hle
          rcases hle with hle | hle
          · go_wp2
            go_ret2
            exact HFail.out _ (he.trans (ee _)) (fun h => by rw [Hb.out] at h; cases h.1)
          · cases hle2 : Op.bytesLess x.path.toList (lastPath l k).toList with
            | true =>
              go_wp2
              go_ret2
              exact HFail.out _ (he.trans (ee _)) (fun h => by rw [Hb.out] at h; cases h.1)
            | false =>
              go_wp2
              go_ret2
              exact HFail.out _ (he.trans (ee _)) (fun h => by rw [Hb.out] at h; cases h.1)
        | true =>
          have g1 : Op.bytesLess x.path.toList (lastPath l k).toList = false := by
            show blt x.path (lastPath l k) = false
            rw [blt_eq] at hb ⊢; exact lt8_asymm hb
          have g2 : (x.path.toList == (lastPath l k).toList) = false := by
            rw [bytes_ne_iff, decide_eq_false_iff_not]; exact fun e => blt_ne hb e.symm
          have Hb := Lib.hid hb; clear hb
          cases hio : itemOk x with
          | false =>
            have Ci : ∀ W, Ext wr W → Calls Tryd.prog 50 #[.agg #[.string x.path, .bool x.dir, .slice A2 x.ids.length c2]] W (Ret (.bool false) W) := fun W e => by rw [← hio]; exact itemValid_c W (HI.out W e) (HMr.out W e)
            have Hio := Lib.hid hio; clear hio
            go_wp2_with (go_at_call 50; refine (Ci _ (ee _)).mono ?_; rintro e w2 ⟨rfl, he2⟩)
            go_ret2
            exact HFail.out _ (he.trans ((ee _).trans he2)) (fun h => by rw [Hio.out] at h; cases h.2.1)
          | true =>
            have Ci : ∀ W, Ext wr W → Calls Tryd.prog 50 #[.agg #[.string x.path, .bool x.dir, .slice A2 x.ids.length c2]] W (Ret (.bool true) W) := fun W e => by rw [← hio]; exact itemValid_c W (HI.out W e) (HMr.out W e)
            have Hio := Lib.hid hio; clear hio
            obtain ⟨hgr, adr, kv, hta, had⟩ := hT.out
            have hll : (l.take k).length < lim := by
              have := List.length_take_le' k l
              have := Hn.out; unfold lim; omega
            by_cases hin : inDir (l.take k) x.path
            · have hfit := fits_next hgr Hx.out Hb.out Hio.out hin
              have Cn : ∀ W, Ext wr W → Calls Tryd.prog 51 #[.pointer (some ⟨w.heap.size, 0, none⟩), .agg #[.string x.path, .bool x.dir, .slice A2 x.ids.length c2]] W (InsV w W (l.take k) x w.heap.size) := fun W e => by
                have := insert_c (w0 := w) (hta.ext e) hgr hll (HI.out W e) (HMr.out W e) hfit (he.trans e)
                rwa [had] at this
              have Hnext : Hid (Grow (l.take (k + 1)) ∧ l.take (k + 1) = l.take k ++ [x] ∧ lastPath l (k + 1) = x.path) := Lib.hid (by
                have e : l.take (k + 1) = l.take k ++ [x] := by rw [List.take_add_one, Hx.out]; rfl
                exact ⟨by rw [e]; exact hgr.snoc hfit, e, by simp [lastPath, Hx.out]⟩)
              clear hgr hta had hin hfit hT
              have hbk := Blk.new wr 34 #[.string x.path, .bool x.dir, .slice A2 x.ids.length c2]
              have HBk : Hid (∀ W, Ext _ W → Blk W wr.heap.size 34 #[.string x.path, .bool x.dir, .slice A2 x.ids.length c2]) := Lib.hid fun W e => hbk.ext e
              have bb := fun W (e : Ext _ W) => hbk.at_ (i := 0) (u := .string x.path) rfl W e
              have b1 := fun W (e : Ext _ W) => hbk.at_ (i := 1) (u := .bool x.dir) rfl W e
              have b2 := fun W (e : Ext _ W) => hbk.at_ (i := 2) (u := .slice A2 x.ids.length c2) rfl W e
              clear hbk
              go_wp2_with (first | (go_at_call 50; refine (Ci _ (ee _)).mono ?_; rintro e w2 ⟨rfl, he2⟩; have q0 := bb _ he2; have q1 := b1 _ he2; have q2 := b2 _ he2) | (go_at_call 51; refine (Cn _ ((ee _).trans he2)).mono ?_; rintro e w3 ⟨rfl, he3, hkn, hT3⟩; have z0 := (hkn _ _ _ (by decide) (by decide) (HBk.out _ he2)).cell 0; simp at z0; have HT3 := Lib.hid hT3; clear hT3 hkn q0 q1 q2 bb b1 b2))
              go_roundw
              case rel =>
                refine ⟨k + 1, by omega, by go_num, by rw [Hnext.out.2.2], he3, Lib.hid ⟨Hnext.out.1, ?_⟩⟩
                rw [Hnext.out.2.1]; exact HT3.out
              case measure => simp [RowKit.intOf]; omega
            · have Cn : ∀ W, Ext wr W → Calls Tryd.prog 51 #[.pointer (some ⟨w.heap.size, 0, none⟩), .agg #[.string x.path, .bool x.dir, .slice A2 x.ids.length c2]] W (Ret (.bool false) W) := fun W e => by
                have := insert_no_c (w0 := w) (hta.ext e) hgr (Nat.le_of_lt hll) (HI.out W e) (HMr.out W e) hin
                rwa [had] at this
              have Hin := Lib.hid hin
              clear hgr hta had hin hT
              have hbk := Blk.new wr 34 #[.string x.path, .bool x.dir, .slice A2 x.ids.length c2]
              have bb := fun W (e : Ext _ W) => hbk.at_ (i := 0) (u := .string x.path) rfl W e
              have b1 := fun W (e : Ext _ W) => hbk.at_ (i := 1) (u := .bool x.dir) rfl W e
              have b2 := fun W (e : Ext _ W) => hbk.at_ (i := 2) (u := .slice A2 x.ids.length c2) rfl W e
              clear hbk
              go_wp2_with (first | (go_at_call 50; refine (Ci _ (ee _)).mono ?_; rintro e w2 ⟨rfl, he2⟩; have q0 := bb _ he2; have q1 := b1 _ he2; have q2 := b2 _ he2) | (go_at_call 51; refine (Cn _ ((ee _).trans he2)).mono ?_; rintro e w3 ⟨rfl, he3⟩))
              go_ret2
              exact HFail.out _ (he.trans (((ee _).trans he2).trans he3)) (fun h => Hin.out h.2.2)
      · have hks : k = n := by omega
        subst hks
        have e : l.take k = l := List.take_of_length_le (by rw [Hn.out]; omega)
        have hT2 := hT.out
        rw [e] at hT2
        have HT2 := Lib.hid hT2
        clear hT hT2 e
        go_wp2
        go_ret2
        obtain ⟨hgr, adr, kv, hta, had⟩ := HT2.out
        refine ⟨he, .inr ⟨treeOk_iff'.2 ⟨by rw [Hn.out]; exact h12, hgr⟩, adr, kv, ?_, hta⟩⟩
        rw [had]; rfl
  · have h12i : (12 : Int) < (n : Int) := by omega
    have Hf : Hid (treeOk l = false) := Lib.hid (treeOk_false.2 fun h => by have := h.1; rw [Hn.out] at this; omega)
    go_enter Tryd.func36, Tryd.ntmps36
    go_wp2
    go_ret2
    exact ⟨Ext.refl w, .inl ⟨Hf.out, rfl⟩⟩
end Go.Sf

/-! The items of a tree of nodes are listed. -/
namespace Go.Sf
open Go Go.RowKit Go.Proofs
theorem bl_append (a b : ByteArray) : bl (a ++ b) = bl a ++ bl b := by
  unfold bl; simp
theorem kid_path {l : List It} {k : Key} {x : It} (h : x ∈ kidsOf l k) : mkB (startOf k) ++ nameOf (key x) = x.path := by
  apply bl_inj
  rw [bl_append, bl_mkB, nameOf_key, bl_mkB, key_path_eq x, (mem_kids.1 h).2]
theorem kid_start (x : It) : x.path ++ (⟨#[47]⟩ : ByteArray) = mkB (startOf (key x)) := by
  apply bl_inj
  rw [bl_append, bl_mkB, startOf, if_neg (key_ne x), key_join]; rfl
theorem flat_take {l : List It} {d : Nat} {k : Key} {j : Nat} {x : It} (h : (kidsOf l k)[j]? = some x) :
    ((kidsOf l k).take (j + 1)).flatMap (fun x => x :: flat l d (key x)) = ((kidsOf l k).take j).flatMap (fun x => x :: flat l d (key x)) ++ [x] ++ flat l d (key x) := by
  rw [List.take_add_one, h]
  simp
def bdF : Nat → Nat
  | 0 => 0
  | d + 1 => 12 * (1 + bdF d)
theorem flatMap_len {α β : Type} (L : List α) (f : α → List β) (b : Nat) (h : ∀ x, x ∈ L → (f x).length ≤ b) : (L.flatMap f).length ≤ L.length * b := by
  induction L with
  | nil => simp
  | cons a L ih =>
    rw [List.flatMap_cons, List.length_append, List.length_cons, Nat.add_mul]
    have h1 := h a (by simp)
    have h2 := ih fun x hx => h x (by simp [hx])
    omega
theorem flat_len {l : List It} (hl : l.length ≤ 12) : ∀ d k, (flat l d k).length ≤ bdF d := by
  intro d
  induction d with
  | zero => intro k; simp [flat]
  | succ d ih =>
    intro k
    rw [flat]
    have h1 := flatMap_len (kidsOf l k) (fun x => x :: flat l d (key x)) (1 + bdF d) (fun x _ => by have := ih (key x); simp; omega)
    have h2 : (kidsOf l k).length ≤ 12 := Nat.le_trans (List.length_filter_le _ _) hl
    exact Nat.le_trans h1 (Nat.mul_le_mul_right _ h2)
theorem bdF_le {d : Nat} (h : d ≤ 4) : bdF d ≤ 22620 := by
  match d, h with
  | 0, _ => decide
  | 1, _ => decide
  | 2, _ => decide
  | 3, _ => decide
  | 4, _ => decide
theorem flat_take_len {l : List It} (hl : l.length ≤ 12) {d : Nat} (hd : d + 1 ≤ 4) (k : Key) (j : Nat) : (((kidsOf l k).take j).flatMap fun x => x :: flat l d (key x)).length ≤ 22620 := by
  refine Nat.le_trans (flatMap_len _ _ (1 + bdF d) (fun x _ => by have := flat_len hl d (key x); simp; omega)) ?_
  have h2 : ((kidsOf l k).take j).length ≤ 12 := Nat.le_trans (List.length_take_le' _ _) (Nat.le_trans (List.length_filter_le _ _) hl)
  exact Nat.le_trans (Nat.mul_le_mul_right _ h2) (bdF_le hd)
theorem kids_deep {l : List It} (hg : Grow l) {k : Key} (h : 4 ≤ k.length) : kidsOf l k = [] := by
  rw [kidsOf, List.filter_eq_nil_iff]
  intro x hx
  simp only [kin, decide_eq_true_eq]
  intro e
  have h4 := (key_ok (itemOk_path (hg.fits hx).1)).2
  have h1 := congrArg List.length (key_last (x := x))
  rw [e, List.length_append, List.length_singleton] at h1
  omega
section
variable {B : Nat} {l : List It} {adr : Key → Nat} {kv : Key → Value}
end
end Go.Sf

/-! The changes between two lists of items. -/
namespace Go.Sf
open Go Go.RowKit Go.Proofs
end Go.Sf
