/- An item goes into the tree of nodes, behind all that are there. -/
import Derived.Test.YtfpkllihfcgmaaaDoorT13
import Derived.Test.YtfpkllihfcgmaaaDoorT14
import Derived.Test.YtfpkllihfcgmaaaDoorT15
import Derived.Test.YtfpkllihfcgmaaaDoorW8
import Derived.Test.YtfpkllihfcgmaaaDoorW9
namespace Go.Sf
open Go Go.RowKit Go.Proofs
/-- what insert leaves: true, and the tree with the item -/
def KeepsN (w w' : World) : Prop := ∀ b t cs, t ≠ 66 → t ≠ 50 → Blk w b t cs → Blk w' b t cs
def InsV (w0 w : World) (l : List It) (x : It) (r : Nat) (e : Ending) (w' : World) : Prop :=
  e = .returned (.bool true) ∧ Ext w0 w' ∧ KeepsN w w' ∧ ∃ adr kv, TreeAt w0.heap.size w' (l ++ [x]) adr kv ∧ adr [] = r
theorem OwnS.grown_keepsT {α : Type} {B t sz : Nat} {E : World → Array Value → Nat → α → Prop} {W w' : World} {v : Value} {l : List α} (h : OwnS B t sz E W v l) (hg : W.grownBy w' v.ownBlock) : KeepsT t W w' :=
  let ⟨_, h1, _⟩ := h; Go.Sf.grown_keepsT h1 hg
theorem OwnS.grown_ext {α : Type} {t sz : Nat} {E : World → Array Value → Nat → α → Prop} {w0 W w' : World} {v : Value} {l : List α} (h : OwnS w0.heap.size t sz E W v l) (h0 : Ext w0 W) (hg : W.grownBy w' v.ownBlock) : Ext w0 w' :=
  let ⟨_, h1, _⟩ := h; Go.Sf.grown_ext h0 h1 hg
theorem lastB_name {x : It} : lastB x.path = nameOf (key x) := rfl
theorem names_lt {l : List It} {x : It} (hf : Fits l x) {nm : ByteArray} (h : nm ∈ namesOf l (key x).dropLast) : blt nm (nameOf (key x)) = true := by
  unfold namesOf at h
  obtain ⟨y, hy, rfl⟩ := List.mem_map.1 h
  have h1 := hf.2.1 y (mem_kids.1 hy).1
  rw [key_path_eq y, key_path_eq x, (mem_kids.1 hy).2, lt8_append] at h1
  rw [blt_eq, nameOf_key, nameOf_key, bl_mkB, bl_mkB]; exact h1
theorem fits_place {l : List It} {x : It} (hf : Fits l x) : lbB (namesOf l (key x).dropLast) (nameOf (key x)) = (namesOf l (key x).dropLast).length ∧ hasB (namesOf l (key x).dropLast) (nameOf (key x)) = false := by
  constructor
  · exact lbB_of (Nat.le_refl _) (fun k y _ hy => names_lt hf (List.mem_of_getElem? hy)) (fun y hy => by rw [List.getElem?_eq_none (Nat.le_refl _)] at hy; cases hy)
  · exact hasB_none fun k y hy e => by
      have := names_lt hf (List.mem_of_getElem? hy)
      rw [e, blt_irrefl] at this; cases this
section
variable {w0 w : World} {l : List It} {adr : Key → Nat} {kv : Key → Value}
set_option maxHeartbeats 1000000 in
theorem insert_no_c (h : TreeAt w0.heap.size w l adr kv) (hg : Grow l) (hl : l.length ≤ lim) {B' : Nat} {v : Value} {x : It} (hx : ItV B' w v x) (hm : ML w) (hn : ¬ inDir l x.path) :
    Calls Tryd.prog 47 #[.pointer (some ⟨adr [], 0, none⟩), v] w (Ret (.bool false) w) := by
  obtain ⟨u2, rfl, hps, hI⟩ := hx
  have he : ∀ o, Ext w (w.alloc o) := fun o => (Ext.refl w).alloc o
  have hd := fun o => dirOf_c (h.ext (he o)) hg hl x.path hps (hm.ext (he o))
  rw [dirOfV_no hn] at hd
  have Hd := Lib.hid hd
  clear hd h hg hm hI hn
  go_enter Tryd.func47, Tryd.ntmps47
  go_wp2_with (go_at_call 53; refine (Hd.out _).mono ?_; rintro e w1 ⟨rfl, he1⟩)
  go_ret
  exact ⟨rfl, (he _).trans he1⟩
set_option maxRecDepth 4000 in
set_option maxHeartbeats 2000000 in
theorem insert_c (h : TreeAt w0.heap.size w l adr kv) (hg : Grow l) (hl : l.length < lim) {B' : Nat} {v : Value} {x : It} (hx : ItV B' w v x) (hm : ML w) (hf : Fits l x) (h0 : Ext w0 w) :
    Calls Tryd.prog 47 #[.pointer (some ⟨adr [], 0, none⟩), v] w (InsV w0 w l x (adr [])) := by
  obtain ⟨u2, rfl, hps, hI⟩ := hx
  have hxp := itemOk_path hf.1
  have hin : inDir l x.path := ⟨hxp, hf.2.2⟩
  have hk : isKey l (key x).dropLast := hf.2.2.imp_right fun ⟨z, h1, h2, _⟩ => ⟨z, h1, h2⟩
  have hd := fun W (e : Ext w W) => dirOf_c (h.ext e) hg (Nat.le_of_lt hl) x.path hps (hm.ext e)
  rw [dirOfV_yes hin] at hd
  change ∀ W, Ext w W → Calls _ _ _ _ (Ret (.tuple #[.pointer (some ⟨adr (key x).dropLast, 0, none⟩), .string (nameOf (key x))]) W) at hd
  have hp := fun W (e : Ext w W) => place_c (h.ext e) hg (Nat.le_of_lt hl) hk (nameOf (key x))
  rw [(fits_place hf).1, (fits_place hf).2] at hp
  obtain ⟨dir, ids, ⟨hBk, hO, uk, hbk, -⟩, -⟩ := h.node hk
  have HBk : Hid (∀ W, Ext w W → Blk W (adr (key x).dropLast) 66 #[.string (nameOf (key x).dropLast), .bool dir, uk, kv (key x).dropLast]) := Lib.hid fun W e => hbk.ext e
  have c3 := fun W (e : Ext w W) => hbk.at_ (i := 3) (u := kv (key x).dropLast) rfl W e
  have hlen : (namesOf l (key x).dropLast).length = ((kidsOf l (key x).dropLast).map fun y => adr (key y)).length := by simp [namesOf]
  have hlk : ((kidsOf l (key x).dropLast).map fun y => adr (key y)).length < lim := by rw [← hlen]; exact Nat.lt_of_le_of_lt (namesOf_le _ _) hl
  rw [hlen] at hp
  generalize hkd : (key x).dropLast = k at *
  have Hkd := Lib.hid hkd
  have H := Lib.hid h; have HG := Lib.hid hg; have HF := Lib.hid hf; have HD := Lib.hid hd; have HP := Lib.hid hp
  have HO := Lib.hid hO; have C3 := Lib.hid c3; have HI := Lib.hid hI; have Hlk := Lib.hid hlk; have H0 := Lib.hid h0
  clear hkd h hg hf hd hp hO c3 hI hlk hlen hbk hin hk hm hl h0
  obtain ⟨Ak, ck, hkv⟩ := HO.out.form
  have HIns : Hid (∀ (W : World) (ad : Addr) (b : Nat), Ext w W → W.cell? (ad.add 0) = some (.pointer (some ⟨b, 0, none⟩)) →
      Calls Tryd.prog 61 #[.slice Ak ((kidsOf l k).map fun y => adr (key y)).length ck, .int .i64 ((kidsOf l k).map fun y => adr (key y)).length, .slice (some ad) 1 1] W (GrownV w0.heap.size 50 1 EPtr W (.slice Ak ((kidsOf l k).map fun y => adr (key y)).length ck) (((kidsOf l k).map fun y => adr (key y)) ++ [b]))) :=
    Lib.hid fun W ad b e hc => by
      have := Insert_end_c (B := w0.heap.size) (H0.out.trans e).size (HO.out.ext eptr_ok e) Hlk.out hc
      rwa [hkv] at this
  generalize hn : ((kidsOf l k).map fun y => adr (key y)).length = n at *
  have Hn := Lib.hid hn; clear hn
  have Hkv := Lib.hid hkv
  rw [hkv] at C3 HBk
  clear hkv
  have he1 : Ext w (w.alloc (.cells #[.string x.path, .bool x.dir, u2] 35)) := (Ext.refl w).alloc _
  have hb1 := Blk.new w 35 #[.string x.path, .bool x.dir, u2]
  have b0 := fun W (e : Ext _ W) => hb1.at_ (i := 0) (u := .string x.path) rfl W e
  have b1 := fun W (e : Ext _ W) => hb1.at_ (i := 1) (u := .bool x.dir) rfl W e
  have b2 := fun W (e : Ext _ W) => hb1.at_ (i := 2) (u := u2) rfl W e
  have HBi : Hid (∀ W, Ext _ W → Blk W w.heap.size 35 #[.string x.path, .bool x.dir, u2]) := Lib.hid fun W e => hb1.ext e
  clear hb1
  have bb0 := b0 _ (Ext.refl _)
  go_enter Tryd.func47, Tryd.ntmps47
  go_wp2_with fail
  refine (HD.out _ he1).mono ?_
  rintro e w2 ⟨rfl, he2⟩
  go_wp2_with fail
  refine (HP.out _ (he1.trans he2)).mono ?_
  rintro e w3 ⟨rfl, he3⟩
  have he4 := he1.trans (he2.trans he3)
  have HBi3 : Hid (∀ W, Ext w3 W → Blk W w.heap.size 35 #[.string x.path, .bool x.dir, u2]) := Lib.hid fun W e => HBi.out W ((he2.trans he3).trans e)
  have HBk3 : Hid (∀ W, Ext w3 W → Blk W (adr k) 66 #[.string (nameOf k), .bool dir, uk, .slice Ak n ck]) := Lib.hid fun W e => HBk.out W (he4.trans e)
  have HO3 : Hid (∀ W, Ext w3 W → OwnS w0.heap.size 50 1 EPtr W (.slice Ak n ck) ((kidsOf l k).map fun y => adr (key y))) := Lib.hid fun W e => by rw [← Hkv.out]; exact HO.out.ext eptr_ok (he4.trans e)
  clear HBi HBk
  have D1 := fun W (e : Ext w3 W) => b1 W ((he2.trans he3).trans e)
  have D2 := fun W (e : Ext w3 W) => b2 W ((he2.trans he3).trans e)
  have D3 := fun W (e : Ext w3 W) => C3.out W (he4.trans e)
  clear b0 b1 b2 bb0 he1 he2 he3
  go_wp2
  refine wp_region_hold (fun W => W.cell? ⟨adr k, 3, none⟩ = some (.slice Ak n ck) ∧ W.cell? ⟨w.heap.size, 1, none⟩ = some (.bool x.dir) ∧ W.cell? ⟨w.heap.size, 2, none⟩ = some u2) 16 [(0, true), (1, true), (2, true), (3, true), (4, true), (5, true), (6, true), (7, true), (8, true), (9, true), (10, true), (11, false), (12, true), (13, false), (14, false), (15, false)] (by kernel_rfl) (by kernel_rfl) ?_ ?_
  · exact ⟨D3 _ (Ext.refl _).drew, D1 _ (Ext.refl _).drew, D2 _ (Ext.refl _).drew⟩
  (repeat (first | (apply hw_read (by rfl) (by rfl); (· (intro W hW; (try dsimp only at hW); go_simp; (first | done | rfl | (rw [if_pos] <;> first | omega | rfl)))); (try simp only [Act.put, List.setIfInBounds_toArray, List.set_cons_zero, List.set_cons_succ])) | (refine hw_skip (by rfl) (by rfl) ?_; (try simp only [Act.put, List.setIfInBounds_toArray, List.set_cons_zero, List.set_cons_succ]))))
  refine hw_step (by rfl) ?_
  go_wp2_with (go_at_call 62; refine (Clone_int_c (xs := x.ids) _ (HI.out.ext (he4.trans (Ext.refl _).drew))).mono ?_; rintro e w4 ⟨u9, rfl, ⟨A9, c9, rfl, hu9⟩, he9⟩)
  have he5 := (Ext.refl w3).drew.trans he9
  clear he9
  refine ⟨⟨D3 _ he5, D1 _ he5, D2 _ he5⟩, ?_⟩
  (repeat (first | (apply hw_read (by rfl) (by rfl); (· (intro W hW; (try dsimp only at hW); go_simp; (first | done | rfl | (rw [if_pos] <;> first | omega | rfl)))); (try simp only [Act.put, List.setIfInBounds_toArray, List.set_cons_zero, List.set_cons_succ])) | (refine hw_skip (by rfl) (by rfl) ?_; (try simp only [Act.put, List.setIfInBounds_toArray, List.set_cons_zero, List.set_cons_succ]))))
  refine hw_step (by rfl) ?_
  go_wp2
  refine ⟨⟨D3 _ (he5.alloc _), D1 _ (he5.alloc _), D2 _ (he5.alloc _)⟩, ?_⟩
  (repeat (first | (apply hw_read (by rfl) (by rfl); (· (intro W hW; (try dsimp only at hW); go_simp; (first | done | rfl | (rw [if_pos] <;> first | omega | rfl)))); (try simp only [Act.put, List.setIfInBounds_toArray, List.set_cons_zero, List.set_cons_succ])) | (refine hw_skip (by rfl) (by rfl) ?_; (try simp only [Act.put, List.setIfInBounds_toArray, List.set_cons_zero, List.set_cons_succ]))))
  refine hw_step (by rfl) ?_
  go_wp2
  refine ⟨⟨D3 _ ((he5.alloc _).alloc _), D1 _ ((he5.alloc _).alloc _), D2 _ ((he5.alloc _).alloc _)⟩, ?_⟩
  have he6 := fun o1 o2 => (he5.alloc o1).alloc o2
  have Hu9 : Hid (Ints w0.heap.size w4 (.slice A9 x.ids.length c9) x.ids) := Lib.hid (Ints.keep ⟨_, _, rfl, hu9⟩ (H0.out.trans (he4.trans (Ext.refl _).drew)).size (fun _ _ _ => rfl))
  clear D1 D2 D3 hu9
  (repeat (first | (apply hw_read (by rfl) (by rfl); (· (intro W hW; (try dsimp only at hW); go_simp; (first | done | rfl | (rw [if_pos] <;> first | omega | rfl)))); (try simp only [Act.put, List.setIfInBounds_toArray, List.set_cons_zero, List.set_cons_succ])) | (refine hw_skip (by rfl) (by rfl) ?_; (try simp only [Act.put, List.setIfInBounds_toArray, List.set_cons_zero, List.set_cons_succ]))))
  refine hw_step (by rfl) ?_
  go_wp2_with (go_at_call 61; refine (HIns.out _ ⟨w4.heap.size + 1, 0, none⟩ w4.heap.size (he4.trans (he6 _ _)) ?_).mono ?_; rotate_left; rintro e w7 ⟨v', rfl, hO7, hgr7, hvb7⟩; obtain ⟨A7, c7, hA7⟩ := hO7.form; generalize (((kidsOf l k).map fun y => adr (key y)) ++ [w4.heap.size]).length = n7 at hA7; subst hA7)
  · have hk7 := (HO3.out _ (he6 _ _)).grown_keepsT hgr7
    have bi7 := hk7 _ _ _ (by decide) (HBi3.out _ (he6 _ _))
    have bk7 := hk7 _ _ _ (by decide) (HBk3.out _ (he6 _ _))
    have he7 : Ext w0 w7 := (HO3.out _ (he6 _ _)).grown_ext (H0.out.trans (he4.trans (he6 _ _))) hgr7
    have cc := bk7.cell 3; have cf := bk7.frozen 3; have ci1 := bi7.cell 1; have ci2 := bi7.cell 2
    simp at cc ci1 ci2
    refine ⟨⟨cc, ci1, ci2⟩, ?_⟩
    have Hk := Lib.hid Hkd.out
    have hfin : ∃ adr' kv', TreeAt w0.heap.size (w7.setCell ⟨adr k, 3, none⟩ (.slice A7 n7 c7)) (l ++ [x]) adr' kv' ∧ adr' [] = adr [] ∧ w0.heap.size ≤ adr k := by
      have hh := TreeAt.grow (w4 := w4) (w7 := w7) (x := x) (u := .slice A9 x.ids.length c9) (v' := .slice A7 n7 c7) (H.out.ext (he4.trans he5)) HG.out HF.out (H0.out.trans (he4.trans he5)).size Hu9.out
        (by rw [Hkd.out]; exact hO7) (by rw [Hkd.out, Hkv.out]; exact hgr7) (by rw [Hkd.out, Hkv.out]; simpa using hvb7)
      rw [Hkd.out] at hh
      exact hh
    obtain ⟨adr', kv', hT, ha, -⟩ := hfin
    have hKN : KeepsN w (w7.setCell ⟨adr k, 3, none⟩ (.slice A7 n7 c7)) := fun b t cs ht1 ht2 hb =>
      KeepsT.set (t' := 66) bk7 (.slice A7 n7 c7) rfl b t cs ht1 (hk7 b t cs ht2 (hb.ext (he4.trans (he6 _ _))))
    have HKN := Lib.hid hKN
    have HT := Lib.hid hT; have Ha := Lib.hid ha; have He7 := Lib.hid he7
    clear hKN hT ha he7 hO7 hgr7 hvb7 hk7 bi7 bk7 ci1 ci2
    (refine hw_nil ?_; simp only [List.drop_succ_cons, List.drop_zero])
    go_wp2
    refine NoPanic.normal ?_
    dsimp only [Exit.then]
    go_wp2
    go_ret
    exact ⟨rfl, He7.out.setCell hBk _, HKN.out, adr', kv', HT.out, Ha.out⟩
  · simp [Addr.add]
end
end Go.Sf
