/- The tree of nodes is opened: it is there just where the tree is valid. -/
import Derived.Test.YtfpkllihfcgmaaaDoorT16
import Derived.Test.YtfpkllihfcgmaaaDoorT17
namespace Go.Sf
open Go Go.RowKit Go.Proofs
/-- what openTree hands back -/
def OpenV (w0 : World) (l : List It) (e : Ending) (w' : World) : Prop :=
  Ext w0 w' ∧ ((treeOk l = false ∧ e = .returned (.tuple #[.pointer none, .bool false])) ∨ (treeOk l = true ∧ ∃ adr kv, e = .returned (.tuple #[.pointer (some ⟨adr [], 0, none⟩), .bool true]) ∧ TreeAt w0.heap.size w' l adr kv))
/-- the path of the item ahead of k -/
def lastPath (l : List It) : Nat → ByteArray
  | 0 => ⟨#[]⟩
  | k + 1 => ((l[k]?).map (·.path)).getD ⟨#[]⟩
theorem fits_next {l : List It} {k : Nat} {x : It} (hg : Grow (l.take k)) (hx : l[k]? = some x) (h1 : blt (lastPath l k) x.path = true) (h2 : itemOk x = true) (h3 : inDir (l.take k) x.path) : Fits (l.take k) x := by
  refine ⟨h2, fun y hy => ?_, h3.2⟩
  cases k with
  | zero => simp at hy
  | succ k =>
    have hk : k < l.length := by have := lt_of_get hx; omega
    have e : lastPath l (k + 1) = l[k].path := by simp [lastPath, hk]
    rw [e, blt_eq] at h1
    obtain ⟨i, hi⟩ := List.mem_iff_getElem?.1 hy
    have hi' := hi
    rw [List.getElem?_take] at hi
    split at hi
    · next hik =>
      rcases Nat.lt_or_ge i k with h | h
      · have hkk : (l.take (k + 1))[k]? = some l[k] := by rw [List.getElem?_take, if_pos (by omega)]; simp [hk]
        exact lt8_trans _ _ _ (hg.lt hi' hkk h) h1
      · have : i = k := by omega
        subst this
        rw [List.getElem?_eq_getElem hk] at hi
        rw [← Option.some.inj hi]; exact h1
    · cases hi
theorem grow_next {l : List It} {k : Nat} {x : It} (hg : Grow l) (hx : l[k]? = some x) : blt (lastPath l k) x.path = true ∧ itemOk x = true ∧ inDir (l.take k) x.path := by
  obtain ⟨h1, h2, h3⟩ := hg k x hx
  refine ⟨?_, h1, itemOk_path h1, h3⟩
  cases k with
  | zero =>
    rw [blt_eq]
    show lt8 [] (bl x.path) = true
    cases hb : bl x.path with
    | nil => have := itemOk_path h1; unfold pathOk at this; rw [hb] at this; exact absurd this (by decide)
    | cons => rfl
  | succ k =>
    have hk : k < l.length := by have := lt_of_get hx; omega
    have e : lastPath l (k + 1) = l[k].path := by simp [lastPath, hk]
    rw [e, blt_eq]
    exact hg.lt (List.getElem?_eq_getElem hk) hx (by omega)
set_option maxRecDepth 4000 in
set_option maxHeartbeats 2000000 in
theorem openTree_c {B : Nat} {v : Value} {l : List It} (w : World) (h : Its B w v l) (hm : ML w) : Calls Tryd.prog 25 #[v] w (OpenV w l) := by
  obtain ⟨A, c, rfl, hA⟩ := h
  have hl := hA.2.2.1
  have HA := Lib.hid hA; clear hA
  have Hl := Lib.hid hl
  unfold lim at hl
  generalize hn : l.length = n at *
  have Hn := Lib.hid hn; clear hn
  by_cases h12 : n ≤ 12
  · have h12i : ¬ (12 : Int) < (n : Int) := by omega
    have HM := Lib.hid hm; clear hm
    go_enter Tryd.func25, Tryd.ntmps25
    go_wp2
    go_loopw [5, 15] (fun s i wr => ∃ k : Nat, k ≤ n ∧ i = .int .i64 k ∧ s = .string (lastPath l k) ∧ Ext w wr ∧ Hid (Grow (l.take k) ∧ ∃ adr kv, TreeAt w.heap.size wr (l.take k) adr kv ∧ adr [] = w.heap.size)) (fun _ i _ => n - (intOf i).toNat)
    case atStart =>
      refine ⟨0, by omega, rfl, rfl, (Ext.refl w).alloc _, Lib.hid ⟨Grow.nil, fun _ => w.heap.size, fun _ => .slice none 0 0, ?_, rfl⟩⟩
      have hb := Blk.new w 66 #[.string ⟨#[]⟩, .bool true, .slice none 0 0, .slice none 0 0]
      exact ⟨⟨Nat.le_refl _, OwnS.nil _ _ _ _ _, _, hb, SlOf.nil _ _ _ _ _⟩, fun x hx => by simp at hx, fun k k' hk hk' _ => by
        rcases hk with rfl | ⟨z, hz, -⟩
        · rcases hk' with rfl | ⟨z, hz, -⟩
          · rfl
          · simp at hz
        · simp at hz, fun k k' g _ _ h1 _ => by cases h1⟩
    case round =>
      obtain ⟨k, hk, rfl, rfl, he, hT⟩ := hrel
      by_cases hlt : k < n
      · obtain ⟨x, hx⟩ := get_of_lt (l := l) (k := k) (by rw [Hn.out]; exact hlt)
        obtain ⟨b, o, u2, rfl, -, -, hps, ⟨A2, c2, rfl, hA2⟩, hc0, hc1, hc2⟩ := Its.at_ HA.out hx
        have a0 := hc0 wr he; have a1 := hc1 wr he; have a2 := hc2 wr he
        have Hx := Lib.hid hx
        have HI : Hid (∀ W, Ext wr W → ItV B W (.agg #[.string x.path, .bool x.dir, .slice A2 x.ids.length c2]) x) := Lib.hid fun W e => ⟨_, rfl, hps, Ints.ext ⟨_, _, rfl, hA2⟩ (he.trans e)⟩
        have HMr : Hid (∀ W, Ext wr W → ML W) := Lib.hid fun W e => HM.out.ext (he.trans e)
        have ee : ∀ o1, Ext wr (wr.alloc o1) := fun o1 => (Ext.refl wr).alloc o1
        have Fail : ∀ (W : World), Ext w W → ¬ (blt (lastPath l k) x.path = true ∧ itemOk x = true ∧ inDir (l.take k) x.path) → OpenV w l (.returned (.tuple #[.pointer none, .bool false])) W := fun W e hf =>
          ⟨e, .inl ⟨by
            cases ht : treeOk l with
            | false => rfl
            | true => exact absurd (grow_next (treeOk_iff'.1 ht).2 Hx.out) hf, rfl⟩⟩
        have HFail := Lib.hid Fail
        have hl2 := hA2.2.2.1
        unfold lim at hl2
        clear hc0 hc1 hc2 hx hA2 Fail
        cases hb : blt (lastPath l k) x.path with
        | false =>
          have hle : (Op.bytesLess x.path.toList (lastPath l k).toList || x.path.toList == (lastPath l k).toList) = true := by rw [le_of_blt, hb]; rfl
          have Hb := Lib.hid hb; clear hb
          rw [Bool.or_eq_true] at hle
          rcases hle with hle | hle
          · go_wp2
            go_ret2
            exact HFail.out _ (he.trans (ee _)) (fun h => by rw [Hb.out] at h; cases h.1)
          · cases hle2 : Op.bytesLess x.path.toList (lastPath l k).toList with
            | true =>
              go_wp2
              go_ret2
              exact HFail.out _ (he.trans (ee _)) (fun h => by rw [Hb.out] at h; cases h.1)
            | false =>
              go_wp2
              go_ret2
              exact HFail.out _ (he.trans (ee _)) (fun h => by rw [Hb.out] at h; cases h.1)
        | true =>
          have g1 : Op.bytesLess x.path.toList (lastPath l k).toList = false := by
            show blt x.path (lastPath l k) = false
            rw [blt_eq] at hb ⊢; exact lt8_asymm hb
          have g2 : (x.path.toList == (lastPath l k).toList) = false := by
            rw [bytes_ne_iff, decide_eq_false_iff_not]; exact fun e => blt_ne hb e.symm
          have Hb := Lib.hid hb; clear hb
          cases hio : itemOk x with
          | false =>
            have Ci : ∀ W, Ext wr W → Calls Tryd.prog 46 #[.agg #[.string x.path, .bool x.dir, .slice A2 x.ids.length c2]] W (Ret (.bool false) W) := fun W e => by rw [← hio]; exact itemValid_c W (HI.out W e) (HMr.out W e)
            have Hio := Lib.hid hio; clear hio
            go_wp2_with (go_at_call 46; refine (Ci _ (ee _)).mono ?_; rintro e w2 ⟨rfl, he2⟩)
            go_ret2
            exact HFail.out _ (he.trans ((ee _).trans he2)) (fun h => by rw [Hio.out] at h; cases h.2.1)
          | true =>
            have Ci : ∀ W, Ext wr W → Calls Tryd.prog 46 #[.agg #[.string x.path, .bool x.dir, .slice A2 x.ids.length c2]] W (Ret (.bool true) W) := fun W e => by rw [← hio]; exact itemValid_c W (HI.out W e) (HMr.out W e)
            have Hio := Lib.hid hio; clear hio
            obtain ⟨hgr, adr, kv, hta, had⟩ := hT.out
            have hll : (l.take k).length < lim := by
              have := List.length_take_le' k l
              have := Hn.out; unfold lim; omega
            by_cases hin : inDir (l.take k) x.path
            · have hfit := fits_next hgr Hx.out Hb.out Hio.out hin
              have Cn : ∀ W, Ext wr W → Calls Tryd.prog 47 #[.pointer (some ⟨w.heap.size, 0, none⟩), .agg #[.string x.path, .bool x.dir, .slice A2 x.ids.length c2]] W (InsV w W (l.take k) x w.heap.size) := fun W e => by
                have := insert_c (w0 := w) (hta.ext e) hgr hll (HI.out W e) (HMr.out W e) hfit (he.trans e)
                rwa [had] at this
              have Hnext : Hid (Grow (l.take (k + 1)) ∧ l.take (k + 1) = l.take k ++ [x] ∧ lastPath l (k + 1) = x.path) := Lib.hid (by
                have e : l.take (k + 1) = l.take k ++ [x] := by rw [List.take_add_one, Hx.out]; rfl
                exact ⟨by rw [e]; exact hgr.snoc hfit, e, by simp [lastPath, Hx.out]⟩)
              clear hgr hta had hin hfit hT
              have hbk := Blk.new wr 35 #[.string x.path, .bool x.dir, .slice A2 x.ids.length c2]
              have HBk : Hid (∀ W, Ext _ W → Blk W wr.heap.size 35 #[.string x.path, .bool x.dir, .slice A2 x.ids.length c2]) := Lib.hid fun W e => hbk.ext e
              have bb := fun W (e : Ext _ W) => hbk.at_ (i := 0) (u := .string x.path) rfl W e
              have b1 := fun W (e : Ext _ W) => hbk.at_ (i := 1) (u := .bool x.dir) rfl W e
              have b2 := fun W (e : Ext _ W) => hbk.at_ (i := 2) (u := .slice A2 x.ids.length c2) rfl W e
              clear hbk
              go_wp2_with (first | (go_at_call 46; refine (Ci _ (ee _)).mono ?_; rintro e w2 ⟨rfl, he2⟩; have q0 := bb _ he2; have q1 := b1 _ he2; have q2 := b2 _ he2) | (go_at_call 47; refine (Cn _ ((ee _).trans he2)).mono ?_; rintro e w3 ⟨rfl, he3, hkn, hT3⟩; have z0 := (hkn _ _ _ (by decide) (by decide) (HBk.out _ he2)).cell 0; simp at z0; have HT3 := Lib.hid hT3; clear hT3 hkn q0 q1 q2 bb b1 b2))
              go_roundw
              case rel =>
                refine ⟨k + 1, by omega, by go_num, by rw [Hnext.out.2.2], he3, Lib.hid ⟨Hnext.out.1, ?_⟩⟩
                rw [Hnext.out.2.1]; exact HT3.out
              case measure => simp [intOf]; omega
            · have Cn : ∀ W, Ext wr W → Calls Tryd.prog 47 #[.pointer (some ⟨w.heap.size, 0, none⟩), .agg #[.string x.path, .bool x.dir, .slice A2 x.ids.length c2]] W (Ret (.bool false) W) := fun W e => by
                have := insert_no_c (w0 := w) (hta.ext e) hgr (Nat.le_of_lt hll) (HI.out W e) (HMr.out W e) hin
                rwa [had] at this
              have Hin := Lib.hid hin
              clear hgr hta had hin hT
              have hbk := Blk.new wr 35 #[.string x.path, .bool x.dir, .slice A2 x.ids.length c2]
              have bb := fun W (e : Ext _ W) => hbk.at_ (i := 0) (u := .string x.path) rfl W e
              have b1 := fun W (e : Ext _ W) => hbk.at_ (i := 1) (u := .bool x.dir) rfl W e
              have b2 := fun W (e : Ext _ W) => hbk.at_ (i := 2) (u := .slice A2 x.ids.length c2) rfl W e
              clear hbk
              go_wp2_with (first | (go_at_call 46; refine (Ci _ (ee _)).mono ?_; rintro e w2 ⟨rfl, he2⟩; have q0 := bb _ he2; have q1 := b1 _ he2; have q2 := b2 _ he2) | (go_at_call 47; refine (Cn _ ((ee _).trans he2)).mono ?_; rintro e w3 ⟨rfl, he3⟩))
              go_ret2
              exact HFail.out _ (he.trans (((ee _).trans he2).trans he3)) (fun h => Hin.out h.2.2)
      · have hks : k = n := by omega
        subst hks
        have e : l.take k = l := List.take_of_length_le (by rw [Hn.out]; omega)
        have hT2 := hT.out
        rw [e] at hT2
        have HT2 := Lib.hid hT2
        clear hT hT2 e
        go_wp2
        go_ret2
        obtain ⟨hgr, adr, kv, hta, had⟩ := HT2.out
        refine ⟨he, .inr ⟨treeOk_iff'.2 ⟨by rw [Hn.out]; exact h12, hgr⟩, adr, kv, ?_, hta⟩⟩
        rw [had]; rfl
  · have h12i : (12 : Int) < (n : Int) := by omega
    have Hf : Hid (treeOk l = false) := Lib.hid (treeOk_false.2 fun h => by have := h.1; rw [Hn.out] at this; omega)
    go_enter Tryd.func25, Tryd.ntmps25
    go_wp2
    go_ret2
    exact ⟨Ext.refl w, .inl ⟨Hf.out, rfl⟩⟩
end Go.Sf
