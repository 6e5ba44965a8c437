/- The law of the kinds of changes. -/
import Derived.Test.YtfpkllihfcgmaaaDoorT27
import Derived.Test.YtfpkllihfcgmaaaDoorT28
namespace Go.Sf
open Go Go.RowKit Go.Proofs
theorem dir_ids {x : It} (h : itemOk x = true) (hd : x.dir = true) : x.ids = [] := by
  simp only [itemOk, idsOk, Bool.and_eq_true, List.all_eq_true] at h
  cases hi : x.ids with
  | nil => rfl
  | cons a r =>
    have := h.1 a (by rw [hi]; exact List.mem_cons_self)
    rw [hd] at this
    simp at this
theorem file_of {x y : It} (hx : itemOk x = true) (hy : itemOk y = true) (hp : x.path = y.path) (hd : x.dir = y.dir) (hne : x ≠ y) : x.dir = false := by
  cases h : x.dir with
  | false => rfl
  | true =>
    refine absurd ?_ hne
    obtain ⟨xp, xd, xi⟩ := x
    obtain ⟨yp, yd, yi⟩ := y
    have h1 := dir_ids hx h
    have h2 := dir_ids hy (hd ▸ h)
    simp only at h1 h2 hp hd
    rw [h1, h2, hp, hd]
theorem find_in {l : List It} (h : treeOk l = true) {x : It} (hx : x ∈ l) : findIt l x.path = some x := (treeOk_iff'.1 h).2.find hx
/-- what TreeFind says of both trees at a change's path -/
def Kd (k : Int) (x : It) (pa : Bool) (xa : It) (pb : Bool) (xb : It) : Prop :=
  (k = 1 ∧ pb = true ∧ xb = x) ∨ (k = 2 ∧ pa = true ∧ xa = x) ∨ (k = 3 ∧ pa = true ∧ pb = true ∧ xa.dir = false ∧ xb.dir = false ∧ xb = x ∧ xa ≠ xb)
/-- what TreeFind hands back, the option in two parts -/
def FindQ (w : World) (p : Bool) (x : It) (e : Ending) (w' : World) : Prop := ∃ u, e = .returned (.tuple #[u, .bool p]) ∧ Ext w w' ∧ ItV w.heap.size w' u x
theorem item_in {l : List It} (h : treeOk l = true) {x : It} (hx : x ∈ l) : itemOk x = true := ((treeOk_iff'.1 h).2.fits hx).1
theorem kinds_of {B B' : Nat} {va vb : Value} {la lb : List It} {c : Ch} (w : World) (ha : Its B w va la) (hb : Its B' w vb lb) (hm : ML w) (ta : treeOk la = true) (tb : treeOk lb = true) (hp : c.item.path.size < lim) (hs : ChSays la lb c) :
    ∃ pa xa pb xb, Kd c.kind c.item pa xa pb xb ∧ (∀ W, Ext w W → Calls Tryd.prog 14 #[va, .string c.item.path] W (FindQ W pa xa)) ∧ (∀ W, Ext w W → Calls Tryd.prog 14 #[vb, .string c.item.path] W (FindQ W pb xb)) := by
  refine ⟨_, _, _, _, ?_, fun W e => TreeFind_c W (ha.ext e) ta c.item.path hp (hm.ext e), fun W e => TreeFind_c W (hb.ext e) tb c.item.path hp (hm.ext e)⟩
  rcases hs with ⟨hk, h⟩ | ⟨hk, h⟩ | ⟨hk, h, x, hx, hxp, hxd, hne⟩
  · have := find_in tb h
    exact .inl ⟨hk, by rw [this]; rfl, by rw [this]; rfl⟩
  · have := find_in ta h
    exact .inr (.inl ⟨hk, by rw [this]; rfl, by rw [this]; rfl⟩)
  · have f1 := find_in tb h
    have f2 := find_in ta hx
    rw [hxp] at f2
    have d1 := file_of (item_in ta hx) (item_in tb h) hxp hxd hne
    refine .inr (.inr ⟨hk, by rw [f2]; rfl, by rw [f1]; rfl, by rw [f2]; exact d1, by rw [f1]; exact hxd.symm.trans d1, by rw [f1]; rfl, by rw [f1, f2]; exact hne⟩)
set_option maxHeartbeats 1000000 in
theorem FnChangesKinds_big {A : Option Addr} {n c : Nat} (w : World) (hn : 1048576 < n) (hm : n ≤ maxLen) : Calls Tryd.prog 6 #[.slice A n c] w (Ret (.bool true) w) := by
  unfold maxLen at hm
  have h : (1048576 : Int) < (n : Int) := by omega
  go_enter Tryd.func6, Tryd.ntmps6
  go_wp2
  go_ret
  exact ⟨rfl, Ext.refl w⟩
set_option maxRecDepth 4000 in
set_option maxHeartbeats 2000000 in
theorem FnChangesKinds_c {v : Value} {xs : List Int} (w : World) (h : Bys w v xs) (hm : ML w) (hl : xs.length ≤ 1048576) : Calls Tryd.prog 6 #[v] w (Ret (.bool true) w) := by
  have H := Lib.hid h
  obtain ⟨A, c, rfl, -⟩ := h
  have HM := Lib.hid hm; clear hm
  have hn : ¬ (1048576 : Int) < (xs.length : Int) := by omega
  go_enter Tryd.func6, Tryd.ntmps6
  go_wp2_with fail
  refine (DrawChangesOf_c _ H.out).mono ?_
  rintro e w1 ⟨va, vb, la, lb, rfl, hIa, hIb, hla, hlb, he1⟩
  have HIa := Lib.hid hIa; have HIb := Lib.hid hIb
  have HM1 := Lib.hid (HM.out.ext he1)
  clear hIa hIb
  go_wp2_with fail
  refine (ChangesOf_c _ HIa.out HIb.out HM1.out).mono ?_
  rintro e w2 ⟨v2, rfl, ⟨u2, rfl, hC1⟩, he2⟩
  have HE2 := Lib.hid (he1.trans he2)
  have HC1 := Lib.hid hC1
  have HIa2 := Lib.hid (HIa.out.ext he2); have HIb2 := Lib.hid (HIb.out.ext he2)
  have HM2 := Lib.hid (HM1.out.ext he2)
  clear he1 he2 hC1
  go_wp2_with fail
  refine (specChangesOf_c _ HIa2.out HIb2.out (by unfold lim; omega)).mono ?_
  rintro e w3 ⟨v3, rfl, ⟨u3, rfl, hC2⟩, he3⟩
  have Cs := same_true (HC1.out.ext he3) hC2
  have HE3 := Lib.hid (HE2.out.trans he3)
  have HC3 := Lib.hid (HC1.out.ext he3)
  have HIa3 := Lib.hid (HIa2.out.ext he3); have HIb3 := Lib.hid (HIb2.out.ext he3)
  have HM3 := Lib.hid (HM2.out.ext he3)
  clear he3 hC2
  cases hch : chgOf la lb with
  | none =>
    have e1 : (none : Option (List Ch)).isSome = false := rfl
    simp only [hch, e1] at *
    clear hch
    go_wp2_with (go_at_call 11; refine (Cs _ (by first | exact Ext.refl _ | assumption)).mono ?_; rintro e w4 ⟨rfl, he4⟩)
    go_ret
    exact ⟨rfl, HE3.out.trans (by (repeat' (first | exact Ext.refl _ | assumption | refine Ext.alloc ?_ _ | refine Ext.drew ?_ | refine Ext.drewN ?_ _ | refine Ext.trans ?_ (by assumption))))⟩
  | some L =>
    have e1 : (some L : Option (List Ch)).isSome = true := rfl
    have hLL := chgOf_some hch
    simp only [hch, e1, Option.getD_some] at *
    obtain ⟨hta, htb, rfl⟩ := hLL
    have Hta := Lib.hid hta; have Htb := Lib.hid htb
    clear hch hta htb
    go_wp2_with (go_at_call 11; refine (Cs _ (by first | exact Ext.refl _ | assumption)).mono ?_; rintro e w4 ⟨rfl, he4⟩)
    have HM4 := Lib.hid (HM3.out.ext he4)
    have HIa4 := Lib.hid (HIa3.out.ext he4); have HIb4 := Lib.hid (HIb3.out.ext he4)
    have HE4 := Lib.hid (HE3.out.trans he4)
    have HC4 := Lib.hid (HC3.out.ext he4)
    clear he4 Cs
    obtain ⟨Ac, cc, rfl, hcl⟩ := HC4.out
    have HC := Lib.hid hcl
    have hll := hcl.2.2.1
    unfold lim at hll
    have hn : ∃ n, (chg la lb).length = n := ⟨_, rfl⟩
    obtain ⟨n, hn⟩ := hn
    rw [hn] at hll ⊢
    have Hn := Lib.hid hn
    clear hcl HC4 HC3 HC1 HIa HIb HIa2 HIb2 HIa3 HIb3 hn
    go_wp2
    go_loopw [9] (fun i wr => ∃ k : Nat, k ≤ n ∧ i = .int .i64 k ∧ Ext w4 wr) (fun i _ => n - (intOf i).toNat)
    case atStart => exact ⟨0, by omega, rfl, Ext.refl _⟩
    case round =>
      obtain ⟨k, hk, rfl, he⟩ := hrel
      by_cases hlt : k < n
      · obtain ⟨x, hx⟩ := get_of_lt (l := chg la lb) (k := k) (by rw [Hn.out]; exact hlt)
        have hsay := chg_says la lb x (List.mem_of_getElem? hx)
        obtain ⟨b, o, u3, rfl, -, -, hki, hps, ⟨Ax, cx, rfl, hux⟩, hc0, hc1, hc2, hc3⟩ := Chs.at_ HC.out hx
        have a0 := fun W (h : Ext wr W) => hc0 W (he.trans h)
        have a1 := fun W (h : Ext wr W) => hc1 W (he.trans h)
        have a2 := fun W (h : Ext wr W) => hc2 W (he.trans h)
        have a3 := fun W (h : Ext wr W) => hc3 W (he.trans h)
        obtain ⟨pa, xa, pb, xb, hK, Ca, Cb⟩ := kinds_of w4 HIa4.out HIb4.out HM4.out Hta.out Htb.out hps hsay
        have Da := fun W (e : Ext wr W) => Ca W (he.trans e)
        have Db := fun W (e : Ext wr W) => Cb W (he.trans e)
        have HU : Hid (∀ W, Ext wr W → ItV w1.heap.size W (.agg #[.string x.item.path, .bool x.item.dir, .slice Ax x.item.ids.length cx]) x.item) := Lib.hid fun W e => ⟨_, rfl, hps, Ints.ext (show Ints _ w4 _ _ from ⟨_, _, rfl, hux⟩) (he.trans e)⟩
        have HK := Lib.hid hK
        clear hc0 hc1 hc2 hc3 hsay hux hx Ca Cb
        obtain ⟨xk, xi⟩ := x
        simp only at a0 a1 a2 a3 hki hps Da Db hK
        have Next : ∀ W, Ext w4 W → (∃ k' : Nat, k' ≤ n ∧ Value.int .i64 ((k : Int) + 1) = .int .i64 k' ∧ Ext w4 W) := fun W e => ⟨k + 1, by omega, by go_num, e⟩
        rcases hK with ⟨rfl, rfl, rfl⟩ | ⟨rfl, rfl, rfl⟩ | ⟨rfl, rfl, rfl, hda, hdb, rfl, hne⟩
        · skip
          go_wp2_with fail
          refine (Da _ (Ext.refl _)).mono ?_
          rintro e w5 ⟨ua, rfl, he5, va5, rfl, hpa, ⟨Aa, ca, rfl, hua⟩⟩
          go_wp2_with fail
          refine (Db _ (he5.alloc _)).mono ?_
          rintro e w6 ⟨ub, rfl, he6, vb5, rfl, hpb, ⟨Ab, cb, rfl, hub⟩⟩
          have he6' := (he5.alloc _).trans he6
          have Ba := ((Blk.new w5 35 #[.string xa.path, .bool xa.dir, .slice Aa xa.ids.length ca]).ext he6).alloc (.cells #[.string xb.path, .bool xb.dir, .slice Ab xb.ids.length cb] 35)
          have Bb := Blk.new w6 35 #[.string xb.path, .bool xb.dir, .slice Ab xb.ids.length cb]
          have y0 := fun W (e : Ext _ W) => Ba.at_ (i := 0) (u := .string xa.path) rfl W e
          have y1 := fun W (e : Ext _ W) => Ba.at_ (i := 1) (u := .bool xa.dir) rfl W e
          have y2 := fun W (e : Ext _ W) => Ba.at_ (i := 2) (u := .slice Aa xa.ids.length ca) rfl W e
          have z0 := fun W (e : Ext _ W) => Bb.at_ (i := 0) (u := .string xb.path) rfl W e
          have z1 := fun W (e : Ext _ W) => Bb.at_ (i := 1) (u := .bool xb.dir) rfl W e
          have z2 := fun W (e : Ext _ W) => Bb.at_ (i := 2) (u := .slice Ab xb.ids.length cb) rfl W e
          have hbb : ∀ W, Ext w6 W → ItV _ W (.agg #[.string xb.path, .bool xb.dir, .slice Ab xb.ids.length cb]) xb := fun W e => ⟨_, rfl, hpb, Ints.ext (show Ints _ w6 _ _ from ⟨_, _, rfl, hub⟩) e⟩
          have haa : ∀ W, Ext w6 W → ItV _ W (.agg #[.string xa.path, .bool xa.dir, .slice Aa xa.ids.length ca]) xa := fun W e => ⟨_, rfl, hpa, Ints.ext (show Ints _ w5 _ _ from ⟨_, _, rfl, hua⟩) (((Ext.refl _).alloc _).trans (he6.trans e))⟩
          have e1 := fun W (e : Ext (w6.alloc (.cells #[.string xb.path, .bool xb.dir, .slice Ab xb.ids.length cb] 35)) W) => (((Ext.refl w6).alloc _).trans e)
          have E := fun W (e : Ext (w6.alloc (.cells #[.string xb.path, .bool xb.dir, .slice Ab xb.ids.length cb] 35)) W) => he6'.trans (e1 W e)
          have Cs : ∀ W, Ext _ W → Calls Tryd.prog 15 #[.agg #[.string xb.path, .bool xb.dir, .slice Ab xb.ids.length cb], .agg #[.string xb.path, .bool xb.dir, .slice Ax xb.ids.length cx]] W (Ret (.bool true) W) := fun W e => by
            have := laws_sameItem_c W (hbb W (e1 W e)) (HU.out W (E W e))
            rwa [show eqb xb xb = true from eqb_true.2 rfl] at this
          have b1 := fun W (e : Ext _ W) => a1 W (E W e); have b2 := fun W (e : Ext _ W) => a2 W (E W e); have b3 := fun W (e : Ext _ W) => a3 W (E W e)
          clear hua hub Da Db Ba Bb a1 a2 a3
          go_wp2
          refine wp_region_ext (by kernel_rfl) (by kernel_rfl) ?_
          repeat (first | (apply q_plain rfl; (· intro W eW; go_simp; (first | done | rfl | (rw [if_pos] <;> first | omega | rfl))); (try simp only [Act.put, List.setIfInBounds_toArray, List.set_cons_zero, List.set_cons_succ])) | (refine qg_skip (by rfl) ?_; (try simp only [Act.put, List.setIfInBounds_toArray, List.set_cons_zero, List.set_cons_succ])) | (apply qg_plain (by rfl); (· intro W eW; go_simp; (first | done | rfl | (rw [if_pos] <;> first | omega | rfl))); (try simp only [Act.put, List.setIfInBounds_toArray, List.set_cons_zero, List.set_cons_succ])))
          ((first | apply q_call rfl | apply qg_call (by rfl)); (· intro W eW; go_simp; (first | done | (constructor <;> rfl))); (· intro W eW; exact Cs W eW); (try simp only [Act.put, List.setIfInBounds_toArray, List.set_cons_zero, List.set_cons_succ]))
          repeat (first | (apply q_plain rfl; (· intro W eW; go_simp; (first | done | rfl | (rw [if_pos] <;> first | omega | rfl))); (try simp only [Act.put, List.setIfInBounds_toArray, List.set_cons_zero, List.set_cons_succ])) | (refine qg_skip (by rfl) ?_; (try simp only [Act.put, List.setIfInBounds_toArray, List.set_cons_zero, List.set_cons_succ])) | (apply qg_plain (by rfl); (· intro W eW; go_simp; (first | done | rfl | (rw [if_pos] <;> first | omega | rfl))); (try simp only [Act.put, List.setIfInBounds_toArray, List.set_cons_zero, List.set_cons_succ])))
          refine q_nil ?_
          clear y0 y1 y2 z0 z1 z2 b1 b2 b3
          intro w7 e7
          have e8 := he.trans (E _ e7)
          clear E e1
          go_wp2
          go_roundw
          case rel => exact Next _ e8
          case measure => simp [intOf]; omega
        · skip
          go_wp2_with fail
          refine (Da _ (Ext.refl _)).mono ?_
          rintro e w5 ⟨ua, rfl, he5, va5, rfl, hpa, ⟨Aa, ca, rfl, hua⟩⟩
          go_wp2_with fail
          refine (Db _ (he5.alloc _)).mono ?_
          rintro e w6 ⟨ub, rfl, he6, vb5, rfl, hpb, ⟨Ab, cb, rfl, hub⟩⟩
          have he6' := (he5.alloc _).trans he6
          have Ba := ((Blk.new w5 35 #[.string xa.path, .bool xa.dir, .slice Aa xa.ids.length ca]).ext he6).alloc (.cells #[.string xb.path, .bool xb.dir, .slice Ab xb.ids.length cb] 35)
          have Bb := Blk.new w6 35 #[.string xb.path, .bool xb.dir, .slice Ab xb.ids.length cb]
          have y0 := fun W (e : Ext _ W) => Ba.at_ (i := 0) (u := .string xa.path) rfl W e
          have y1 := fun W (e : Ext _ W) => Ba.at_ (i := 1) (u := .bool xa.dir) rfl W e
          have y2 := fun W (e : Ext _ W) => Ba.at_ (i := 2) (u := .slice Aa xa.ids.length ca) rfl W e
          have z0 := fun W (e : Ext _ W) => Bb.at_ (i := 0) (u := .string xb.path) rfl W e
          have z1 := fun W (e : Ext _ W) => Bb.at_ (i := 1) (u := .bool xb.dir) rfl W e
          have z2 := fun W (e : Ext _ W) => Bb.at_ (i := 2) (u := .slice Ab xb.ids.length cb) rfl W e
          have hbb : ∀ W, Ext w6 W → ItV _ W (.agg #[.string xb.path, .bool xb.dir, .slice Ab xb.ids.length cb]) xb := fun W e => ⟨_, rfl, hpb, Ints.ext (show Ints _ w6 _ _ from ⟨_, _, rfl, hub⟩) e⟩
          have haa : ∀ W, Ext w6 W → ItV _ W (.agg #[.string xa.path, .bool xa.dir, .slice Aa xa.ids.length ca]) xa := fun W e => ⟨_, rfl, hpa, Ints.ext (show Ints _ w5 _ _ from ⟨_, _, rfl, hua⟩) (((Ext.refl _).alloc _).trans (he6.trans e))⟩
          have e1 := fun W (e : Ext (w6.alloc (.cells #[.string xb.path, .bool xb.dir, .slice Ab xb.ids.length cb] 35)) W) => (((Ext.refl w6).alloc _).trans e)
          have E := fun W (e : Ext (w6.alloc (.cells #[.string xb.path, .bool xb.dir, .slice Ab xb.ids.length cb] 35)) W) => he6'.trans (e1 W e)
          have Cs : ∀ W, Ext _ W → Calls Tryd.prog 15 #[.agg #[.string xa.path, .bool xa.dir, .slice Aa xa.ids.length ca], .agg #[.string xa.path, .bool xa.dir, .slice Ax xa.ids.length cx]] W (Ret (.bool true) W) := fun W e => by
            have := laws_sameItem_c W (haa W (e1 W e)) (HU.out W (E W e))
            rwa [show eqb xa xa = true from eqb_true.2 rfl] at this
          have b1 := fun W (e : Ext _ W) => a1 W (E W e); have b2 := fun W (e : Ext _ W) => a2 W (E W e); have b3 := fun W (e : Ext _ W) => a3 W (E W e)
          clear hua hub Da Db Ba Bb a1 a2 a3
          go_wp2
          refine wp_region_ext (by kernel_rfl) (by kernel_rfl) ?_
          repeat (first | (apply q_plain rfl; (· intro W eW; go_simp; (first | done | rfl | (rw [if_pos] <;> first | omega | rfl))); (try simp only [Act.put, List.setIfInBounds_toArray, List.set_cons_zero, List.set_cons_succ])) | (refine qg_skip (by rfl) ?_; (try simp only [Act.put, List.setIfInBounds_toArray, List.set_cons_zero, List.set_cons_succ])) | (apply qg_plain (by rfl); (· intro W eW; go_simp; (first | done | rfl | (rw [if_pos] <;> first | omega | rfl))); (try simp only [Act.put, List.setIfInBounds_toArray, List.set_cons_zero, List.set_cons_succ])))
          ((first | apply q_call rfl | apply qg_call (by rfl)); (· intro W eW; go_simp; (first | done | (constructor <;> rfl))); (· intro W eW; exact Cs W eW); (try simp only [Act.put, List.setIfInBounds_toArray, List.set_cons_zero, List.set_cons_succ]))
          repeat (first | (apply q_plain rfl; (· intro W eW; go_simp; (first | done | rfl | (rw [if_pos] <;> first | omega | rfl))); (try simp only [Act.put, List.setIfInBounds_toArray, List.set_cons_zero, List.set_cons_succ])) | (refine qg_skip (by rfl) ?_; (try simp only [Act.put, List.setIfInBounds_toArray, List.set_cons_zero, List.set_cons_succ])) | (apply qg_plain (by rfl); (· intro W eW; go_simp; (first | done | rfl | (rw [if_pos] <;> first | omega | rfl))); (try simp only [Act.put, List.setIfInBounds_toArray, List.set_cons_zero, List.set_cons_succ])))
          refine q_nil ?_
          clear y0 y1 y2 z0 z1 z2 b1 b2 b3
          intro w7 e7
          have e8 := he.trans (E _ e7)
          clear E e1
          go_wp2
          go_roundw
          case rel => exact Next _ e8
          case measure => simp [intOf]; omega
        · skip
          have Hne := Lib.hid hne
          clear hne
          obtain ⟨ap, ad, ai⟩ := xa; obtain ⟨bp, bd, bi⟩ := xb
          simp only at hda hdb a0 a1 a2 a3 hps Da Db
          subst hda hdb
          go_wp2_with fail
          refine (Da _ (Ext.refl _)).mono ?_
          rintro e w5 ⟨ua, rfl, he5, va5, rfl, hpa, ⟨Aa, ca, rfl, hua⟩⟩
          go_wp2_with fail
          refine (Db _ (he5.alloc _)).mono ?_
          rintro e w6 ⟨ub, rfl, he6, vb5, rfl, hpb, ⟨Ab, cb, rfl, hub⟩⟩
          have he6' := (he5.alloc _).trans he6
          have Ba := ((Blk.new w5 35 #[.string ap, .bool false, .slice Aa ai.length ca]).ext he6).alloc (.cells #[.string bp, .bool false, .slice Ab bi.length cb] 35)
          have Bb := Blk.new w6 35 #[.string bp, .bool false, .slice Ab bi.length cb]
          have y0 := fun W (e : Ext _ W) => Ba.at_ (i := 0) (u := .string ap) rfl W e
          have y1 := fun W (e : Ext _ W) => Ba.at_ (i := 1) (u := .bool false) rfl W e
          have y2 := fun W (e : Ext _ W) => Ba.at_ (i := 2) (u := .slice Aa ai.length ca) rfl W e
          have z0 := fun W (e : Ext _ W) => Bb.at_ (i := 0) (u := .string bp) rfl W e
          have z1 := fun W (e : Ext _ W) => Bb.at_ (i := 1) (u := .bool false) rfl W e
          have z2 := fun W (e : Ext _ W) => Bb.at_ (i := 2) (u := .slice Ab bi.length cb) rfl W e
          have hbb : ∀ W, Ext w6 W → ItV _ W (.agg #[.string bp, .bool false, .slice Ab bi.length cb]) (⟨bp, false, bi⟩ : It) := fun W e => ⟨_, rfl, hpb, Ints.ext (show Ints _ w6 _ _ from ⟨_, _, rfl, hub⟩) e⟩
          have haa : ∀ W, Ext w6 W → ItV _ W (.agg #[.string ap, .bool false, .slice Aa ai.length ca]) (⟨ap, false, ai⟩ : It) := fun W e => ⟨_, rfl, hpa, Ints.ext (show Ints _ w5 _ _ from ⟨_, _, rfl, hua⟩) (((Ext.refl _).alloc _).trans (he6.trans e))⟩
          have e1 := fun W (e : Ext (w6.alloc (.cells #[.string bp, .bool false, .slice Ab bi.length cb] 35)) W) => (((Ext.refl w6).alloc _).trans e)
          have E := fun W (e : Ext (w6.alloc (.cells #[.string bp, .bool false, .slice Ab bi.length cb] 35)) W) => he6'.trans (e1 W e)
          have Cs : ∀ W, Ext _ W → Calls Tryd.prog 15 #[.agg #[.string bp, .bool false, .slice Ab bi.length cb], .agg #[.string bp, .bool false, .slice Ax bi.length cx]] W (Ret (.bool true) W) := fun W e => by
            have := laws_sameItem_c W (hbb W (e1 W e)) (HU.out W (E W e))
            rwa [show eqb (⟨bp, false, bi⟩ : It) (⟨bp, false, bi⟩ : It) = true from eqb_true.2 rfl] at this
          have Ct : ∀ W, Ext _ W → Calls Tryd.prog 15 #[.agg #[.string ap, .bool false, .slice Aa ai.length ca], .agg #[.string bp, .bool false, .slice Ab bi.length cb]] W (Ret (.bool false) W) := fun W e => by
            have := laws_sameItem_c W (haa W (e1 W e)) (hbb W (e1 W e))
            rwa [show eqb (⟨ap, false, ai⟩ : It) (⟨bp, false, bi⟩ : It) = false from eqb_false.2 Hne.out] at this
          have b1 := fun W (e : Ext _ W) => a1 W (E W e); have b2 := fun W (e : Ext _ W) => a2 W (E W e); have b3 := fun W (e : Ext _ W) => a3 W (E W e)
          clear hua hub Da Db Ba Bb a1 a2 a3
          go_wp2
          refine wp_region_ext (by kernel_rfl) (by kernel_rfl) ?_
          repeat (first | (apply q_plain rfl; (· intro W eW; go_simp; (first | done | rfl | (rw [if_pos] <;> first | omega | rfl))); (try simp only [Act.put, List.setIfInBounds_toArray, List.set_cons_zero, List.set_cons_succ])) | (refine qg_skip (by rfl) ?_; (try simp only [Act.put, List.setIfInBounds_toArray, List.set_cons_zero, List.set_cons_succ])) | (apply qg_plain (by rfl); (· intro W eW; go_simp; (first | done | rfl | (rw [if_pos] <;> first | omega | rfl))); (try simp only [Act.put, List.setIfInBounds_toArray, List.set_cons_zero, List.set_cons_succ])))
          ((first | apply q_call rfl | apply qg_call (by rfl)); (· intro W eW; go_simp; (first | done | (constructor <;> rfl))); (· intro W eW; exact Cs W eW); (try simp only [Act.put, List.setIfInBounds_toArray, List.set_cons_zero, List.set_cons_succ]))
          repeat (first | (apply q_plain rfl; (· intro W eW; go_simp; (first | done | rfl | (rw [if_pos] <;> first | omega | rfl))); (try simp only [Act.put, List.setIfInBounds_toArray, List.set_cons_zero, List.set_cons_succ])) | (refine qg_skip (by rfl) ?_; (try simp only [Act.put, List.setIfInBounds_toArray, List.set_cons_zero, List.set_cons_succ])) | (apply qg_plain (by rfl); (· intro W eW; go_simp; (first | done | rfl | (rw [if_pos] <;> first | omega | rfl))); (try simp only [Act.put, List.setIfInBounds_toArray, List.set_cons_zero, List.set_cons_succ])))
          ((first | apply q_call rfl | apply qg_call (by rfl)); (· intro W eW; go_simp; (first | done | (constructor <;> rfl))); (· intro W eW; exact Ct W eW); (try simp only [Act.put, List.setIfInBounds_toArray, List.set_cons_zero, List.set_cons_succ]))
          repeat (first | (apply q_plain rfl; (· intro W eW; go_simp; (first | done | rfl | (rw [if_pos] <;> first | omega | rfl))); (try simp only [Act.put, List.setIfInBounds_toArray, List.set_cons_zero, List.set_cons_succ])) | (refine qg_skip (by rfl) ?_; (try simp only [Act.put, List.setIfInBounds_toArray, List.set_cons_zero, List.set_cons_succ])) | (apply qg_plain (by rfl); (· intro W eW; go_simp; (first | done | rfl | (rw [if_pos] <;> first | omega | rfl))); (try simp only [Act.put, List.setIfInBounds_toArray, List.set_cons_zero, List.set_cons_succ])))
          refine q_nil ?_
          clear y0 y1 y2 z0 z1 z2 b1 b2 b3
          intro w7 e7
          have e8 := he.trans (E _ e7)
          clear E e1
          go_wp2
          go_roundw
          case rel => exact Next _ e8
          case measure => simp [intOf]; omega
      · have hks : k = n := by omega
        subst hks
        have HE := Lib.hid (HE4.out.trans he)
        go_wp2
        go_ret
        exact ⟨rfl, HE.out⟩
end Go.Sf
