/- An item is put where none is, or taken away: plain. -/
import Derived.Test.YtpldhlpegpgmcaaDoorGI
import Derived.Test.YtpldhlpegpgmcaaDoorP20
import Derived.Test.YtpldhlpegpgmcaaDoorGE
import Derived.Test.YtpldhlpegpgmcaaDoorGD
import Derived.Test.YtpldhlpegpgmcaaDoorGO
import Derived.Test.YtpldhlpegpgmcaaDoorHH
import Derived.StillTailTactics
import Derived.Test.YtpldhlpegpgmcaaDoorGJ
import Derived.Test.YtpldhlpegpgmcaaDoorHG
/-! An item is put where none is, or taken away: plain. -/
namespace Go.Sf
open Go Go.RowKit
def dirIt (p : ByteArray) : It := ⟨p, true, []⟩
end Go.Sf

/-! A tree with an item less. -/
namespace Go.Sf
open Go Go.RowKit
theorem erase_split {α : Type} {l : List α} {i : Nat} {x : α} (h : l[i]? = some x) : l = l.take i ++ x :: l.drop (i + 1) ∧ l.eraseIdx i = l.take i ++ l.drop (i + 1) := by
  refine ⟨?_, List.eraseIdx_eq_take_drop_succ ..⟩
  rw [← drop_cons h, List.take_append_drop]
theorem kids_cut_far {l : List It} {i : Nat} {x : It} (h : l[i]? = some x) {k : Key} (hk : (key x).dropLast ≠ k) : kidsOf (l.eraseIdx i) k = kidsOf l k := by
  conv => rhs; rw [(erase_split h).1]
  rw [(erase_split h).2]
  unfold kidsOf
  rw [List.filter_append, List.filter_append, List.filter_cons_of_neg (by simp [kin, hk])]
theorem mem_erase {l : List It} (hs : Srt l) {i : Nat} {x y : It} (h : l[i]? = some x) : y ∈ l.eraseIdx i ↔ y ∈ l ∧ y.path ≠ x.path := by
  have hs' := hs
  unfold Srt at hs'
  rw [(erase_split h).1, List.pairwise_append, List.pairwise_cons] at hs'
  obtain ⟨-, ⟨h2, -⟩, h3⟩ := hs'
  rw [(erase_split h).2]
  conv => rhs; rw [(erase_split h).1]
  simp only [List.mem_append, List.mem_cons]
  constructor
  · rintro (hy | hy)
    · exact ⟨.inl hy, fun e => by have := h3 y hy x (by simp); rw [e, blt_irrefl] at this; cases this⟩
    · exact ⟨.inr (.inr hy), fun e => by have := h2 y hy; rw [e, blt_irrefl] at this; cases this⟩
  · rintro ⟨hy | rfl | hy, hne⟩
    · exact .inl hy
    · exact absurd rfl hne
    · exact .inr hy
theorem erase_key {l : List It} (hs : Srt l) {i : Nat} {x : It} (h : l[i]? = some x) {k : Key} (hk : isKey (l.eraseIdx i) k) : isKey l k ∧ k ≠ key x := by
  rcases hk with rfl | ⟨y, hy, rfl⟩
  · exact ⟨.inl rfl, fun e => key_ne x e.symm⟩
  · obtain ⟨h1, h2⟩ := (mem_erase hs h).1 hy
    exact ⟨.inr ⟨y, h1, rfl⟩, fun e => h2 (key_path e)⟩
end Go.Sf

/-! Stores that lose a use of a block. -/
namespace Go.Sf
open Go Go.RowKit
theorem storeOk_set {l : List Hd} : StoreOk l ↔ l.length ≤ 16 ∧ (∀ h, h ∈ l → hdOk h = true) ∧ l.Pairwise fun a b => a.id < b.id ∧ a.bytes ≠ b.bytes := by
  constructor
  · intro h
    refine ⟨h.1, fun x hx => ?_, ?_⟩
    · obtain ⟨k, hk⟩ := List.mem_iff_getElem?.1 hx
      exact (h.2 k x hk).1
    · rw [List.pairwise_iff_getElem]
      intro i j hi hj hij
      have h1 := List.getElem?_eq_getElem hi
      have h2 := List.getElem?_eq_getElem hj
      obtain ⟨d, rfl⟩ : ∃ d, j = i + 1 + d := ⟨j - (i + 1), by omega⟩
      exact ⟨h.asc d i _ _ h1 h2, (h.2 _ _ h2).2.2 i _ hij h1⟩
  · rintro ⟨h1, h2, h3⟩
    rw [List.pairwise_iff_getElem] at h3
    refine ⟨h1, fun k x hx => ⟨h2 x (List.mem_of_getElem? hx), fun j y hk hy => ?_, fun j y hj hy => ?_⟩⟩
    · obtain ⟨hi, e1⟩ := List.getElem?_eq_some_iff.1 hy
      obtain ⟨hj, e2⟩ := List.getElem?_eq_some_iff.1 hx
      have := (h3 j k hi hj (by omega)).1
      rwa [e1, e2] at this
    · obtain ⟨hi, e1⟩ := List.getElem?_eq_some_iff.1 hy
      obtain ⟨hj', e2⟩ := List.getElem?_eq_some_iff.1 hx
      have := (h3 j k hi hj' hj).2
      rwa [e1, e2] at this
/-- a block less, or used once less -/
def dropAt (l : List Hd) (k : Nat) : List Hd := match l[k]? with
  | some h => if h.uses = 1 then l.eraseIdx k else l.set k { h with uses := h.uses - 1 }
  | none => l
end Go.Sf

/-! The reference's copy of a store, and what it drops. -/
namespace Go.Sf
open Go Go.RowKit Go.Proofs
theorem ehd_of {B : Nat} {w : World} {x : Hd} {u : Value} (h1 : inI x.id) (h2 : Ints B w u x.bytes) (h3 : inI x.uses) : EHd B w #[.int .i64 x.id, u, .int .i64 x.uses] 0 x := ⟨rfl, h1, ⟨u, rfl, h2⟩, rfl, h3⟩
set_option maxRecDepth 4000 in
set_option maxHeartbeats 2000000 in
theorem l3Copy_c {B : Nat} {v : Value} {l : List Hd} (w : World) (h : Hds B w v l) : Calls Tryd.prog 44 #[v] w (RetP (fun v' w' => OwnS w.heap.size 31 3 (EHd w.heap.size) w' v' l) w) := by
  obtain ⟨A, c, rfl, hA⟩ := h
  have hl := hA.2.2.1
  unfold lim at hl
  generalize hn : l.length = n at *
  have Hn := Lib.hid hn; clear hn
  have HA := Lib.hid hA; clear hA
  go_enter Tryd.func44, Tryd.ntmps44
  go_wp2
  go_loopw [3, 4] (fun v i wr => ∃ k : Nat, k ≤ n ∧ i = .int .i64 k ∧ Ext w wr ∧ OwnS w.heap.size 31 3 (EHd w.heap.size) wr v (l.take k)) (fun _ i _ => n - (RowKit.intOf i).toNat)
  case atStart => exact ⟨0, by omega, rfl, (Ext.refl w).alloc _, OwnS.lit0 _ _ _ _ (Nat.le_refl _)⟩
  case round =>
    obtain ⟨k, hk, rfl, he, hO⟩ := hrel
    by_cases hlt : k < n
    · obtain ⟨x, hx⟩ := get_of_lt (l := l) (k := k) (by rw [Hn.out]; exact hlt)
      obtain ⟨b, o, u, rfl, -, -, hxi, hu, hxu, hc0, hc1, hc2⟩ := Hds.at_ HA.out hx
      have hul := hu.len
      obtain ⟨Ax, cx, rfl, hux⟩ := hu
      have a0 := hc0 wr he; have a1 := hc1 wr he; have a2 := hc2 wr he
      have Hx := Lib.hid (take_succ_get hx)
      have HO := Lib.hid hO
      have HU : Hid (∀ W, Ext w W → Ints B W (.slice Ax x.bytes.length cx) x.bytes) := Lib.hid fun W e => Ints.ext (w := w) ⟨_, _, rfl, hux⟩ e
      have hkl : (l.take k).length = k := by rw [List.length_take, Hn.out]; omega
      clear hc0 hc1 hc2 hx hO hux
      obtain ⟨xk, xb, xu⟩ := x
      simp only at *
      have hbk := Blk.new wr 31 #[.int .i64 xk, .slice Ax xb.length cx, .int .i64 xu]
      have d1 := fun W (e : Ext _ W) => hbk.at_ (i := 1) (u := .slice Ax xb.length cx) rfl W e
      have Hbk := Lib.hid hbk
      clear hbk
      go_wp2_with (at_builtin; go_must (refine wp_apS (w0 := wr) (by rfl) _ _ (by rfl) el_int eint_ok ?_ _ _ [] xb (by rfl) (OwnS.lit _ _ _ _ ?_ (by simp)) (by rfl) (HU.out _ ?_) ?_ ?_))
      · (repeat' (first | exact Ext.refl _ | assumption | refine Ext.alloc ?_ _ | refine Ext.drew ?_ | refine Ext.drewN ?_ _))
      · simp
      · refine he.trans ?_; (repeat' (first | exact Ext.refl _ | assumption | refine Ext.alloc ?_ _ | refine Ext.drew ?_ | refine Ext.drewN ?_ _))
      · simpa using hul
      · intro v' w' hO' he' hk'
        have hb1 := hk' _ _ _ (by decide) (Hbk.out.alloc (.cells #[] 3))
        have c0 := hb1.cell 0; have c1 := hb1.cell 1; have c2 := hb1.cell 2
        have f1 := hb1.frozen 1
        simp at c0 c1 c2
        obtain ⟨A', c', rfl⟩ := hO'.form
        have HU' : Hid (Ints w.heap.size w' (.slice A' xb.length c') xb) := Lib.hid (Ints.keep (hO'.sl eint_ok (Nat.le_refl _) hul) he.size (fun _ _ _ => rfl))
        have he2 : Ext wr (w'.setCell ⟨wr.heap.size, 1, none⟩ (.slice A' xb.length c')) := he'.setCell (p := ⟨wr.heap.size, 1, none⟩) (Nat.le_refl _) _
        have he3 := he.trans he2
        have HO2 := Lib.hid (HO.out.ext (EHd_ok _) he2)
        have K2 : KeepsT 31 w' _ := KeepsT.set (i := 1) hb1 (.slice A' xb.length c') rfl
        have HU2 : Hid (Ints w.heap.size (w'.setCell ⟨wr.heap.size, 1, none⟩ (.slice A' xb.length c')) (.slice A' xb.length c') xb) := Lib.hid (HU'.out.keepT K2 (by decide))
        clear hO' he' hk' hb1 HU' K2 Hbk
        go_wp2_with (at_builtin; go_must (refine wp_ap1 (w0 := w) (by rfl) _ _ (by rfl) el_Hd (EHd_ok _) he3 _ (l.take k) [⟨xk, xb, xu⟩] (by rfl) HO2.out 1 1 rfl #[.int .i64 xk, .slice A' xb.length c', .int .i64 xu] _ (by rfl) (by first | rfl | simp) rfl (oneHd rfl) (one_E (ehd_of (x := ⟨xk, xb, xu⟩) hxi HU2.out hxu)) ?_ ?_))
        · rw [hkl]; simp; unfold lim; omega
        · intro v3 w3 hO3 he4 _
          have HO3 := Lib.hid hO3
          clear hO3 he2 he3
          go_wp2
          go_roundw
          case rel => exact ⟨k + 1, by omega, by go_num, he4, by rw [Hx.out]; exact HO3.out⟩
          case measure => simp [RowKit.intOf]; omega
    · have hks : k = n := by omega
      subst hks
      have HO := Lib.hid hO; clear hO
      go_wp2
      go_ret
      have := HO.out
      rw [List.take_of_length_le (by rw [Hn.out]; omega)] at this
      exact ⟨_, rfl, this, he⟩
end Go.Sf

/-! The reference puts an item into a valid tree. -/
namespace Go.Sf
open Go Go.RowKit Go.Proofs
def mayPut (l : List It) (x : It) : Bool := match findIt l x.path with
  | some y => !(y.dir || x.dir)
  | none => true
/-- a tree with an item put into it -/
noncomputable def treePut (l : List It) (x : It) : Option (List It) :=
  if treeOk l = true ∧ itemOk x = true ∧ mayPut l x = true ∧ treeOk (putIt x l) = true then some (putIt x l) else none
set_option maxRecDepth 4000 in
set_option maxHeartbeats 2000000 in
theorem specTreePut_c {B B' : Nat} {v xv : Value} {l : List It} {x : It} (w : World) (h : Its B w v l) (hx : ItV B' w xv x) :
    Calls Tryd.prog 43 #[v, xv] w (RetP (OptIts w.heap.size (treePut l x)) w) := by
  have H := Lib.hid h; have HX := Lib.hid hx
  obtain ⟨A, c, rfl, hA⟩ := h
  have hl := hA.2.2.1
  unfold lim at hl
  obtain ⟨ux, rfl, hpx, hux⟩ := hx
  obtain ⟨Ax, cx, rfl, -⟩ := hux
  have hbk := Blk.new w 34 #[.string x.path, .bool x.dir, .slice Ax x.ids.length cx]
  have e0 : Ext w (w.alloc (.cells #[.string x.path, .bool x.dir, .slice Ax x.ids.length cx] 34)) := (Ext.refl w).alloc _
  have d0 := fun W (e : Ext _ W) => hbk.at_ (i := 0) (u := .string x.path) rfl W e
  have d1 := fun W (e : Ext _ W) => hbk.at_ (i := 1) (u := .bool x.dir) rfl W e
  have d2 := fun W (e : Ext _ W) => hbk.at_ (i := 2) (u := .slice Ax x.ids.length cx) rfl W e
  have C1 := fun W (e : Ext (w.alloc (.cells #[.string x.path, .bool x.dir, .slice Ax x.ids.length cx] 34)) W) => specTreeValid_c W (H.out.ext (e0.trans e))
  have C2 := fun W (e : Ext (w.alloc (.cells #[.string x.path, .bool x.dir, .slice Ax x.ids.length cx] 34)) W) => l5Item_c W (HX.out.ext (e0.trans e))
  have HA := Lib.hid hA
  clear hbk hA
  cases h1 : treeOk l with
  | false =>
    rw [h1] at C1
    have Hr : Hid (treePut l x = none) := Lib.hid (by unfold treePut; rw [if_neg]; rw [h1]; simp)
    clear h1 C2
    go_enter Tryd.func43, Tryd.ntmps43
    go_wp2_with (go_at_call 13; (with_reducible show Calls _ _ #[.slice _ l.length c] _ _); refine (C1 _ (Ext.refl _)).mono ?_; rintro e w2 ⟨rfl, he2⟩)
    go_ret2
    exact ⟨_, rfl, OptIts.none_ Hr.out, (e0.trans he2).alloc _⟩
  | true =>
  rw [h1] at C1
  cases h2 : itemOk x with
  | false =>
    rw [h2] at C2
    have Hr : Hid (treePut l x = none) := Lib.hid (by unfold treePut; rw [if_neg]; rw [h2]; simp)
    clear h1 h2
    go_enter Tryd.func43, Tryd.ntmps43
    go_wp2_with (first | (go_at_call 13; (with_reducible show Calls _ _ #[.slice _ l.length c] _ _); refine (C1 _ (Ext.refl _)).mono ?_; rintro e w2 ⟨rfl, he2⟩; have q0 := d0 w2 he2; have q1 := d1 w2 he2; have q2 := d2 w2 he2) | (go_at_call 25; refine (C2 _ he2).mono ?_; rintro e w3 ⟨rfl, he3⟩))
    go_ret2
    exact ⟨_, rfl, OptIts.none_ Hr.out, ((e0.trans he2).trans he3).alloc _⟩
  | true =>
  rw [h2] at C2
  have h12 : l.length ≤ 12 := (treeOk_iff.1 h1).1
  have C4 := fun W (e : Ext (w.alloc (.cells #[.string x.path, .bool x.dir, .slice Ax x.ids.length cx] 34)) W) => l5Put_c W (H.out.ext (e0.trans e)) (HX.out.ext (e0.trans e)) (by unfold lim; omega)
  have Hp : Hid (treePut l x = if mayPut l x = true ∧ treeOk (putIt x l) = true then some (putIt x l) else none) := Lib.hid (by unfold treePut; simp [h1, h2])
  have hpl := putIt_length (x := x) l
  clear h1 h2
  rcases atG_find (pathIs x.path) l 0 with ⟨h1, h2⟩ | ⟨i, y, h1, h2, h3, h4, -⟩
  · have C3 : ∀ W, Ext (w.alloc (.cells #[.string x.path, .bool x.dir, .slice Ax x.ids.length cx] 34)) W → Calls Tryd.prog 41 #[.slice A l.length c, .string x.path] W (Ret (.int .i64 (-1)) W) := fun W e => by rw [← h2]; exact l5At_c _ W (H.out.ext (e0.trans e))
    have hm : mayPut l x = true := by unfold mayPut findIt; rw [h1]
    clear h1 h2
    cases hv : treeOk (putIt x l) with
    | false =>
      have Cv : ∀ W v2, Its w.heap.size W v2 (putIt x l) → Calls Tryd.prog 13 #[v2] W (Ret (.bool false) W) := fun W v2 hh => by rw [← hv]; exact specTreeValid_c W hh
      have hd : treePut l x = none := by rw [Hp.out, hv]; simp
      have Hd := Lib.hid hd; clear hd hv Hp
      go_enter Tryd.func43, Tryd.ntmps43
      go_wp2_with (first | (go_at_call 13; (with_reducible show Calls _ _ #[.slice _ l.length c] _ _); refine (C1 _ (Ext.refl _)).mono ?_; rintro e w2 ⟨rfl, he2⟩; have q0 := d0 w2 he2; have q1 := d1 w2 he2; have q2 := d2 w2 he2) | (go_at_call 25; refine (C2 _ he2).mono ?_; rintro e w3 ⟨rfl, he3⟩; have he4 := he2.trans he3; have r0 := d0 w3 he4; have r1 := d1 w3 he4; clear q0 q1 q2) | (go_at_call 41; refine (C3 _ he4).mono ?_; rintro e w5 ⟨rfl, he5⟩; have he6 := he4.trans he5; have s0 := d0 w5 he6; have s1 := d1 w5 he6; have s2 := d2 w5 he6; clear r0 r1 he5) | (go_at_call 56; refine (C4 _ he6).mono ?_; rintro e w7 ⟨v2, rfl, hO, he7⟩; have he8 := he6.trans he7; have hI := (hO.sl (EIt_ok _) (Nat.le_refl _) (by unfold lim; omega)); have HI := Lib.hid (Its.keep hI ((e0.trans he6).size) (fun _ _ _ => rfl)); clear hO hI he7) | (go_at_call 13; (with_reducible show Calls _ _ #[v2] _ _); refine (Cv _ _ HI.out).mono ?_; rintro e w9 ⟨rfl, he9⟩))
      go_ret2
      exact ⟨_, rfl, OptIts.none_ Hd.out, ((e0.trans he8).trans he9).alloc _⟩
    | true =>
      have Cv : ∀ W v2, Its w.heap.size W v2 (putIt x l) → Calls Tryd.prog 13 #[v2] W (Ret (.bool true) W) := fun W v2 hh => by rw [← hv]; exact specTreeValid_c W hh
      have hd : treePut l x = some (putIt x l) := by rw [Hp.out, hv]; simp [hm]
      have Hd := Lib.hid hd; clear hd hv Hp
      go_enter Tryd.func43, Tryd.ntmps43
      go_wp2_with (first | (go_at_call 13; (with_reducible show Calls _ _ #[.slice _ l.length c] _ _); refine (C1 _ (Ext.refl _)).mono ?_; rintro e w2 ⟨rfl, he2⟩; have q0 := d0 w2 he2; have q1 := d1 w2 he2; have q2 := d2 w2 he2) | (go_at_call 25; refine (C2 _ he2).mono ?_; rintro e w3 ⟨rfl, he3⟩; have he4 := he2.trans he3; have r0 := d0 w3 he4; have r1 := d1 w3 he4; clear q0 q1 q2) | (go_at_call 41; refine (C3 _ he4).mono ?_; rintro e w5 ⟨rfl, he5⟩; have he6 := he4.trans he5; have s0 := d0 w5 he6; have s1 := d1 w5 he6; have s2 := d2 w5 he6; clear r0 r1 he5) | (go_at_call 56; refine (C4 _ he6).mono ?_; rintro e w7 ⟨v2, rfl, hO, he7⟩; have he8 := he6.trans he7; have hI := (hO.sl (EIt_ok _) (Nat.le_refl _) (by unfold lim; omega)); have HI := Lib.hid (Its.keep hI ((e0.trans he6).size) (fun _ _ _ => rfl)); clear hO hI he7) | (go_at_call 13; (with_reducible show Calls _ _ #[v2] _ _); refine (Cv _ _ HI.out).mono ?_; rintro e w9 ⟨rfl, he9⟩))
      go_ret2
      refine ⟨_, rfl, ?_, (e0.trans he8).trans he9⟩
      rw [Hd.out]
      exact ⟨v2, rfl, HI.out.ext he9⟩
  · have C3 : ∀ W, Ext (w.alloc (.cells #[.string x.path, .bool x.dir, .slice Ax x.ids.length cx] 34)) W → Calls Tryd.prog 41 #[.slice A l.length c, .string x.path] W (Ret (.int .i64 (i : Int)) W) := fun W e => by
      have := l5At_c x.path W (H.out.ext (e0.trans e)); rw [atPath, h4] at this; simpa using this
    have hil := lt_of_get h1
    have hf : findIt l x.path = some y := h3
    obtain ⟨b, o, u2, rfl, -, -, -, -, -, hc1, -⟩ := Its.at_ HA.out h1
    have D1 := fun W (e : Ext (w.alloc (.cells #[.string x.path, .bool x.dir, .slice Ax x.ids.length cx] 34)) W) => hc1 W (e0.trans e)
    clear hc1 h1 h2 h3 h4
    by_cases hyd : (y.dir || x.dir) = true
    · have Hr : Hid (treePut l x = none) := Lib.hid (by rw [Hp.out, if_neg]; unfold mayPut; rw [hf]; simp [hyd])
      cases hyd1 : y.dir with
      | true =>
        rw [hyd1] at D1
        clear hf hyd hyd1 Hp
        go_enter Tryd.func43, Tryd.ntmps43
        go_wp2_with (first | (go_at_call 13; (with_reducible show Calls _ _ #[.slice _ l.length c] _ _); refine (C1 _ (Ext.refl _)).mono ?_; rintro e w2 ⟨rfl, he2⟩; have q0 := d0 w2 he2; have q1 := d1 w2 he2; have q2 := d2 w2 he2) | (go_at_call 25; refine (C2 _ he2).mono ?_; rintro e w3 ⟨rfl, he3⟩; have he4 := he2.trans he3; have r0 := d0 w3 he4; have r1 := d1 w3 he4; clear q0 q1 q2) | (go_at_call 41; refine (C3 _ he4).mono ?_; rintro e w5 ⟨rfl, he5⟩; have he6 := he4.trans he5; have s0 := d0 w5 he6; have s1 := d1 w5 he6; have s2 := d2 w5 he6; have s3 := D1 w5 he6; clear r0 r1 he5) |  fail)
        go_ret2
        exact ⟨_, rfl, OptIts.none_ Hr.out, (e0.trans he6).alloc _⟩
      | false =>
        have hxd : x.dir = true := by rw [hyd1] at hyd; simpa using hyd
        rw [hyd1] at D1
        clear hf hyd hyd1 Hp
        obtain ⟨xp, xd, xi⟩ := x
        simp only at *
        subst hxd
        go_enter Tryd.func43, Tryd.ntmps43
        go_wp2_with (first | (go_at_call 13; (with_reducible show Calls _ _ #[.slice _ l.length c] _ _); refine (C1 _ (Ext.refl _)).mono ?_; rintro e w2 ⟨rfl, he2⟩; have q0 := d0 w2 he2; have q1 := d1 w2 he2; have q2 := d2 w2 he2) | (go_at_call 25; refine (C2 _ he2).mono ?_; rintro e w3 ⟨rfl, he3⟩; have he4 := he2.trans he3; have r0 := d0 w3 he4; have r1 := d1 w3 he4; clear q0 q1 q2) | (go_at_call 41; refine (C3 _ he4).mono ?_; rintro e w5 ⟨rfl, he5⟩; have he6 := he4.trans he5; have s0 := d0 w5 he6; have s1 := d1 w5 he6; have s2 := d2 w5 he6; have s3 := D1 w5 he6; clear r0 r1 he5) |  fail)
        go_ret2
        exact ⟨_, rfl, OptIts.none_ Hr.out, (e0.trans he6).alloc _⟩
    · have hyd1 : y.dir = false := by cases h : y.dir <;> simp [h] at hyd ⊢
      have hxd : x.dir = false := by cases h : x.dir <;> simp [h] at hyd ⊢
      have hm : mayPut l x = true := by unfold mayPut; rw [hf]; simp [hyd1, hxd]
      rw [hyd1] at D1
      clear hf hyd hyd1
      obtain ⟨xp, xd, xi⟩ := x
      simp only at *
      subst hxd
      cases hv : treeOk (putIt ⟨xp, false, xi⟩ l) with
      | false =>
        have Cv : ∀ W v2, Its w.heap.size W v2 (putIt ⟨xp, false, xi⟩ l) → Calls Tryd.prog 13 #[v2] W (Ret (.bool false) W) := fun W v2 hh => by rw [← hv]; exact specTreeValid_c W hh
        have hd : treePut l ⟨xp, false, xi⟩ = none := by rw [Hp.out, hv]; simp
        have Hd := Lib.hid hd; clear hd hv Hp
        go_enter Tryd.func43, Tryd.ntmps43
        go_wp2_with (first | (go_at_call 13; (with_reducible show Calls _ _ #[.slice _ l.length c] _ _); refine (C1 _ (Ext.refl _)).mono ?_; rintro e w2 ⟨rfl, he2⟩; have q0 := d0 w2 he2; have q1 := d1 w2 he2; have q2 := d2 w2 he2) | (go_at_call 25; refine (C2 _ he2).mono ?_; rintro e w3 ⟨rfl, he3⟩; have he4 := he2.trans he3; have r0 := d0 w3 he4; have r1 := d1 w3 he4; clear q0 q1 q2) | (go_at_call 41; refine (C3 _ he4).mono ?_; rintro e w5 ⟨rfl, he5⟩; have he6 := he4.trans he5; have s0 := d0 w5 he6; have s1 := d1 w5 he6; have s2 := d2 w5 he6; have s3 := D1 w5 he6; clear r0 r1 he5) | (go_at_call 56; refine (C4 _ he6).mono ?_; rintro e w7 ⟨v2, rfl, hO, he7⟩; have he8 := he6.trans he7; have hI := (hO.sl (EIt_ok _) (Nat.le_refl _) (by unfold lim; omega)); have HI := Lib.hid (Its.keep hI ((e0.trans he6).size) (fun _ _ _ => rfl)); clear hO hI he7) | (go_at_call 13; (with_reducible show Calls _ _ #[v2] _ _); refine (Cv _ _ HI.out).mono ?_; rintro e w9 ⟨rfl, he9⟩))
        go_ret2
        exact ⟨_, rfl, OptIts.none_ Hd.out, ((e0.trans he8).trans he9).alloc _⟩
      | true =>
        have Cv : ∀ W v2, Its w.heap.size W v2 (putIt ⟨xp, false, xi⟩ l) → Calls Tryd.prog 13 #[v2] W (Ret (.bool true) W) := fun W v2 hh => by rw [← hv]; exact specTreeValid_c W hh
        have hd : treePut l ⟨xp, false, xi⟩ = some (putIt ⟨xp, false, xi⟩ l) := by rw [Hp.out, hv]; simp [hm]
        have Hd := Lib.hid hd; clear hd hv Hp
        go_enter Tryd.func43, Tryd.ntmps43
        go_wp2_with (first | (go_at_call 13; (with_reducible show Calls _ _ #[.slice _ l.length c] _ _); refine (C1 _ (Ext.refl _)).mono ?_; rintro e w2 ⟨rfl, he2⟩; have q0 := d0 w2 he2; have q1 := d1 w2 he2; have q2 := d2 w2 he2) | (go_at_call 25; refine (C2 _ he2).mono ?_; rintro e w3 ⟨rfl, he3⟩; have he4 := he2.trans he3; have r0 := d0 w3 he4; have r1 := d1 w3 he4; clear q0 q1 q2) | (go_at_call 41; refine (C3 _ he4).mono ?_; rintro e w5 ⟨rfl, he5⟩; have he6 := he4.trans he5; have s0 := d0 w5 he6; have s1 := d1 w5 he6; have s2 := d2 w5 he6; have s3 := D1 w5 he6; clear r0 r1 he5) | (go_at_call 56; refine (C4 _ he6).mono ?_; rintro e w7 ⟨v2, rfl, hO, he7⟩; have he8 := he6.trans he7; have hI := (hO.sl (EIt_ok _) (Nat.le_refl _) (by unfold lim; omega)); have HI := Lib.hid (Its.keep hI ((e0.trans he6).size) (fun _ _ _ => rfl)); clear hO hI he7) | (go_at_call 13; (with_reducible show Calls _ _ #[v2] _ _); refine (Cv _ _ HI.out).mono ?_; rintro e w9 ⟨rfl, he9⟩))
        go_ret2
        refine ⟨_, rfl, ?_, (e0.trans he8).trans he9⟩
        rw [Hd.out]
        exact ⟨v2, rfl, HI.out.ext he9⟩
end Go.Sf

/-! The reference makes a directory of a volume. -/
namespace Go.Sf
open Go Go.RowKit Go.Proofs
/-- two cells of a block are written -/
theorem put_two {w : World} {t : TypeId} {g : Nat} {a b c d : Value} (h : Blk w g t #[c, d]) :
    Blk ((w.setCell ⟨g, 0, none⟩ a).setCell ⟨g, 1, none⟩ b) g t #[a, b] ∧ KeepsT t w ((w.setCell ⟨g, 0, none⟩ a).setCell ⟨g, 1, none⟩ b) ∧
    (∀ w0, Ext w0 w → w0.heap.size ≤ g → Ext w0 ((w.setCell ⟨g, 0, none⟩ a).setCell ⟨g, 1, none⟩ b)) ∧ ∀ k, k ≠ g → ((w.setCell ⟨g, 0, none⟩ a).setCell ⟨g, 1, none⟩ b).heap[k]? = w.heap[k]? := by
  have h1 := h.set_ 0 a
  have h2 := h1.set_ 1 b
  refine ⟨by simpa using h2, (KeepsT.set (i := 0) h a rfl).trans (KeepsT.set (i := 1) h1 b rfl), fun w0 e hg => (e.setCell (p := ⟨g, 0, none⟩) hg a).setCell (p := ⟨g, 1, none⟩) hg b, fun k hk => ?_⟩
  rw [RowKit.Below.heap_setCell _ _ _ _ hk, RowKit.Below.heap_setCell _ _ _ _ hk]
theorem OwnS.weak {α : Type} {base base' : Nat} {t : TypeId} {sz : Nat} {E E' : World → Array Value → Nat → α → Prop} {w : World} {v : Value} {l : List α} (h : OwnS base t sz E w v l) (hb : base' ≤ base) (hE : ∀ cs p x, E w cs p x → E' w cs p x) : OwnS base' t sz E' w v l := by
  obtain ⟨xs, h1, h2⟩ := h.mono hb
  exact ⟨xs, h1, fun k x hx => hE _ _ _ (h2 k x hx)⟩
theorem OwnS.hd {B B' : Nat} {w w' : World} {v : Value} {l : List Hd} {t : TypeId} (h : OwnS B 31 3 (EHd B) w v l) (hb : B' ≤ B) (hk : KeepsT t w w') (h1 : 31 ≠ t) (h2 : 3 ≠ t) : OwnS B' 31 3 (EHd B') w' v l :=
  (h.weak hb fun _ _ _ g => g.keep hb (fun _ _ _ => rfl)).keepT hk h1 fun _ _ _ g => g.keepT hk h2
theorem OwnS.isHds {B : Nat} {w : World} {v : Value} {l : List Hd} (h : OwnS B 31 3 (EHd B) w v l) (hl : l.length ≤ lim) : Hds B w v l := h.sl (EHd_ok _) (Nat.le_refl _) hl
/-- a volume and whether there is one -/
def OptVol (B : Nat) (o : Option (List Hd × List It)) (r : Value) (w : World) : Prop :=
  ∃ us ut, r = .tuple #[.agg #[us, ut], .bool o.isSome] ∧ OwnS B 31 3 (EHd B) w us (o.elim [] (·.1)) ∧ Its B w ut (o.elim [] (·.2))
theorem OptVol.none_ {B : Nat} {w : World} {o : Option (List Hd × List It)} (h : o = none) : OptVol B o (.tuple #[.agg #[.slice none 0 0, .slice none 0 0], .bool false]) w := by
  subst h; exact ⟨_, _, rfl, ⟨[], ⟨by simp, .inl ⟨rfl, rfl⟩⟩, fun k x h => by simp at h⟩, SlOf.nil _ _ _ _ _⟩
/-- a volume with a directory more -/
noncomputable def volPut (s : List Hd) (t : List It) (x : It) : Option (List Hd × List It) := if volOk s t = true then (treePut t x).map fun t' => (s, t') else none
theorem itV_dir (B : Nat) (w : World) {p : ByteArray} (hp : p.size < lim) : ItV B w (.agg #[.string p, .bool true, .slice none 0 0]) (dirIt p) := ⟨_, rfl, hp, SlOf.nil _ _ _ _ _⟩
set_option maxRecDepth 4000 in
set_option maxHeartbeats 2000000 in
theorem specVolumeDir_c {B B' : Nat} {vs vt : Value} {s : List Hd} {t : List It} {p : ByteArray} (w : World) (hs : Hds B w vs s) (ht : Its B' w vt t) (hp : p.size < lim) :
    Calls Tryd.prog 29 #[.agg #[vs, vt], .string p] w (RetP (OptVol w.heap.size (volPut s t (dirIt p))) w) := by
  have HS := Lib.hid hs; have HT := Lib.hid ht
  obtain ⟨A, c, rfl, -⟩ := hs
  obtain ⟨A2, c2, rfl, -⟩ := ht
  have hbk := Lib.hid ((Blk.new w 26 #[.slice A s.length c, .slice A2 t.length c2]).alloc (.cells #[.slice none 0 0, .slice none 0 0] 26))
  have hbr : Hid (Blk ((w.alloc (.cells #[.slice A s.length c, .slice A2 t.length c2] 26)).alloc (.cells #[.slice none 0 0, .slice none 0 0] 26)) (w.heap.size + 1) 26 #[.slice none 0 0, .slice none 0 0]) := Lib.hid (by
    have := Blk.new (w.alloc (.cells #[.slice A s.length c, .slice A2 t.length c2] 26)) 26 #[.slice none 0 0, .slice none 0 0]
    simpa using this)
  have e0 : Ext w ((w.alloc (.cells #[.slice A s.length c, .slice A2 t.length c2] 26)).alloc (.cells #[.slice none 0 0, .slice none 0 0] 26)) := ((Ext.refl w).alloc _).alloc _
  have d0 := hbk.out.cell 0; have d1 := hbk.out.cell 1
  simp at d0 d1
  have C1 := specTreePut_c (x := dirIt p) _ (HT.out.ext e0) (itV_dir 0 _ hp)
  go_enter Tryd.func29, Tryd.ntmps29
  go_wp2_with fail
  refine C1.mono ?_
  rintro e w1 ⟨u1, rfl, ⟨vt', rfl, hI⟩, he1⟩
  have E1 := e0.trans he1
  have C2 := specVolumeValid_c w1 (HS.out.ext E1) (HT.out.ext E1)
  have b1 := hbk.out.ext he1; have b2 := hbr.out.ext he1
  have HI := Lib.hid hI
  clear d0 d1 C1 hI
  have d0 := b1.cell 0; have d1 := b1.cell 1
  simp at d0 d1
  have Hb1 := Lib.hid b1; have Hb2 := Lib.hid b2
  clear b1 b2
  cases hv : volOk s t with
  | false =>
    rw [hv] at C2
    have Hr : Hid (volPut s t (dirIt p) = none) := Lib.hid (by unfold volPut; rw [hv]; rfl)
    clear hv
    go_wp2_with (go_at_call 7; refine C2.mono ?_; rintro e w2 ⟨rfl, he2⟩; have b3 := Hb2.out.ext he2; have c0 := b3.cell 0; have c1 := b3.cell 1; have f0 := b3.frozen 0; have f1 := b3.frozen 1; simp at c0 c1)
    obtain ⟨p1, -, p3, -⟩ := put_two (a := .slice none 0 0) (b := .slice none 0 0) b3
    have z0 := p1.cell 0; have z1 := p1.cell 1
    simp at z0 z1
    exact bodyPost_ret (v := .tuple #[.agg #[.slice none 0 0, .slice none 0 0], .bool false]) (by simp [results, Tryd.results29, go_sem, z0, z1]) rfl ⟨_, rfl, OptVol.none_ Hr.out, p3 w (E1.trans he2) (by omega)⟩
  | true =>
    rw [hv] at C2
    cases ho : treePut t (dirIt p) with
    | none =>
      have Hr : Hid (volPut s t (dirIt p) = none) := Lib.hid (by unfold volPut; rw [hv, ho]; rfl)
      clear hv ho
      simp only [Option.isSome_none] at *
      go_wp2_with (go_at_call 7; refine C2.mono ?_; rintro e w2 ⟨rfl, he2⟩; have b3 := Hb2.out.ext he2; have c0 := b3.cell 0; have c1 := b3.cell 1; have f0 := b3.frozen 0; have f1 := b3.frozen 1; simp at c0 c1)
      obtain ⟨p1, -, p3, -⟩ := put_two (a := .slice none 0 0) (b := .slice none 0 0) b3
      have z0 := p1.cell 0; have z1 := p1.cell 1
      simp at z0 z1
      exact bodyPost_ret (v := .tuple #[.agg #[.slice none 0 0, .slice none 0 0], .bool false]) (by simp [results, Tryd.results29, go_sem, z0, z1]) rfl ⟨_, rfl, OptVol.none_ Hr.out, p3 w (E1.trans he2) (by omega)⟩
    | some t' =>
      rw [ho] at HI
      have Hr : Hid (volPut s t (dirIt p) = some (s, t')) := Lib.hid (by unfold volPut; rw [hv, ho]; rfl)
      clear hv ho
      simp only [Option.isSome_some, Option.getD_some] at *
      obtain ⟨A5, c5, e5, -⟩ := id HI.out
      subst e5
      have C3 := fun W (e : Ext w1 W) => l3Copy_c W (HS.out.ext (E1.trans e))
      go_wp2_with (first | (go_at_call 7; refine C2.mono ?_; rintro e w2 ⟨rfl, he2⟩; have b3 := Hb1.out.ext he2; have q0 := b3.cell 0; have q1 := b3.cell 1; simp at q0 q1) | (go_at_call 44; refine (C3 _ he2).mono ?_; rintro e w3 ⟨us, rfl, hO, he3⟩; obtain ⟨A6, c6, rfl⟩ := hO.form; have he4 := he2.trans he3; have b4 := Hb2.out.ext he4; have c0 := b4.cell 0; have c1 := b4.cell 1; have f0 := b4.frozen 0; have f1 := b4.frozen 1; simp at c0 c1))
      obtain ⟨p1, p2, p3, -⟩ := put_two (a := .slice A6 s.length c6) (b := .slice A5 t'.length c5) b4
      have z0 := p1.cell 0; have z1 := p1.cell 1
      simp at z0 z1
      have hw1 : w.heap.size ≤ w1.heap.size := E1.size
      have hw2 := (E1.trans he2).size
      refine bodyPost_ret (v := .tuple #[.agg #[.slice A6 s.length c6, .slice A5 t'.length c5], .bool true]) (by simp [results, Tryd.results29, go_sem, z0, z1]) rfl ⟨_, rfl, ?_, p3 w (E1.trans he4) (by omega)⟩
      rw [Hr.out]
      refine ⟨_, _, rfl, ?_, ?_⟩
      · exact hO.hd hw2 p2 (by decide) (by decide)
      · exact Its.keepT ((HI.out.ext he4).keep e0.size (fun _ _ _ => rfl)) p2 (by decide) (by decide)
end Go.Sf

/-! The reference drops a block, and frees a file. -/
namespace Go.Sf
open Go Go.RowKit Go.Proofs
/-- how often a block is used is written -/
theorem OwnS.setUses {base B : Nat} {w : World} {v : Value} {l : List Hd} (h : OwnS base 31 3 (EHd B) w v l) {k : Nat} {x : Hd} (hx : l[k]? = some x) :
    ∃ g c, v = .slice (some ⟨g, 0, none⟩) l.length c ∧ l.length ≤ c ∧ base ≤ g ∧ w.cell? ⟨g, k * 3 + 2, none⟩ = some (.int .i64 x.uses) ∧ w.frozen? ⟨g, k * 3 + 2, none⟩ = false ∧
      ∀ y, inI y → OwnS base 31 3 (EHd B) (w.setCell ⟨g, k * 3 + 2, none⟩ (.int .i64 y)) v (l.set k { x with uses := y }) := by
  obtain ⟨xs, ⟨h1, h2⟩, h3⟩ := h
  have hk := lt_of_get hx
  rcases h2 with ⟨rfl, hn⟩ | ⟨g, cap, cur, rfl, hg, hh, hnc, hcm, hcs, htk⟩
  · rw [hn] at hk; omega
  · have hb : Blk w g 31 cur := hh
    have hc0 : cur[k * 3 + 2]? = xs[k * 3 + 2]? := by rw [← htk, List.getElem?_take_of_lt (by omega), Array.getElem?_toList]
    have he := h3 k x hx
    refine ⟨g, cap, rfl, hnc, hg, ?_, hb.frozen _, fun y hy => ⟨xs.set (k * 3 + 2) (.int .i64 y), ⟨by simpa using h1, .inr ⟨g, cap, cur.setIfInBounds (k * 3 + 2) (.int .i64 y), ?_, hg, hb.set_ _ _, ?_, hcm, ?_, ?_⟩⟩, fun j z hz => ?_⟩⟩
    · rw [hb.cell, hc0]
      have := he.2.2.2.1
      rw [List.getElem?_toArray] at this
      exact this
    · rw [List.length_set]
    · rw [List.length_set]; exact hnc
    · simpa using hcs
    · rw [List.length_set, Array.toList_setIfInBounds, List.take_set, htk]
    · have hK : KeepsT 31 w (w.setCell ⟨g, k * 3 + 2, none⟩ (.int .i64 y)) := KeepsT.set (i := k * 3 + 2) hb (.int .i64 y) rfl
      rw [List.getElem?_set] at hz
      split at hz
      · next e =>
        subst e
        cases hz
        obtain ⟨q0, q1, ⟨u, q2, q3⟩, q4, q5⟩ := he
        rw [List.getElem?_toArray] at q0 q2 q4
        refine ⟨?_, q1, ⟨u, ?_, q3.keepT hK (by decide)⟩, ?_, hy⟩
        · rw [List.getElem?_toArray, List.getElem?_set_ne (by omega)]; exact q0
        · rw [List.getElem?_toArray, List.getElem?_set_ne (by omega)]; exact q2
        · rw [List.getElem?_toArray, List.getElem?_set_self (by omega)]
      · next e =>
        obtain ⟨q0, q1, ⟨u, q2, q3⟩, q4, q5⟩ := h3 j z hz
        rw [List.getElem?_toArray] at q0 q2 q4
        refine ⟨?_, q1, ⟨u, ?_, q3.keepT hK (by decide)⟩, ?_, q5⟩
        · rw [List.getElem?_toArray, List.getElem?_set_ne (by omega)]; exact q0
        · rw [List.getElem?_toArray, List.getElem?_set_ne (by omega)]; exact q2
        · rw [List.getElem?_toArray, List.getElem?_set_ne (by omega)]; exact q4
noncomputable def dropId (l : List Hd) (i : Int) : Option (List Hd) := if storeOk l = true ∧ 0 ≤ hAt l i then some (dropAt l (hAt l i).toNat) else none
/-- a store of the call's own and whether there is one -/
def OptHds (B : Nat) (o : Option (List Hd)) (r : Value) (w : World) : Prop := ∃ v, r = .tuple #[v, .bool o.isSome] ∧ OwnS B 31 3 (EHd B) w v (o.getD [])
theorem OptHds.none_ {B : Nat} {w : World} {o : Option (List Hd)} (hB : B ≤ w.heap.size) (h : o = none) : OptHds B o (.tuple #[.slice (some ⟨w.heap.size, 0, none⟩) 0 0, .bool false]) (w.alloc (.cells #[] 31)) := by
  subst h; exact ⟨_, rfl, OwnS.lit0 _ _ _ _ hB⟩
set_option maxRecDepth 4000 in
set_option maxHeartbeats 2000000 in
theorem StoreDrop_c {B : Nat} {v : Value} {l : List Hd} (p : Int) (w : World) (h : Hds B w v l) :
    Calls Tryd.prog 58 #[v, .int .i64 p] w (RetP (OptHds w.heap.size (dropId l p)) w) := by
  have H := Lib.hid h
  have hl := h.len
  cases ht : storeOk l with
  | false =>
    have hd : dropId l p = none := by simp [dropId, ht]
    have Ct : ∀ W, Ext w W → Calls Tryd.prog 12 #[v] W (Ret (.bool false) W) := fun W e => by rw [← ht]; exact specStoreValid_c W (H.out.ext e)
    have Hd := Lib.hid hd; clear hd ht h
    go_enter Tryd.func58, Tryd.ntmps58
    go_wp2_with (first | (go_at_call 42; refine (l3At_c p _ H.out).mono ?_; rintro e w1 ⟨rfl, he1⟩) | (go_at_call 12; refine (Ct _ he1).mono ?_; rintro e w2 ⟨rfl, he2⟩))
    go_ret2
    exact ⟨_, rfl, OptHds.none_ (he1.trans he2).size Hd.out, (he1.trans he2).alloc _⟩
  | true =>
    have Ct : ∀ W, Ext w W → Calls Tryd.prog 12 #[v] W (Ret (.bool true) W) := fun W e => by rw [← ht]; exact specStoreValid_c W (H.out.ext e)
    rcases atG_find (idIs p) l 0 with ⟨h1, h2⟩ | ⟨i, x, h1, h2, h3, h4, -⟩
    · have hd : dropId l p = none := by simp [dropId, hAt, h2]
      have Ca : ∀ W, Ext w W → Calls Tryd.prog 42 #[v, .int .i64 p] W (Ret (.int .i64 (-1)) W) := fun W e => by rw [← h2]; exact l3At_c p W (H.out.ext e)
      have Hd := Lib.hid hd; clear hd ht h h1 h2
      go_enter Tryd.func58, Tryd.ntmps58
      go_wp2_with (first | (go_at_call 42; refine (Ca _ (Ext.refl _)).mono ?_; rintro e w1 ⟨rfl, he1⟩) | (go_at_call 12; refine (Ct _ he1).mono ?_; rintro e w2 ⟨rfl, he2⟩))
      go_ret2
      exact ⟨_, rfl, OptHds.none_ (he1.trans he2).size Hd.out, (he1.trans he2).alloc _⟩
    · have Ca : ∀ W, Ext w W → Calls Tryd.prog 42 #[v, .int .i64 p] W (Ret (.int .i64 (i : Int)) W) := fun W e => by
        have := l3At_c p W (H.out.ext e); rw [hAt, h4] at this; simpa using this
      have hil := lt_of_get h1
      have hat : hAt l p = (i : Int) := by rw [hAt, h4]; simp
      have hok := (hd_ok ((storeOk_iff.1 ht).2 i x h1).1).2.2
      have h16 := (storeOk_iff.1 ht).1
      have Hd : Hid (dropId l p = some (if x.uses = 1 then l.eraseIdx i else l.set i { x with uses := x.uses - 1 })) := Lib.hid (by
        unfold dropId dropAt
        rw [if_pos ⟨ht, by rw [hat]; omega⟩, hat, Int.toNat_natCast, h1])
      have Hx := Lib.hid h1
      clear ht h h1 h2 h3 h4 hat
      unfold lim at hl
      by_cases hu1 : x.uses = 1
      · rw [hu1] at Hd
        rw [if_pos rfl] at Hd
        go_enter Tryd.func58, Tryd.ntmps58
        go_wp2_with (first | (go_at_call 42; refine (Ca _ (Ext.refl _)).mono ?_; rintro e w1 ⟨rfl, he1⟩) | (go_at_call 12; refine (Ct _ he1).mono ?_; rintro e w2 ⟨rfl, he2⟩; have he3 := he1.trans he2; clear he2) | (go_at_call 44; refine (l3Copy_c _ (H.out.ext he3)).mono ?_; rintro e w3 ⟨v2, rfl, hO, he4⟩; obtain ⟨g, c, rfl, hnc, hg, hq0, -, -⟩ := hO.setUses Hx.out; rw [hu1] at hq0))
        have HO := Lib.hid hO; clear hO
        have hw1 : IntKind.i64.wrap ((i : Int) + 1) = (i : Int) + 1 := IntWalk.i64_in _ (by omega)
        have hp1 : (0 : Int) ≤ (i : Int) + 1 := by omega
        have hn1 : ((i : Int) + 1).toNat = i + 1 := by omega
        have hle : i + 1 ≤ l.length := hil
        have hle' : (i : Int) + 1 ≤ (l.length : Int) := by omega
        have hic : i ≤ c := by omega
        have HF : Hid (l.length ≤ c ∧ l.length ≤ 4194304) := Lib.hid ⟨hnc, hl⟩
        clear hnc hl h16 hok hq0
        refine wp_region_still_tail 7 (by kernel_rfl) (by kernel_rfl) ?_
        simp only [List.take_succ_cons, List.take_zero, List.drop_succ_cons, List.drop_zero]
        repeat still_step
        refine wpStill_nil ?_
        refine wp_del (w0 := w2) rfl _ _ rfl el_Hd (EHd_ok _) (he4.drew) g c i l hil (HO.out.ext (EHd_ok _) (Ext.refl _).drew) (by rfl) (if c = i + 1 then ⟨g, 0, none⟩ else ⟨g, (i + 1) * 3, none⟩) (c - (i + 1)) ?_ ?_ ?_
        · show Value.slice _ _ _ = _
          congr 1
          split <;> simp [*]
        · intro hlt
          have := HF.out
          rw [if_neg (by omega)]
        · intro w5 hO5 he5 hk5
          have he6 : Ext w w5 := he3.trans he5
          have hee : Ext w5 w5 := Ext.refl _
          have hle2 : (l.eraseIdx i).length = l.length - 1 := by rw [List.length_eraseIdx, if_pos hil]
          have HO5 := Lib.hid (hO5.weak he3.size fun _ _ _ gg => gg.keep he3.size (fun _ _ _ => rfl))
          clear hO5 hk5 HO hw1 hp1 hn1 hle hle' hic
          go_wp2
          all_goals
            go_ret2
            refine ⟨_, rfl, ?_, he6⟩
            rw [Hd.out]
            first
              | exact ⟨.slice (some ⟨g, 0, none⟩) (l.length - 1) c, rfl, by simpa using HO5.out⟩
              | exact ⟨.slice (some ⟨g, 0, none⟩) (l.length - 1) (i + 1), rfl, by rw [← ‹c = i + 1›]; simpa using HO5.out⟩
      · have hb1 : (x.uses == 1) = false := by simp [hu1]
        rw [if_neg hu1] at Hd
        have hwr : IntKind.i64.wrap (x.uses - 1) = x.uses - 1 := IntWalk.i64_in _ (by omega)
        have hin : inI (x.uses - 1) := by unfold inI; omega
        go_enter Tryd.func58, Tryd.ntmps58
        go_wp2_with (first | (go_at_call 42; refine (Ca _ (Ext.refl _)).mono ?_; rintro e w1 ⟨rfl, he1⟩) | (go_at_call 12; refine (Ct _ he1).mono ?_; rintro e w2 ⟨rfl, he2⟩; have he3 := he1.trans he2; clear he2) | (go_at_call 44; refine (l3Copy_c _ (H.out.ext he3)).mono ?_; rintro e w3 ⟨v2, rfl, hO, he4⟩; obtain ⟨g, c, rfl, hnc, hg, hq0, hq1, hq⟩ := hO.setUses Hx.out; have HO := Lib.hid (hq _ hin); clear hq hO))
        go_ret2
        refine ⟨_, rfl, ?_, (he3.trans he4).setCell (p := ⟨g, i * 3 + 2, none⟩) (by have := he3.size; show _ ≤ g; omega) _⟩
        rw [Hd.out]
        exact ⟨_, rfl, HO.out.weak he3.size fun _ _ _ gg => gg.keep he3.size (fun _ _ _ => rfl)⟩
end Go.Sf

/-! The reference frees a file. -/
namespace Go.Sf
open Go Go.RowKit Go.Proofs
noncomputable def dropAll : List Hd → List Int → Option (List Hd)
  | l, [] => some l
  | l, i :: r => (dropId l i).bind fun l' => dropAll l' r
noncomputable def freeAll (l : List Hd) (ids : List Int) : Option (List Hd) := if storeOk l = true ∧ idsFit l ids = true then dropAll l ids else none
theorem dropId_len {l l' : List Hd} {i : Int} (h : dropId l i = some l') : l'.length ≤ l.length := by
  unfold dropId at h
  split at h
  · injection h with h
    subst h
    unfold dropAt
    split
    · split
      · rw [List.length_eraseIdx]; split <;> omega
      · simp
    · exact Nat.le_refl _
  · cases h
set_option maxRecDepth 4000 in
set_option maxHeartbeats 2000000 in
theorem FileFree_c {B B' : Nat} {v vi : Value} {l : List Hd} {ids : List Int} (w : World) (h : Hds B w v l) (hi : Ints B' w vi ids) :
    Calls Tryd.prog 46 #[v, vi] w (RetP (OptHds w.heap.size (freeAll l ids)) w) := by
  have H := Lib.hid h
  have HI := Lib.hid hi
  have hl := h.len
  have hil := hi.len
  unfold lim at hl hil
  obtain ⟨Ai, ci, rfl, hAi⟩ := hi
  have HAi := Lib.hid hAi
  have C1 := fun W (e : Ext w W) => specStoreValid_c W (H.out.ext e)
  have C2 := fun W (e : Ext w W) => l4Ids_c W (H.out.ext e) (HI.out.ext e)
  clear h hAi
  cases h1 : storeOk l with
  | false =>
    rw [h1] at C1
    have Hr : Hid (freeAll l ids = none) := Lib.hid (by simp [freeAll, h1])
    clear h1
    go_enter Tryd.func46, Tryd.ntmps46
    go_wp2_with (go_at_call 12; refine (C1 _ (Ext.refl _)).mono ?_; rintro e w1 ⟨rfl, he1⟩)
    go_ret2
    exact ⟨_, rfl, OptHds.none_ he1.size Hr.out, he1.alloc _⟩
  | true =>
  rw [h1] at C1
  cases h2 : idsFit l ids with
  | false =>
    rw [h2] at C2
    have Hr : Hid (freeAll l ids = none) := Lib.hid (by simp [freeAll, h2])
    clear h1 h2
    go_enter Tryd.func46, Tryd.ntmps46
    go_wp2_with (first | (go_at_call 12; refine (C1 _ (Ext.refl _)).mono ?_; rintro e w1 ⟨rfl, he1⟩) | (go_at_call 27; refine (C2 _ he1).mono ?_; rintro e w2 ⟨rfl, he2⟩))
    go_ret2
    exact ⟨_, rfl, OptHds.none_ (he1.trans he2).size Hr.out, (he1.trans he2).alloc _⟩
  | true =>
  rw [h2] at C2
  have Hf : Hid (freeAll l ids = dropAll l ids) := Lib.hid (by simp [freeAll, h1, h2])
  clear h1 h2
  generalize hn : ids.length = n at *
  have Hn := Lib.hid hn
  clear hn
  go_enter Tryd.func46, Tryd.ntmps46
  go_wp2_with (first | (go_at_call 12; refine (C1 _ (Ext.refl _)).mono ?_; rintro e w1 ⟨rfl, he1⟩) | (go_at_call 27; refine (C2 _ he1).mono ?_; rintro e w2 ⟨rfl, he2⟩; have he3 := he1.trans he2) | (go_at_call 44; refine (l3Copy_c _ (H.out.ext he3)).mono ?_; rintro e w3 ⟨v2, rfl, hO, he4⟩; have HO := Lib.hid (hO.weak he3.size fun _ _ _ gg => gg.keep he3.size (fun _ _ _ => rfl)); have he5 := he3.trans he4; clear hO he4 he3 he2 he1))
  clear C1 C2
  go_loopw [6, 7] (fun v i wr => ∃ (k : Nat) (st : List Hd), k ≤ n ∧ i = .int .i64 k ∧ Ext w wr ∧ OwnS w.heap.size 31 3 (EHd w.heap.size) wr v st ∧ Hid (dropAll l ids = dropAll st (ids.drop k) ∧ st.length ≤ l.length)) (fun _ i _ => n - (RowKit.intOf i).toNat)
  case atStart => exact ⟨0, l, by omega, rfl, he5, HO.out, Lib.hid ⟨rfl, Nat.le_refl _⟩⟩
  case round =>
    obtain ⟨k, st, hk, rfl, he, hO, hst⟩ := hrel
    have hsl : st.length ≤ lim := by have := hst.out.2; unfold lim; omega
    have HSt := Lib.hid (hO.isHds hsl)
    have HO2 := Lib.hid hO
    clear hO
    by_cases hlt : k < n
    · obtain ⟨x, hx⟩ := get_of_lt (l := ids) (k := k) (by rw [Hn.out]; exact hlt)
      obtain ⟨b, o, rfl, -, -, hxi, hc0⟩ := Ints.at_ HAi.out hx
      have a0 := hc0 wr he
      have C3 := StoreDrop_c x wr HSt.out
      have hdc := drop_cons hx
      cases hd : dropId st x with
      | none =>
        rw [hd] at C3
        have Hr : Hid (freeAll l ids = none) := Lib.hid (by rw [Hf.out, hst.out.1, hdc]; show (dropId st x).bind _ = none; rw [hd]; rfl)
        clear hd hdc hx hc0
        go_wp2_with (go_at_call 58; refine C3.mono ?_; rintro e w5 ⟨v5, rfl, ⟨v6, rfl, -⟩, he6⟩; simp only [Option.isSome_none])
        go_ret2
        exact ⟨_, rfl, OptHds.none_ (he.trans he6).size Hr.out, (he.trans he6).alloc _⟩
      | some st' =>
        rw [hd] at C3
        have Hr : Hid (dropAll l ids = dropAll st' (ids.drop (k + 1)) ∧ st'.length ≤ l.length) := Lib.hid ⟨by rw [hst.out.1, hdc]; show (dropId st x).bind _ = _; rw [hd]; rfl, Nat.le_trans (dropId_len hd) hst.out.2⟩
        clear hd hdc hx hc0
        go_wp2_with (go_at_call 58; refine C3.mono ?_; rintro e w5 ⟨v5, rfl, ⟨v6, rfl, hO6⟩, he6⟩; simp only [Option.isSome_some]; have HO6 := Lib.hid (hO6.weak he.size fun _ _ _ gg => gg.keep he.size (fun _ _ _ => rfl)); clear hO6)
        go_roundw
        case rel => exact ⟨k + 1, st', by omega, by go_num, he.trans he6, HO6.out, Hr⟩
        case measure => simp [RowKit.intOf]; omega
    · have hks : k = n := by omega
      subst hks
      have Hr : Hid (freeAll l ids = some st) := Lib.hid (by rw [Hf.out, hst.out.1, List.drop_eq_nil_of_le (by rw [Hn.out]; exact Nat.le_refl _)]; rfl)
      go_wp2
      go_ret2
      refine ⟨_, rfl, ?_, he⟩
      rw [Hr.out]
      exact ⟨_, rfl, HO2.out⟩
end Go.Sf

/-! The reference drops an item of a volume. -/
namespace Go.Sf
open Go Go.RowKit Go.Proofs
def idsAt (t : List It) (p : ByteArray) : List Int := (findIt t p).elim [] (·.ids)
/-- a volume with an item less -/
noncomputable def volDrop (s : List Hd) (t : List It) (p : ByteArray) : Option (List Hd × List It) := if volOk s t = true then (treeDrop t p).map fun t' => ((freeAll s (idsAt t p)).getD [], t') else none
theorem treeDrop_find {t t' : List It} {p : ByteArray} (h : treeDrop t p = some t') : ∃ (i : Nat) (x : It), t[i]? = some x ∧ findIt t p = some x ∧ atPath t p = (i : Int) ∧ t' = t.eraseIdx i ∧ treeOk t = true ∧ treeOk t' = true := by
  unfold treeDrop at h
  split at h
  · next hc =>
    injection h with h
    rcases atG_find (pathIs p) t 0 with ⟨h1, h2⟩ | ⟨i, x, h1, h2, h3, h4, -⟩
    · have := hc.2.1
      rw [atPath, h2] at this
      omega
    · have hat : atPath t p = (i : Int) := by rw [atPath, h4]; simp
      have hn : (atPath t p).toNat = i := by rw [hat]; simp
      rw [hn] at h
      have h5 := hc.2.2
      rw [hn, h] at h5
      exact ⟨i, x, h1, h3, hat, h.symm, hc.1, h5⟩
  · cases h
set_option maxRecDepth 4000 in
set_option maxHeartbeats 2000000 in
theorem specVolumeDrop_c {B B' : Nat} {vs vt : Value} {s : List Hd} {t : List It} {p : ByteArray} (w : World) (hs : Hds B w vs s) (ht : Its B' w vt t) :
    Calls Tryd.prog 31 #[.agg #[vs, vt], .string p] w (RetP (OptVol w.heap.size (volDrop s t p)) w) := by
  have HS := Lib.hid hs; have HT := Lib.hid ht
  obtain ⟨A, c, rfl, -⟩ := hs
  obtain ⟨A2, c2, rfl, hA2⟩ := ht
  have HA2 := Lib.hid hA2
  clear hA2
  have hbk := Lib.hid ((Blk.new w 26 #[.slice A s.length c, .slice A2 t.length c2]).alloc (.cells #[.slice none 0 0, .slice none 0 0] 26))
  have hbr : Hid (Blk ((w.alloc (.cells #[.slice A s.length c, .slice A2 t.length c2] 26)).alloc (.cells #[.slice none 0 0, .slice none 0 0] 26)) (w.heap.size + 1) 26 #[.slice none 0 0, .slice none 0 0]) := Lib.hid (by
    have := Blk.new (w.alloc (.cells #[.slice A s.length c, .slice A2 t.length c2] 26)) 26 #[.slice none 0 0, .slice none 0 0]
    simpa using this)
  have e0 : Ext w ((w.alloc (.cells #[.slice A s.length c, .slice A2 t.length c2] 26)).alloc (.cells #[.slice none 0 0, .slice none 0 0] 26)) := ((Ext.refl w).alloc _).alloc _
  have d0 := hbk.out.cell 0; have d1 := hbk.out.cell 1
  simp at d0 d1
  have C1 := specTreeDrop_c p _ (HT.out.ext e0)
  go_enter Tryd.func31, Tryd.ntmps31
  go_wp2_with fail
  refine C1.mono ?_
  rintro e w1 ⟨u1, rfl, ⟨vt', rfl, hI⟩, he1⟩
  have E1 := e0.trans he1
  have C2 := specVolumeValid_c w1 (HS.out.ext E1) (HT.out.ext E1)
  have b1 := hbk.out.ext he1; have b2 := hbr.out.ext he1
  have HI := Lib.hid hI
  clear d0 d1 C1 hI
  have d0 := b1.cell 0; have d1 := b1.cell 1
  simp at d0 d1
  have Hb1 := Lib.hid b1; have Hb2 := Lib.hid b2
  clear b1 b2
  cases hv : volOk s t with
  | false =>
    rw [hv] at C2
    have Hr : Hid (volDrop s t p = none) := Lib.hid (by unfold volDrop; rw [hv]; rfl)
    clear hv
    go_wp2_with (go_at_call 7; refine C2.mono ?_; rintro e w2 ⟨rfl, he2⟩; have b3 := Hb2.out.ext he2; have c0 := b3.cell 0; have c1 := b3.cell 1; have f0 := b3.frozen 0; have f1 := b3.frozen 1; simp at c0 c1)
    obtain ⟨p1, -, p3, -⟩ := put_two (a := .slice none 0 0) (b := .slice none 0 0) b3
    have z0 := p1.cell 0; have z1 := p1.cell 1
    simp at z0 z1
    exact bodyPost_ret (v := .tuple #[.agg #[.slice none 0 0, .slice none 0 0], .bool false]) (by simp [results, Tryd.results31, go_sem, z0, z1]) rfl ⟨_, rfl, OptVol.none_ Hr.out, p3 w (E1.trans he2) (by omega)⟩
  | true =>
    rw [hv] at C2
    cases ho : treeDrop t p with
    | none =>
      have Hr : Hid (volDrop s t p = none) := Lib.hid (by unfold volDrop; rw [hv, ho]; rfl)
      clear hv ho
      simp only [Option.isSome_none] at *
      go_wp2_with (go_at_call 7; refine C2.mono ?_; rintro e w2 ⟨rfl, he2⟩; have b3 := Hb2.out.ext he2; have c0 := b3.cell 0; have c1 := b3.cell 1; have f0 := b3.frozen 0; have f1 := b3.frozen 1; simp at c0 c1)
      obtain ⟨p1, -, p3, -⟩ := put_two (a := .slice none 0 0) (b := .slice none 0 0) b3
      have z0 := p1.cell 0; have z1 := p1.cell 1
      simp at z0 z1
      exact bodyPost_ret (v := .tuple #[.agg #[.slice none 0 0, .slice none 0 0], .bool false]) (by simp [results, Tryd.results31, go_sem, z0, z1]) rfl ⟨_, rfl, OptVol.none_ Hr.out, p3 w (E1.trans he2) (by omega)⟩
    | some t' =>
      rw [ho] at HI
      obtain ⟨i, x, h1, h2, h3, -, -, -⟩ := treeDrop_find ho
      have hil := lt_of_get h1
      have Hr : Hid (volDrop s t p = some ((freeAll s x.ids).getD [], t')) := Lib.hid (by unfold volDrop idsAt; rw [hv, ho, h2]; rfl)
      have Ca : ∀ W, Ext w W → Calls Tryd.prog 41 #[.slice A2 t.length c2, .string p] W (Ret (.int .i64 (i : Int)) W) := fun W e => by rw [← h3]; exact l5At_c p W (HT.out.ext e)
      obtain ⟨b, o, u, rfl, -, -, -, hu, -, -, hc2⟩ := Its.at_ HA2.out h1
      have HU := Lib.hid hu
      obtain ⟨Ax, cx, rfl, -⟩ := hu
      clear hv ho h1 h2 h3
      simp only [Option.isSome_some, Option.getD_some] at *
      obtain ⟨A5, c5, e5, -⟩ := id HI.out
      subst e5
      go_wp2_with (go_at_call 7; refine C2.mono ?_; rintro e w2 ⟨rfl, he2⟩)
      have b3 := Hb1.out.ext he2
      have E2 := E1.trans he2
      have q0 := fun W (e : Ext w2 W) => b3.at_ (i := 0) (u := .slice A s.length c) rfl W e
      have q1 := fun W (e : Ext w2 W) => b3.at_ (i := 1) (u := .slice (some ⟨b, o, none⟩) t.length c2) rfl W e
      have q2 := fun W (e : Ext w2 W) => hc2 W (E2.trans e)
      refine wp_region_hold (fun W => W.cell? ⟨w.heap.size, 0, none⟩ = some (.slice A s.length c) ∧ W.cell? ⟨w.heap.size, 1, none⟩ = some (.slice (some ⟨b, o, none⟩) t.length c2) ∧ W.cell? ⟨b, o + i * 3 + 2, none⟩ = some (.slice Ax x.ids.length cx)) 16 [(0, true), (1, true), (2, true), (3, true), (4, true), (5, true), (6, true), (7, false), (8, true), (9, true), (10, true), (11, false), (12, true), (13, true), (14, true), (15, true)] (by kernel_rfl) (by kernel_rfl) ?_ ?_
      · exact ⟨q0 _ (Ext.refl _).drew, q1 _ (Ext.refl _).drew, q2 _ (Ext.refl _).drew⟩
      (repeat (first | (apply hw_read (by rfl) (by rfl); (· (intro W hW; (try dsimp only at hW); go_simp; (first | done | rfl | (rw [if_pos] <;> first | omega | rfl)))); (try simp only [Act.put, List.setIfInBounds_toArray, List.set_cons_zero, List.set_cons_succ])) | (refine hw_skip (by rfl) (by rfl) ?_; (try simp only [Act.put, List.setIfInBounds_toArray, List.set_cons_zero, List.set_cons_succ]))))
      refine hw_step (by rfl) ?_
      go_wp2_with (go_at_call 41; refine (Ca _ (E2.trans (Ext.refl _).drew)).mono ?_; rintro e w3 ⟨rfl, he3⟩)
      have e3 := (Ext.refl w2).drew.trans he3
      refine ⟨⟨q0 _ e3, q1 _ e3, q2 _ e3⟩, ?_⟩
      (repeat (first | (apply hw_read (by rfl) (by rfl); (· (intro W hW; (try dsimp only at hW); go_simp; (first | done | rfl | (rw [if_pos] <;> first | omega | rfl)))); (try simp only [Act.put, List.setIfInBounds_toArray, List.set_cons_zero, List.set_cons_succ])) | (refine hw_skip (by rfl) (by rfl) ?_; (try simp only [Act.put, List.setIfInBounds_toArray, List.set_cons_zero, List.set_cons_succ]))))
      refine hw_step (by rfl) ?_
      go_wp2_with (go_at_call 46; refine (FileFree_c _ (HS.out.ext (E2.trans e3)) (HU.out.ext (E2.trans e3))).mono ?_; rintro e w4 ⟨us, rfl, ⟨vs', rfl, hO⟩, he4⟩)
      have e4 := e3.trans he4
      have E3 := E2.trans e3
      have HO := Lib.hid (hO.weak E3.size fun _ _ _ gg => gg.keep E3.size (fun _ _ _ => rfl))
      obtain ⟨A6, c6, rfl⟩ := hO.form
      clear hO
      refine ⟨⟨q0 _ e4, q1 _ e4, q2 _ e4⟩, ?_⟩
      (repeat (first | (apply hw_read (by rfl) (by rfl); (· (intro W hW; (try dsimp only at hW); go_simp; (first | done | rfl | (rw [if_pos] <;> first | omega | rfl)))); (try simp only [Act.put, List.setIfInBounds_toArray, List.set_cons_zero, List.set_cons_succ])) | (refine hw_skip (by rfl) (by rfl) ?_; (try simp only [Act.put, List.setIfInBounds_toArray, List.set_cons_zero, List.set_cons_succ]))))
      (refine hw_nil ?_; (try simp only [List.drop_succ_cons, List.drop_zero]))
      have b4 := Hb2.out.ext (he2.trans e4)
      have c0 := b4.cell 0; have c1 := b4.cell 1; have f0 := b4.frozen 0; have f1 := b4.frozen 1
      simp at c0 c1
      have Hb4 := Lib.hid b4
      clear b4
      go_wp2
      refine NoPanic.normal ?_
      (try dsimp only [Exit.then])
      go_wp2
      obtain ⟨p1, p2, p3, -⟩ := put_two (a := .slice A6 ((freeAll s x.ids).getD []).length c6) (b := .slice A5 t'.length c5) Hb4.out
      have z0 := p1.cell 0; have z1 := p1.cell 1
      simp at z0 z1
      refine bodyPost_ret (v := .tuple #[.agg #[.slice A6 ((freeAll s x.ids).getD []).length c6, .slice A5 t'.length c5], .bool true]) (by simp [results, Tryd.results31, go_sem, z0, z1]) rfl ⟨_, rfl, ?_, p3 w (E2.trans e4) (by omega)⟩
      rw [Hr.out]
      refine ⟨_, _, rfl, ?_, ?_⟩
      · exact HO.out.hd (Nat.le_refl _) p2 (by decide) (by decide)
      · exact Its.keepT ((HI.out.ext (he2.trans e4)).keep e0.size (fun _ _ _ => rfl)) p2 (by decide) (by decide)
end Go.Sf
