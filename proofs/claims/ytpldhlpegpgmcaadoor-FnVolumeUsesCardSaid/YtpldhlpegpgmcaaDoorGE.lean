/- The search for a name in a directory. -/
import Derived.Test.YtpldhlpegpgmcaaDoorGD
import Derived.Test.YtpldhlpegpgmcaaDoorGB
import Derived.IntWalk
import Derived.Test.YtpldhlpegpgmcaaDoorGA
import Derived.Laws.AppendOwn
import Derived.Test.YtpldhlpegpgmcaaDoorGC
import Derived.Test.YtpldhlpegpgmcaaDoorShelf
import Derived.Maps.AppendAt
/-! The search for a name in a directory. -/
namespace Go.Sf
open Go Go.RowKit Go.Proofs
/-- -1, 0 or 1, as a comes ahead of b, is b, or comes behind it -/
def cmpB (a b : ByteArray) : Int := if blt a b = true then -1 else if blt b a = true then 1 else 0
theorem cmpB_lt {a b : ByteArray} (h : blt a b = true) : cmpB a b = -1 := by simp [cmpB, h]
theorem cmpB_gt {a b : ByteArray} (h1 : blt a b = false) (h : blt b a = true) : cmpB a b = 1 := by simp [cmpB, h1, h]
theorem cmpB_eq {a b : ByteArray} (h1 : blt a b = false) (h : blt b a = false) : cmpB a b = 0 := by simp [cmpB, h1, h]
theorem blt_total {a b : ByteArray} (h1 : blt a b = false) (h2 : blt b a = false) : a = b := by
  rw [blt_eq] at h1 h2; exact bl_inj (lt8_total _ _ h1 h2)
theorem blt_irrefl (a : ByteArray) : blt a a = false := by rw [blt_eq, lt8_irrefl]
theorem le_of_blt {a b : ByteArray} : (Op.bytesLess b.toList a.toList || b.toList == a.toList) = !blt a b := by
  have e : (b.toList == a.toList) = decide (b = a) := bytes_ne_iff
  rw [e]
  show (blt b a || _) = _
  cases h1 : blt a b with
  | true => have h2 : blt b a = false := by rw [blt_eq] at h1 ⊢; exact lt8_asymm h1
            have : b ≠ a := by rintro rfl; rw [blt_irrefl] at h1; cases h1
            simp [h2, this]
  | false => cases h2 : blt b a with
    | true => simp
    | false => simp [blt_total h2 h1]
set_option maxHeartbeats 1000000 in
theorem isNaN_string_c (s : ByteArray) (w : World) : Calls Tryd.prog 80 #[.string s] w (Ret (.bool false) w) := by
  go_enter Tryd.func80, Tryd.ntmps80
  go_wp2
  go_ret
  exact ⟨by simp, Ext.refl w⟩
set_option maxHeartbeats 1000000 in
theorem Compare_string_c (s t : ByteArray) (w : World) : Calls Tryd.prog 73 #[.string s, .string t] w (Ret (.int .i64 (cmpB s t)) w) := by
  cases h1 : blt s t with
  | true =>
    have H := Lib.hid (cmpB_lt h1)
    have g1 : Op.bytesLess s.toList t.toList = true := h1
    clear h1
    have he := Ext.refl w
    go_enter Tryd.func73, Tryd.ntmps73
    go_wp2_with (go_at_call 80; refine (isNaN_string_c _ _).mono ?_; rintro e w1 ⟨rfl, he1⟩; replace he := he.trans he1; clear he1)
    go_ret
    exact ⟨ret_i H.out.symm, he⟩
  | false =>
    cases h2 : blt t s with
    | true =>
      have H := Lib.hid (cmpB_gt h1 h2)
      have g1 : Op.bytesLess s.toList t.toList = false := h1
      have g2 : (s.toList == t.toList) = false := by rw [bytes_ne_iff, decide_eq_false_iff_not]; rintro rfl; rw [blt_irrefl] at h2; cases h2
      clear h1 h2
      have he := Ext.refl w
      go_enter Tryd.func73, Tryd.ntmps73
      go_wp2_with (go_at_call 80; refine (isNaN_string_c _ _).mono ?_; rintro e w1 ⟨rfl, he1⟩; replace he := he.trans he1; clear he1)
      go_ret
      exact ⟨ret_i H.out.symm, he⟩
    | false =>
      have H := Lib.hid (cmpB_eq h1 h2)
      have g1 : Op.bytesLess s.toList t.toList = false := h1
      have g2 : (s.toList == t.toList) = true := by rw [bytes_ne_iff, decide_eq_true_iff]; exact blt_total h1 h2
      clear h1 h2
      have he := Ext.refl w
      go_enter Tryd.func73, Tryd.ntmps73
      go_wp2_with (go_at_call 80; refine (isNaN_string_c _ _).mono ?_; rintro e w1 ⟨rfl, he1⟩; replace he := he.trans he1; clear he1)
      go_ret
      exact ⟨ret_i H.out.symm, he⟩
end Go.Sf

/-! The binary search for a name among the nodes of a directory. -/
namespace Go.Sf
open Go Go.RowKit Go.Proofs
/-- how many names come ahead of t -/
def lbB (nms : List ByteArray) (t : ByteArray) : Nat := (nms.takeWhile fun x => blt x t).length
def hasB (nms : List ByteArray) (t : ByteArray) : Bool := nms.any fun x => eqb x t
theorem lbB_of {nms : List ByteArray} {t : ByteArray} {i : Nat} (hi : i ≤ nms.length) (h1 : ∀ k x, k < i → nms[k]? = some x → blt x t = true) (h2 : ∀ x, nms[i]? = some x → blt x t = false) : lbB nms t = i := by
  induction nms generalizing i with
  | nil => simp at hi; subst hi; rfl
  | cons y ys ih =>
    cases i with
    | zero =>
      have := h2 y rfl
      simp [lbB, this]
    | succ i =>
      have h := h1 0 y (by omega) rfl
      have := ih (i := i) (by simp at hi; omega) (fun k x hk hx => h1 (k + 1) x (by omega) (by simpa using hx)) (fun x hx => h2 x (by simpa using hx))
      unfold lbB at this ⊢
      rw [List.takeWhile_cons, if_pos h, List.length_cons, this]
theorem hasB_none {nms : List ByteArray} {t : ByteArray} (h1 : ∀ (k : Nat) (x : ByteArray), nms[k]? = some x → x ≠ t) : hasB nms t = false := by
  unfold hasB
  rw [List.any_eq_false]
  intro x hx
  obtain ⟨k, hk⟩ := List.mem_iff_getElem?.1 hx
  rw [eqb_iff]; exact h1 k x hk
theorem hasB_some {nms : List ByteArray} {t : ByteArray} {k : Nat} (h : nms[k]? = some t) : hasB nms t = true := by
  unfold hasB
  rw [List.any_eq_true]
  exact ⟨t, List.mem_of_getElem? h, eqb_iff.2 rfl⟩
theorem blt_ne {a b : ByteArray} (h : blt a b = true) : a ≠ b := by rintro rfl; rw [blt_irrefl] at h; cases h
theorem blt_trans {a b c : ByteArray} (h : blt a b = true) (k : blt b c = true) : blt a c = true := by rw [blt_eq] at *; exact lt8_trans _ _ _ h k
/-- names ascend -/
def Asc (nms : List ByteArray) : Prop := ∀ (i j : Nat) (x y : ByteArray), nms[i]? = some x → nms[j]? = some y → i < j → blt x y = true
/-- the cells of a slice of nodes, and the nodes' names -/
def PtrNames (w : World) (A : Option Addr) (bs : List Nat) (nms : List ByteArray) : Prop :=
  ∀ k nm, nms[k]? = some nm → ∃ ab ao b, bs[k]? = some b ∧ A = some ⟨ab, ao, none⟩ ∧ (∀ W, Ext w W → W.cell? ⟨ab, ao + k, none⟩ = some (.pointer (some ⟨b, 0, none⟩))) ∧ (∀ W, Ext w W → W.cell? ⟨b, 0, none⟩ = some (.string nm))
theorem ret_ib {a b : Int} {c d : Bool} (h : a = b) (h2 : c = d) : Ending.returned (.tuple #[.int .i64 a, .bool c]) = .returned (.tuple #[.int .i64 b, .bool d]) := by rw [h, h2]
set_option maxHeartbeats 1000000 in
theorem placeF_c (b : Nat) (s t : ByteArray) (w : World) (hc : w.cell? ⟨b, 0, none⟩ = some (.string s)) : Calls Tryd.prog 72 #[.pointer (some ⟨b, 0, none⟩), .string t] w (Ret (.int .i64 (cmpB s t)) w) := by
  go_enter Tryd.func72, Tryd.ntmps72
  go_wp2_with (go_at_call 73; refine (Compare_string_c _ _ _).mono ?_; rintro e w1 ⟨rfl, he1⟩)
  go_ret
  exact ⟨rfl, he1⟩
set_option maxHeartbeats 1000000 in
theorem bsearch_c {A : Option Addr} {c : Nat} {bs : List Nat} {nms : List ByteArray} (t : ByteArray) (w : World) (hA : PtrNames w A bs nms) (hl : nms.length ≤ lim) (hs : Asc nms) :
    Calls Tryd.prog 71 #[.slice A nms.length c, .string t, .func (.func 72) #[] #[]] w (Ret (.tuple #[.int .i64 (lbB nms t), .bool (hasB nms t)]) w) := by
  have HA := Lib.hid hA
  have HS := Lib.hid hs
  unfold lim at hl
  clear hA hs
  generalize hn : nms.length = n at *
  have Hn := Lib.hid hn; clear hn
  go_enter Tryd.func71, Tryd.ntmps71
  go_wp2
  go_loopw [9, 10] (fun i j wr => ∃ a b : Nat, a ≤ b ∧ b ≤ n ∧ i = .int .i64 a ∧ j = .int .i64 b ∧ Ext w wr ∧ Hid (∀ k x, k < a → nms[k]? = some x → blt x t = true) ∧ Hid (∀ k x, b ≤ k → nms[k]? = some x → blt x t = false)) (fun i j _ => (RowKit.intOf j).toNat - (RowKit.intOf i).toNat)
  case atStart =>
    refine ⟨0, n, by omega, by omega, rfl, rfl, Ext.refl w, Lib.hid fun k x h => absurd h (by omega), Lib.hid fun k x h hx => ?_⟩
    rw [List.getElem?_eq_none (by rw [Hn.out]; exact h)] at hx; cases hx
  case round =>
    obtain ⟨a, b, hab, hb, rfl, rfl, he, hlo, hhi⟩ := hrel
    by_cases hlt : a < b
    · have hmid : (a + b) / 2 < n := by omega
      obtain ⟨x, hx⟩ := get_of_lt (l := nms) (k := (a + b) / 2) (by rw [Hn.out]; exact hmid)
      obtain ⟨ab, ao, pb, hpb, hAe, h1, h2⟩ := HA.out _ _ hx
      subst hAe
      have c1 := fun W (h : Ext wr W) => h1 W (he.trans h)
      have c2 := fun W (h : Ext wr W) => h2 W (he.trans h)
      have Hx := Lib.hid hx
      clear h1 h2 hx hpb
      go_wp2_with (go_at_call 72; refine (placeF_c pb x t _ (c2 _ (by first | assumption | exact Ext.refl _))).mono ?_; rintro e w2 ⟨rfl, he2⟩)
      · have hc : cmpB x t < 0 := by assumption
        have hx : Hid (blt x t = true) := Lib.hid (by
          cases h : blt x t with
          | true => rfl
          | false => simp only [cmpB, h] at hc; split at hc <;> omega)
        go_roundw
        case rel =>
          refine ⟨(a + b) / 2 + 1, b, by omega, by omega, by go_num, rfl, he.trans he2, Lib.hid fun k y hk hy => ?_, hhi⟩
          rcases Nat.lt_or_ge k ((a + b) / 2) with h | h
          · exact blt_trans (HS.out _ _ _ _ hy Hx.out h) hx.out
          · have : k = (a + b) / 2 := by omega
            subst this
            rw [Hx.out] at hy
            rw [← Option.some.inj hy]; exact hx.out
        case measure => simp [RowKit.intOf]; omega
      · have hc : 0 ≤ cmpB x t := by assumption
        have hx : Hid (blt x t = false) := Lib.hid (by
          cases h : blt x t with
          | false => rfl
          | true => rw [cmpB_lt h] at hc; omega)
        go_roundw
        case rel =>
          refine ⟨a, (a + b) / 2, by omega, by omega, rfl, by go_num, he.trans he2, hlo, Lib.hid fun k y hk hy => ?_⟩
          cases h1 : blt y t with
          | false => rfl
          | true =>
            rcases Nat.lt_or_ge ((a + b) / 2) k with h | h
            · rw [← hx.out]; exact (blt_trans (HS.out _ _ _ _ Hx.out hy h) h1).symm
            · have : k = (a + b) / 2 := by omega
              subst this
              rw [Hx.out] at hy
              rw [← h1, ← Option.some.inj hy]; exact hx.out
        case measure => simp [RowKit.intOf]; omega
    · have e : a = b := by omega
      subst e
      have hlb : Hid (lbB nms t = a) := Lib.hid (lbB_of (by rw [Hn.out]; omega) hlo.out fun x hx => hhi.out _ x (Nat.le_refl _) hx)
      rcases Nat.lt_or_ge a n with hlt2 | hge
      · obtain ⟨x, hx⟩ := get_of_lt (l := nms) (k := a) (by rw [Hn.out]; exact hlt2)
        obtain ⟨ab, ao, pb, hpb, hAe, h1, h2⟩ := HA.out _ _ hx
        subst hAe
        have c1 := fun W (h : Ext wr W) => h1 W (he.trans h)
        have c2 := fun W (h : Ext wr W) => h2 W (he.trans h)
        have Hx := Lib.hid hx
        clear h1 h2 hx hpb
        go_wp2_with (go_at_call 72; refine (placeF_c pb x t _ (c2 _ (by first | assumption | exact Ext.refl _))).mono ?_; rintro e w2 ⟨rfl, he2⟩)
        go_ret2
        refine ⟨ret_ib ?_ ?_, he.trans he2⟩
        · rw [hlb.out]
        · have hx1 := hhi.out a x (Nat.le_refl _) Hx.out
          cases h2 : blt t x with
          | false =>
            have := blt_total hx1 h2
            subst this
            rw [hasB_some Hx.out, cmpB_eq hx1 h2]; rfl
          | true =>
            rw [cmpB_gt hx1 h2, hasB_none]
            · rfl
            · intro k y hy e
              subst e
              rcases Nat.lt_trichotomy k a with h | rfl | h
              · exact blt_ne (hlo.out k y h hy) rfl
              · rw [Hx.out] at hy; exact blt_ne h2 (Option.some.inj hy).symm
              · exact blt_ne (blt_trans h2 (HS.out _ _ _ _ Hx.out hy h)) rfl
      · have e : a = n := by omega
        subst e
        go_wp2
        go_ret2
        refine ⟨ret_ib ?_ ?_, he⟩
        · rw [hlb.out]
        · rw [hasB_none]
          intro k y hy e
          subst e
          exact blt_ne (hlo.out k y (by rw [← Hn.out]; exact lt_of_get hy) hy) rfl
end Go.Sf

/-! Trees of nodes in memory: which items they bear. -/
namespace Go.Sf
open Go Go.RowKit
abbrev Key := List (List UInt8)
/-- a node's name -/
def nameOf (k : Key) : ByteArray := mkB (k.getLastD [])
/-- a pointer to block b -/
def EPtr (_ : World) (cs : Array Value) (p : Nat) (b : Nat) : Prop := cs[p]? = some (.pointer (some ⟨b, 0, none⟩))
theorem eptr_ok : ElOk 41 1 EPtr := ⟨fun _ _ _ _ _ _ h => h, fun _ _ _ p p' _ hj h => by
  have := hj 0 (by omega); simp at this; unfold EPtr; rw [this]; exact h, fun _ _ _ _ h j hj => ⟨_, by
  have : j = 0 := by omega
  subst this; exact h, rfl⟩⟩
/-- the node with key k, of the tree that bears l: adr tells where nodes lie, kv what their slices of kids are -/
def Node (B : Nat) (w : World) (l : List It) (adr : Key → Nat) (kv : Key → Value) (k : Key) (dir : Bool) (ids : List Int) : Prop :=
  B ≤ adr k ∧ OwnS B 41 1 EPtr w (kv k) ((kidsOf l k).map fun x => adr (key x)) ∧ ∃ u, Blk w (adr k) 87 #[.string (nameOf k), .bool dir, u, kv k] ∧ Ints B w u ids
structure TreeAt (B : Nat) (w : World) (l : List It) (adr : Key → Nat) (kv : Key → Value) : Prop where
  root : Node B w l adr kv [] true []
  nodes : ∀ x, x ∈ l → Node B w l adr kv (key x) x.dir x.ids
  inj : ∀ k k', isKey l k → isKey l k' → adr k = adr k' → k = k'
  sep : ∀ k k' g, isKey l k → isKey l k' → (kv k).ownBlock = some g → (kv k').ownBlock = some g → k = k'
section
variable {B : Nat} {w w' : World} {l : List It} {adr : Key → Nat} {kv : Key → Value}
theorem Node.ext {k : Key} {dir : Bool} {ids : List Int} (h : Node B w l adr kv k dir ids) (e : Ext w w') : Node B w' l adr kv k dir ids :=
  let ⟨h1, h2, u, h3, h4⟩ := h; ⟨h1, h2.ext eptr_ok e, u, h3.ext e, h4.ext e⟩
theorem TreeAt.ext (h : TreeAt B w l adr kv) (e : Ext w w') : TreeAt B w' l adr kv :=
  ⟨h.root.ext e, fun x hx => (h.nodes x hx).ext e, h.inj, h.sep⟩
theorem TreeAt.node (h : TreeAt B w l adr kv) {k : Key} (hk : isKey l k) : ∃ dir ids, Node B w l adr kv k dir ids ∧ ((k = [] ∧ dir = true ∧ ids = []) ∨ ∃ x, x ∈ l ∧ key x = k ∧ dir = x.dir ∧ ids = x.ids) := by
  rcases hk with rfl | ⟨x, hx, rfl⟩
  · exact ⟨_, _, h.root, .inl ⟨rfl, rfl, rfl⟩⟩
  · exact ⟨_, _, h.nodes x hx, .inr ⟨x, hx, rfl, rfl, rfl⟩⟩
end
/-- the names in a directory -/
def namesOf (l : List It) (k : Key) : List ByteArray := (kidsOf l k).map fun x => nameOf (key x)
theorem nameOf_key (x : It) : nameOf (key x) = mkB ((key x).getLast (key_ne x)) := by
  unfold nameOf
  rw [List.getLastD_eq_getLast?, List.getLast?_eq_some_getLast (key_ne x)]; rfl
theorem Grow.asc_names {l : List It} (h : Grow l) (k : Key) : Asc (namesOf l k) := by
  intro i j x y hx hy hij
  unfold namesOf at hx hy
  rw [List.getElem?_map, Option.map_eq_some_iff] at hx hy
  obtain ⟨a, ha, rfl⟩ := hx
  obtain ⟨b, hb, rfl⟩ := hy
  have hpw : l.Pairwise fun x y => lt8 (bl x.path) (bl y.path) = true := by
    rw [List.pairwise_iff_getElem]
    intro i j hi hj hij
    exact h.lt (List.getElem?_eq_getElem hi) (List.getElem?_eq_getElem hj) hij
  have hka := (mem_kids.1 (List.mem_of_getElem? ha)).2
  have hkb := (mem_kids.1 (List.mem_of_getElem? hb)).2
  have hkw := hpw.sublist (List.filter_sublist (p := kin k) (l := l))
  change (kidsOf l k).Pairwise _ at hkw
  rw [List.pairwise_iff_getElem] at hkw
  have hi := lt_of_get ha
  have hj := lt_of_get hb
  have := hkw i j hi hj hij
  rw [List.getElem?_eq_getElem hi] at ha
  rw [List.getElem?_eq_getElem hj] at hb
  rw [Option.some.inj ha, Option.some.inj hb] at this
  rw [key_path_eq a, key_path_eq b, hka, hkb, lt8_append] at this
  rw [blt_eq, nameOf_key, nameOf_key, bl_mkB, bl_mkB]
  exact this
theorem name_kid {l : List It} {k : Key} {x : It} (h : x ∈ kidsOf l k) : key x = k ++ [bl (nameOf (key x))] := by
  have := (mem_kids.1 h).2
  rw [nameOf_key, bl_mkB]
  conv => lhs; rw [key_last (x := x)]
  rw [this]
section
variable {B : Nat} {w w' : World} {l : List It} {adr : Key → Nat} {kv : Key → Value}
theorem OwnS.at_ {α : Type} {base t sz : Nat} {E : World → Array Value → Nat → α → Prop} {v : Value} {l : List α} (h : OwnS base t sz E w v l) (hok : ElOk t sz E) {k : Nat} {x : α} (hx : l[k]? = some x) :
    ∃ g c cs, v = .slice (some ⟨g, 0, none⟩) l.length c ∧ base ≤ g ∧ Blk w g t cs ∧ E w cs (k * sz) x := by
  obtain ⟨xs, ⟨h1, h2⟩, h3⟩ := h
  rcases h2 with ⟨rfl, hn⟩ | ⟨g, cap, cur, rfl, hg, hh, hnc, hcm, hcs, htk⟩
  · have : l = [] := List.length_eq_zero_iff.1 hn
    subst this; simp at hx
  · refine ⟨g, cap, cur, rfl, hg, hh, hok.loc _ _ _ _ _ _ (fun j hj => ?_) (h3 k x hx)⟩
    have hk := lt_of_get hx
    have hlt : k * sz + j < l.length * sz := by
      have : (k + 1) * sz ≤ l.length * sz := Nat.mul_le_mul_right _ hk
      rw [Nat.add_mul, Nat.one_mul] at this
      omega
    rw [← Array.getElem?_toList, ← List.getElem?_take_of_lt hlt, htk, List.getElem?_toArray]
/-- the kids of a node, as the search wants them -/
theorem TreeAt.kids (h : TreeAt B w l adr kv) {k : Key} (hk : isKey l k) : ∃ A c, kv k = .slice A (namesOf l k).length c ∧ PtrNames w A ((kidsOf l k).map fun x => adr (key x)) (namesOf l k) := by
  obtain ⟨dir, ids, ⟨hB, hO, u, hb, hu⟩, -⟩ := h.node hk
  obtain ⟨A, c, hAc⟩ := hO.form
  refine ⟨A, c, by rw [hAc]; simp [namesOf], fun j nm hj => ?_⟩
  unfold namesOf at hj
  rw [List.getElem?_map, Option.map_eq_some_iff] at hj
  obtain ⟨x, hx, rfl⟩ := hj
  have hxl := (mem_kids.1 (List.mem_of_getElem? hx)).1
  have hm : ((kidsOf l k).map fun x => adr (key x))[j]? = some (adr (key x)) := by rw [List.getElem?_map, hx]; rfl
  obtain ⟨g, c', cs, hv, hg, hbl, he⟩ := hO.at_ eptr_ok hm
  rw [hAc] at hv
  injection hv with hv1 _ _
  obtain ⟨-, -, u', hb', -⟩ := h.nodes x hxl
  refine ⟨g, 0, adr (key x), hm, hv1, ?_, ?_⟩
  · rw [Nat.zero_add]; rw [Nat.mul_one] at he; exact hbl.at_ he
  · exact hb'.at_ rfl
end
end Go.Sf

/-! A tree of nodes gets one node more. -/
namespace Go.Sf
open Go Go.RowKit
theorem OwnS.frame {α : Type} {base : Nat} {t : TypeId} {sz : Nat} {E : World → Array Value → Nat → α → Prop} {w w' : World} {v : Value} {l : List α} (h : OwnS base t sz E w v l)
    (hb : ∀ g, v.ownBlock = some g → w'.heap[g]? = w.heap[g]?) (hE : ∀ cs p x, E w cs p x → E w' cs p x) : OwnS base t sz E w' v l := by
  obtain ⟨xs, ⟨h1, h1'⟩, h2⟩ := h
  refine ⟨xs, ⟨h1, ?_⟩, fun k x hx => hE _ _ _ (h2 k x hx)⟩
  rcases h1' with h | ⟨g, cap, cur, hv, hg, hh, r⟩
  · exact .inl h
  · exact .inr ⟨g, cap, cur, hv, hg, (hb g (by rw [hv]; rfl)).trans hh, r⟩
/-- the block of a row of one's own, if it has one -/
theorem OwnS.block {α : Type} {base : Nat} {t : TypeId} {sz : Nat} {E : World → Array Value → Nat → α → Prop} {w : World} {v : Value} {l : List α} (h : OwnS base t sz E w v l) {g : Nat} (hg : v.ownBlock = some g) : base ≤ g ∧ ∃ cs, Blk w g t cs := by
  obtain ⟨xs, ⟨h1, h1'⟩, h2⟩ := h
  rcases h1' with ⟨rfl, -⟩ | ⟨g', cap, cur, rfl, hg', hh, r⟩
  · cases hg
  · simp only [Value.ownBlock, Option.some.injEq] at hg
    subst hg
    exact ⟨hg', cur, hh⟩
theorem kids_key_none {l : List It} {x : It} (hg : Grow l) (hf : Fits l x) : kidsOf (l ++ [x]) (key x) = [] := by
  rw [kidsOf, List.filter_eq_nil_iff]
  intro y hy
  simp only [kin, decide_eq_true_eq]
  intro e
  rw [List.mem_append, List.mem_singleton] at hy
  rcases hy with hy | rfl
  · rcases (hg.fits hy).2 with h | ⟨z, hz, h, -⟩
    · rw [e] at h; exact key_ne x h
    · rw [e] at h
      have := hf.2.1 z hz
      rw [key_path h, lt8_irrefl] at this; cases this
  · have := congrArg List.length e
    have h2 := congrArg List.length (key_last (x := y))
    simp only [List.length_append, List.length_singleton] at h2; omega
theorem fits_new {l : List It} {x : It} (hf : Fits l x) {y : It} (hy : y ∈ l) : key y ≠ key x := fun e => by
  have := hf.2.1 y hy
  rw [key_path e, lt8_irrefl] at this; cases this
theorem TreeAt.grow {B : Nat} {w4 w7 : World} {l : List It} {adr : Key → Nat} {kv : Key → Value} {x : It} {u v' : Value} (h : TreeAt B w4 l adr kv) (hg : Grow l) (hf : Fits l x) (hB : B ≤ w4.heap.size)
    (hu : Ints B w4 u x.ids)
    (hO : OwnS B 41 1 EPtr w7 v' (((kidsOf l (key x).dropLast).map fun y => adr (key y)) ++ [w4.heap.size]))
    (hgr : ((w4.alloc (.cells #[.string (nameOf (key x)), .bool x.dir, u, .slice none 0 0] 87)).alloc (.cells #[.pointer (some ⟨w4.heap.size, 0, none⟩)] 41)).grownBy w7 (kv (key x).dropLast).ownBlock)
    (hvb : v'.ownBlock = (kv (key x).dropLast).ownBlock ∨ v'.ownBlock = some (w4.heap.size + 2)) :
    ∃ adr' kv', TreeAt B (w7.setCell ⟨adr (key x).dropLast, 3, none⟩ v') (l ++ [x]) adr' kv' ∧ adr' [] = adr [] ∧ B ≤ adr (key x).dropLast := by
  classical
  have hk : isKey l (key x).dropLast := hf.2.2.imp_right fun ⟨z, h1, h2, _⟩ => ⟨z, h1, h2⟩
  have hdx : (key x).dropLast ≠ key x := fun e => by
    have := congrArg List.length e
    have h2 := congrArg List.length (key_last (x := x))
    simp only [List.length_append, List.length_singleton] at h2; omega
  have hkx : ¬ isKey l (key x) := fun hk => by
    rcases hk with h0 | ⟨y, hy, e⟩
    · exact key_ne x h0
    · exact fits_new hf hy e
  generalize hkd : (key x).dropLast = k at *
  generalize hw5 : w4.alloc (.cells #[.string (nameOf (key x)), .bool x.dir, u, .slice none 0 0] 87) = w5 at *
  generalize hw6 : w5.alloc (.cells #[.pointer (some ⟨w4.heap.size, 0, none⟩)] 41) = w6 at *
  have hx5 : Ext w4 w5 := by rw [← hw5]; exact (Ext.refl _).alloc _
  have hx6 : Ext w5 w6 := by rw [← hw6]; exact (Ext.refl _).alloc _
  have hx46 := hx5.trans hx6
  have hs6 : w6.heap.size = w4.heap.size + 2 := by rw [← hw6, ← hw5]; simp
  have hnb : Blk w6 w4.heap.size 87 #[.string (nameOf (key x)), .bool x.dir, u, .slice none 0 0] := by
    rw [← hw6, ← hw5]; exact (Blk.new w4 _ _).alloc _
  have h6 := h.ext hx46
  have hlt : ∀ q, isKey l q → adr q < w4.heap.size := fun q hq => by
    obtain ⟨_, _, ⟨-, -, _, hb, -⟩, -⟩ := h.node hq; exact hb.lt
  have hown : ∀ q, isKey l q → OwnS B 41 1 EPtr w6 (kv q) ((kidsOf l q).map fun y => adr (key y)) := fun q hq => by
    obtain ⟨_, _, ⟨-, ho, -⟩, -⟩ := h6.node hq; exact ho
  have hblt : ∀ q g, isKey l q → (kv q).ownBlock = some g → g < w4.heap.size := fun q g hq hg => by
    obtain ⟨_, _, ⟨-, ho, -⟩, -⟩ := h.node hq
    obtain ⟨-, cs, hb⟩ := ho.block hg
    exact hb.lt
  -- a node's block is no row of kids
  have hnk : ∀ g, isKey l k → (kv k).ownBlock = some g → ∀ b cs, Blk w6 b 87 cs → b ≠ g := fun g _ hg b cs hb => by
    obtain ⟨-, cs', hb'⟩ := (hown k hk).block hg
    exact Blk.ne_ hb hb' (by decide)
  have keepN : ∀ b cs, Blk w6 b 87 cs → Blk w7 b 87 cs := fun b cs hb =>
    (hgr.block b hb.lt (fun e => hnk b hk e.symm b cs hb rfl)).trans hb
  have keepI : ∀ u ids, Ints B w6 u ids → Ints B (w7.setCell ⟨adr k, 3, none⟩ v') u ids := fun u ids hi => by
    obtain ⟨_, _, ⟨-, -, _, hbk, -⟩, -⟩ := h6.node hk
    obtain ⟨A, c, hv, a1, a2, a3, a4⟩ := hi
    refine ⟨A, c, hv, a1, a2, a3, fun j y hy => ?_⟩
    obtain ⟨b, o, cs, e1, e2, e3, e4⟩ := a4 j y hy
    refine ⟨b, o, cs, e1, e2, ?_, e4⟩
    have h7 : Blk w7 b 3 cs := (hgr.block b e3.lt (fun e => by
      obtain ⟨-, cs', hb'⟩ := (hown k hk).block e.symm
      exact Blk.ne_ e3 hb' (by decide) rfl)).trans e3
    exact h7.far (p := ⟨adr k, 3, none⟩) (Blk.ne_ e3 hbk (by decide)) v'
  have hak7 : ∃ cs, Blk w7 (adr k) 87 cs := by
    obtain ⟨_, _, ⟨-, -, _, hbk, -⟩, -⟩ := h6.node hk
    exact ⟨_, keepN _ _ hbk⟩
  obtain ⟨csk, hak⟩ := hak7
  refine ⟨fun q => if q = key x then w4.heap.size else adr q, fun q => if q = key x then .slice none 0 0 else if q = k then v' else kv q, ?_, ?_, ?_⟩
  rotate_left
  · show (if ([] : Key) = key x then _ else _) = _
    rw [if_neg (fun e => key_ne x e.symm)]
  · obtain ⟨_, _, ⟨hb, -⟩, -⟩ := h.node hk; exact hb
  have hmap : ∀ q, (kidsOf l q).map (fun y => if key y = key x then w4.heap.size else adr (key y)) = (kidsOf l q).map fun y => adr (key y) := fun q =>
    List.map_congr_left fun y hy => if_neg (fits_new hf (mem_kids.1 hy).1)
  have old : ∀ q dir ids, isKey l q → Node B w4 l adr kv q dir ids →
      Node B (w7.setCell ⟨adr k, 3, none⟩ v') (l ++ [x]) (fun q => if q = key x then w4.heap.size else adr q) (fun q => if q = key x then .slice none 0 0 else if q = k then v' else kv q) q dir ids := fun q dir ids hq hn => by
    obtain ⟨a1, -, uq, a3, a4⟩ := hn
    have hqx : q ≠ key x := fun e => hkx (e ▸ hq)
    have b3 := keepN _ _ (a3.ext hx46)
    have b4 := keepI _ _ (a4.ext hx46)
    unfold Node
    simp only [if_neg hqx]
    rw [kidsOf_append, List.map_append, hmap]
    refine ⟨a1, ?_, ?_⟩
    · by_cases hqk : q = k
      · subst hqk
        rw [if_pos rfl, if_pos hkd]
        simp only [List.map_cons, List.map_nil, if_pos]
        refine hO.frame (fun g hg => ?_) (fun _ _ _ e => e)
        refine Below.heap_setCell w7 ⟨adr q, 3, none⟩ v' g ?_
        obtain ⟨-, cs', hb'⟩ := hO.block hg
        exact Blk.ne_ hb' hak (by decide)
      · rw [if_neg hqk, if_neg (fun e => hqk (e.symm.trans hkd)), List.map_nil, List.append_nil]
        refine (hown q hq).frame (fun g hg => ?_) (fun _ _ _ e => e)
        obtain ⟨-, cs', hb'⟩ := (hown q hq).block hg
        have e1 : w7.heap[g]? = w6.heap[g]? := hgr.block g hb'.lt (fun e => hqk (h.sep q k g hq hk hg e.symm))
        rw [← e1]
        refine Below.heap_setCell w7 ⟨adr k, 3, none⟩ v' g ?_
        exact Blk.ne_ (e1.trans hb' : Blk w7 g 41 cs') hak (by decide)
    · by_cases hqk : q = k
      · subst hqk
        rw [if_pos rfl]
        exact ⟨uq, by simpa using b3.set_ 3 v', b4⟩
      · rw [if_neg hqk]
        exact ⟨uq, b3.far (p := ⟨adr k, 3, none⟩) (fun e => hqk (h.inj q k hq hk e)) v', b4⟩
  have hkey : ∀ q, isKey (l ++ [x]) q → isKey l q ∨ q = key x := fun q hq => by
    rcases hq with h0 | ⟨y, hy, e⟩
    · exact .inl (.inl h0)
    · rw [List.mem_append, List.mem_singleton] at hy
      rcases hy with hy | rfl
      · exact .inl (.inr ⟨y, hy, e⟩)
      · exact .inr e.symm
  have hv'b : ∀ g, v'.ownBlock = some g → (kv k).ownBlock = some g ∨ g = w4.heap.size + 2 := fun g hg => by
    rcases hvb with e | e
    · exact .inl (e ▸ hg)
    · rw [e] at hg; exact .inr (Option.some.inj hg).symm
  refine ⟨old [] true [] (.inl rfl) h.root, fun y hy => ?_, fun q q' hq hq' e => ?_, fun q q' g hq hq' e1 e2 => ?_⟩
  · rw [List.mem_append, List.mem_singleton] at hy
    rcases hy with hy | rfl
    · exact old _ _ _ (.inr ⟨y, hy, rfl⟩) (h.nodes y hy)
    · unfold Node
      simp only [if_pos]
      rw [kids_key_none hg hf]
      refine ⟨hB, OwnS.nil _ _ _ _ _, u, ?_, keepI _ _ (hu.ext hx46)⟩
      exact (keepN _ _ hnb).far (p := ⟨adr k, 3, none⟩) (fun e => by have := hlt k hk; simp at e; omega) v'
  · rcases hkey q hq with h1 | rfl <;> rcases hkey q' hq' with h2 | rfl
    · simp only [if_neg (fun e => hkx (e ▸ h1) : q ≠ key x), if_neg (fun e => hkx (e ▸ h2) : q' ≠ key x)] at e
      exact h.inj _ _ h1 h2 e
    · simp only [if_neg (fun e => hkx (e ▸ h1) : q ≠ key x), if_pos] at e
      have := hlt q h1; omega
    · simp only [if_neg (fun e => hkx (e ▸ h2) : q' ≠ key x), if_pos] at e
      have := hlt q' h2; omega
    · rfl
  · rcases hkey q hq with h1 | rfl
    · rcases hkey q' hq' with h2 | rfl
      · simp only [if_neg (fun e => hkx (e ▸ h1) : q ≠ key x)] at e1
        simp only [if_neg (fun e => hkx (e ▸ h2) : q' ≠ key x)] at e2
        by_cases c1 : q = k <;> by_cases c2 : q' = k
        · rw [c1, c2]
        · subst c1
          rw [if_pos rfl] at e1
          rw [if_neg c2] at e2
          rcases hv'b g e1 with e | e
          · exact h.sep _ _ _ h1 h2 e e2
          · have := hblt _ _ h2 e2; omega
        · subst c2
          rw [if_pos rfl] at e2
          rw [if_neg c1] at e1
          rcases hv'b g e2 with e | e
          · exact h.sep _ _ _ h1 h2 e1 e
          · have := hblt _ _ h1 e1; omega
        · rw [if_neg c1] at e1
          rw [if_neg c2] at e2
          exact h.sep _ _ _ h1 h2 e1 e2
      · simp only [if_pos] at e2; cases e2
    · simp only [if_pos] at e1; cases e1
end Go.Sf

/-! Changes as interface values; slices from the second element on. -/
namespace Go.Sf
open Go Go.RowKit Go.Proofs
end Go.Sf

/-! The program's functions on paths that cut them. -/
namespace Go.Sf
open Go Go.RowKit Go.Proofs
/-- the library's own variable holds some int -/
def ML (w : World) : Prop := ∃ m : Int, w.cell? ⟨0, 0, none⟩ = some (.int .i64 m)
theorem ML.ext {w w' : World} (h : ML w) (e : Ext w w') : ML w' := let ⟨m, hm⟩ := h; ⟨m, e.cell hm⟩
def partsL (s : ByteArray) : List (List UInt8) := if pathOk s = true then cut (bl s) else []
/-- the parts as a slice of strings -/
def PartsV (B : Nat) (s : ByteArray) (v : Value) (w : World) : Prop := ∃ ps : List ByteArray, ps.map bl = partsL s ∧ Strs B w v ps
theorem partsL_bad {s : ByteArray} (h : pathOk s = false) : partsL s = [] := by simp [partsL, h]
theorem PartsV.none_ {B : Nat} {s : ByteArray} {w : World} (h : pathOk s = false) : PartsV B s (.slice none 0 0) w := ⟨[], (partsL_bad h).symm, SlOf.nil _ _ _ _ _⟩
theorem cut_total : ∀ (l cur : List UInt8) (n : Nat), (∀ p, p ∈ cutG cur l → p.length ≤ n) → cur.length + l.length + 1 ≤ (cutG cur l).length * (n + 1) := by
  intro l
  induction l with
  | nil => intro cur n h; have := h cur (by simp [cutG]); simp [cutG]; omega
  | cons c cs ih =>
    intro cur n h
    unfold cutG at h ⊢
    split
    · next hc =>
      rw [if_pos hc] at h
      have h1 := h cur (by simp)
      have := ih [] n (fun p hp => h p (by simp [hp]))
      simp only [List.length_cons, List.length_nil] at this ⊢
      rw [Nat.add_mul]; omega
    · next hc =>
      rw [if_neg hc] at h
      have := ih (cur ++ [c]) n h
      simp only [List.length_append, List.length_cons, List.length_nil] at this ⊢
      omega
theorem pathOk_len {s : ByteArray} (h : pathOk s = true) : s.size ≤ 23 := by
  simp only [pathOk, pathOkL, Bool.and_eq_true, decide_eq_true_eq, List.all_eq_true] at h
  have := cut_total (bl s) [] 5 (fun p hp => by have := h.1 p hp; simp [wordOk] at this; omega)
  change _ ≤ (cut (bl s)).length * 6 at this
  rw [bl_length] at this
  simp at this; omega
set_option maxHeartbeats 1000000 in
theorem parts_c (s : ByteArray) (w : World) (hs : s.size < lim) (hm : ML w) : Calls Tryd.prog 79 #[.string s] w (RetP (PartsV w.heap.size s) w) := by
  unfold lim at hs
  by_cases h23 : s.size ≤ 23
  · obtain ⟨m, hm⟩ := hm
    have HM := Lib.hid hm; clear hm
    have hsp := splitB_cut s
    have hlen := congrArg List.length hsp
    rw [List.length_map, Lib.splitB_all slashB (by decide) 0 _ s rfl] at hlen
    have hcl := cutG_length (bl s) []
    rw [bl_length] at hcl
    change (cut (bl s)).length ≤ _ at hcl
    have Hsp := Lib.hid hsp; clear hsp
    generalize hn : Lib.countB s slashB + 1 = n at *
    generalize hps : Lib.splitB slashB 0 (Lib.countB s slashB) s = ps at *
    have hc : ∀ W, Ext w W → Calls Tryd.prog 82 #[.string s, .string ⟨#[47]⟩] W fun e w' => e = .returned (.slice (some ⟨W.heap.size, 0, none⟩) n n) ∧ w' = W.alloc (.cells (ps.map Value.string).toArray 9) := fun W e => by
      have := Tryd.strings_Split s slashB _ W (by omega) (e.cell HM.out) (by decide)
      rw [hn, hps] at this; exact this
    have Hps := Lib.hid hps; clear hps
    have Hn := Lib.hid hn; clear hn
    have Hlen := Lib.hid hlen
    have hn24 : n ≤ 24 := by omega
    clear hlen hcl
    go_enter Tryd.func79, Tryd.ntmps79
    go_wp2_with (go_at_call 82; refine (hc _ (Ext.refl _)).mono ?_; rintro e w1 ⟨rfl, rfl⟩)
    · have h4 : (4 : Int) < (n : Int) := by assumption
      go_ret
      refine ⟨_, rfl, PartsV.none_ ?_, (Ext.refl w).alloc _⟩
      have := Hlen.out
      have h5 : ¬ (cut (bl s)).length ≤ 4 := by omega
      simp [pathOk, pathOkL, h5]
    · have h4' : (n : Int) ≤ 4 := by assumption
      have h4 : n ≤ 4 := by omega
      have he1 : Ext w (w.alloc (.cells (ps.map Value.string).toArray 9)) := (Ext.refl w).alloc _
      have hlp : ps.length = n := by have := congrArg List.length Hsp.out; rw [List.length_map] at this; rw [this, ← Hlen.out]
      have hA : SlIn w.heap.size 9 1 EStr (w.alloc (.cells (ps.map Value.string).toArray 9)) (some ⟨w.heap.size, 0, none⟩) n ps := by
        refine ⟨by omega, ⟨by unfold maxLen; omega, fun h => by cases h⟩, by unfold lim; omega, fun k x hk => ⟨w.heap.size, 0, _, rfl, Nat.le_refl _, Blk.new _ _ _, ?_, ?_⟩⟩
        · simp [hk]
        · have hx : bl x ∈ cut (bl s) := by rw [← Hsp.out]; exact List.mem_map.2 ⟨x, List.mem_of_getElem? hk, rfl⟩
          have := cutG_len (bl s) [] _ hx
          rw [bl_length, bl_length] at this
          simp at this; unfold lim; omega
      generalize w.alloc (.cells (ps.map Value.string).toArray 9) = w1 at *
      have HA := Lib.hid hA
      have Hst : Hid (Strs w.heap.size w1 (.slice (some ⟨w.heap.size, 0, none⟩) n n) ps) := Lib.hid ⟨_, n, by rw [hlp], hA⟩
      have Hlp := Lib.hid hlp
      clear hA hlp
      go_loopw [16] (fun i wr => ∃ k : Nat, k ≤ n ∧ i = .int .i64 k ∧ Ext w1 wr ∧ Hid (∀ j p, j < k → ps[j]? = some p → wordOk (bl p) = true)) (fun i _ => n - (RowKit.intOf i).toNat)
      case atStart => exact ⟨0, by omega, rfl, Ext.refl _, Lib.hid (fun j p h => absurd h (by omega))⟩
      case round =>
        obtain ⟨k, hk, rfl, he, hall⟩ := hrel
        by_cases hlt : k < n
        · obtain ⟨x, hx⟩ := get_of_lt (l := ps) (k := k) (by rw [Hlp.out]; exact hlt)
          obtain ⟨b, o, hbo, -, -, hxs, hcc⟩ := Strs.at_ HA.out hx
          simp only [Option.some.injEq, Addr.mk.injEq, and_true] at hbo
          obtain ⟨rfl, rfl⟩ := hbo
          have ha : ∀ W, Ext wr W → W.cell? ⟨w.heap.size, k, none⟩ = some (.string x) := fun W h => by have := hcc W (he.trans h); rwa [Nat.zero_add] at this
          have Hx := Lib.hid hx
          clear hcc hx
          go_wp2_with (go_at_call 83; refine (partValid_c _ _ hxs).mono ?_; rintro e w2 ⟨rfl, he2⟩)
          · have hw : wordOk (bl x) = false := not_true_of (by assumption)
            go_ret
            refine ⟨_, rfl, PartsV.none_ ?_, he1.trans (he.trans he2)⟩
            have : (cut (bl s)).all wordOk = false := by
              rw [← Hsp.out, List.all_eq_false]
              exact ⟨bl x, List.mem_map.2 ⟨x, List.mem_of_getElem? Hx.out, rfl⟩, by simp [hw]⟩
            simp [pathOk, pathOkL, this]
          · have hw : wordOk (bl x) = true := not_false_of (by assumption)
            have Hw := Lib.hid hw
            go_roundw
            case rel =>
              refine ⟨k + 1, by omega, by go_num, he.trans he2, Lib.hid fun j p hj hp => ?_⟩
              rcases Nat.lt_or_ge j k with h | h
              · exact hall.out j p h hp
              · have : j = k := by omega
                subst this
                rw [Hx.out] at hp
                rw [← Option.some.inj hp]; exact Hw.out
            case measure => simp [RowKit.intOf]; omega
        · have hks : k = n := by omega
          subst hks
          go_wp2
          go_ret
          refine ⟨_, rfl, ⟨ps, ?_, Hst.out.ext he⟩, he1.trans he⟩
          have h1 : (cut (bl s)).all wordOk = true := by
            rw [← Hsp.out, List.all_eq_true]
            intro q hq
            obtain ⟨p, hp, rfl⟩ := List.mem_map.1 hq
            obtain ⟨j, hj⟩ := List.mem_iff_getElem?.1 hp
            exact hall.out j p (by rw [← Hlp.out]; exact lt_of_get hj) hj
          have h2 : (cut (bl s)).length ≤ 4 := by rw [← Hlen.out]; exact h4
          rw [Hsp.out]
          simp [partsL, pathOk, pathOkL, h1, h2]
  · have hf : pathOk s = false := by
      cases hp : pathOk s with
      | false => rfl
      | true => exact absurd (pathOk_len hp) h23
    have Hf := Lib.hid hf
    have h23' : 23 < s.size := by omega
    clear hf h23
    go_enter Tryd.func79, Tryd.ntmps79
    go_wp2
    go_ret
    exact ⟨_, rfl, PartsV.none_ Hf.out, Ext.refl w⟩
theorem partsL_len {s : ByteArray} {n : Nat} (h : (partsL s).length = n) : decide (0 < n) = pathOk s := by
  subst h
  cases hp : pathOk s with
  | false => rw [partsL_bad hp]; rfl
  | true =>
    have : (partsL s).length ≠ 0 := by
      rw [partsL, if_pos hp]; intro e; exact cutG_ne _ _ (List.length_eq_zero_iff.1 e)
    rw [decide_eq_true_iff]; omega
set_option maxHeartbeats 1000000 in
theorem valid_c (s : ByteArray) (w : World) (hs : s.size < lim) (hm : ML w) : Calls Tryd.prog 68 #[.string s] w (Ret (.bool (pathOk s)) w) := by
  go_enter Tryd.func68, Tryd.ntmps68
  go_wp2_with (go_at_call 79; refine (parts_c s _ hs hm).mono ?_; rintro e w1 ⟨v, rfl, ⟨ps, hps, A, c, rfl, hA⟩, he1⟩; have Hps := Lib.hid hps; clear hps)
  go_ret
  refine ⟨ret_b (partsL_len ?_), he1⟩
  rw [← Hps.out, List.length_map]
set_option maxHeartbeats 1000000 in
theorem PathValid_c (s : ByteArray) (w : World) (hs : s.size < lim) (hm : ML w) : Calls Tryd.prog 61 #[.string s] w (Ret (.bool (pathOk s)) w) := by
  go_enter Tryd.func61, Tryd.ntmps61
  go_wp2_with (go_at_call 68; refine (valid_c s _ hs hm).mono ?_; rintro e w1 ⟨rfl, he1⟩)
  go_ret
  exact ⟨rfl, he1⟩
set_option maxHeartbeats 1000000 in
theorem PathParts_c (s : ByteArray) (w : World) (hs : s.size < lim) (hm : ML w) : Calls Tryd.prog 69 #[.string s] w (RetP (PartsV w.heap.size s) w) := by
  go_enter Tryd.func69, Tryd.ntmps69
  go_wp2_with (go_at_call 79; refine (parts_c s _ hs hm).mono ?_; rintro e w1 ⟨v, rfl, hp, he1⟩)
  go_ret
  exact ⟨_, rfl, hp, he1⟩
end Go.Sf

/-! The way from a node down to another one. -/
namespace Go.Sf
open Go Go.RowKit Go.Proofs
theorem has_name {l : List It} {k : Key} {m : List UInt8} : hasB (namesOf l k) (mkB m) = true ↔ isKey l (k ++ [m]) := by
  constructor
  · intro h
    unfold hasB at h
    rw [List.any_eq_true] at h
    obtain ⟨nm, hn, he⟩ := h
    rw [eqb_iff] at he
    subst he
    unfold namesOf at hn
    obtain ⟨x, hx, he⟩ := List.mem_map.1 hn
    refine .inr ⟨x, (mem_kids.1 hx).1, ?_⟩
    rw [name_kid hx, he]; rfl
  · rintro (h | ⟨x, hx, he⟩)
    · simp at h
    · have hk : x ∈ kidsOf l k := mem_kids.2 ⟨hx, by rw [he]; simp⟩
      unfold hasB
      rw [List.any_eq_true]
      refine ⟨nameOf (key x), List.mem_map.2 ⟨x, hk, rfl⟩, eqb_iff.2 ?_⟩
      rw [nameOf, he]; simp
theorem lb_has {nms : List ByteArray} {t : ByteArray} (hs : Asc nms) (h : hasB nms t = true) : nms[lbB nms t]? = some t := by
  unfold hasB at h
  rw [List.any_eq_true] at h
  obtain ⟨x, hx, he⟩ := h
  rw [eqb_iff] at he
  subst he
  obtain ⟨i, hi⟩ := List.mem_iff_getElem?.1 hx
  have : lbB nms x = i := lbB_of (Nat.le_of_lt (lt_of_get hi)) (fun k y hk hy => hs _ _ _ _ hy hi hk) (fun y hy => by rw [hi] at hy; rw [← Option.some.inj hy]; exact blt_irrefl _)
  rw [this, hi]
theorem namesOf_le (l : List It) (k : Key) : (namesOf l k).length ≤ l.length := by
  unfold namesOf kidsOf; rw [List.length_map]; exact List.length_filter_le _ _
section
variable {B : Nat} {w : World} {l : List It} {adr : Key → Nat} {kv : Key → Value}
set_option maxHeartbeats 1000000 in
theorem place_c (h : TreeAt B w l adr kv) (hg : Grow l) (hl : l.length ≤ lim) {k : Key} (hk : isKey l k) (t : ByteArray) :
    Calls Tryd.prog 63 #[.pointer (some ⟨adr k, 0, none⟩), .string t] w (Ret (.tuple #[.int .i64 (lbB (namesOf l k) t), .bool (hasB (namesOf l k) t)]) w) := by
  obtain ⟨A, c, hkv, hP⟩ := h.kids hk
  obtain ⟨dir, ids, ⟨hB, hO, u, hb, hu⟩, -⟩ := h.node hk
  rw [hkv] at hb
  have c3 := hb.cell 3
  simp at c3
  have hc := bsearch_c (c := c) t w hP (Nat.le_trans (namesOf_le l k) hl) (hg.asc_names k)
  have HC := Lib.hid hc
  clear hc hP hkv hb hu hO h hg
  generalize (namesOf l k).length = n at *
  go_enter Tryd.func63, Tryd.ntmps63
  go_wp2_with (go_at_call 71; refine HC.out.mono ?_; rintro e w1 ⟨rfl, he1⟩)
  go_ret2
  exact ⟨rfl, he1⟩
open Classical in
/-- what stands for a node, or nil -/
noncomputable def atV (l : List It) (adr : Key → Nat) (k : Key) : Value := if isKey l k then .pointer (some ⟨adr k, 0, none⟩) else .pointer none
theorem atV_yes {k : Key} (h : isKey l k) : atV l adr k = .pointer (some ⟨adr k, 0, none⟩) := by unfold atV; rw [if_pos h]
theorem atV_no {k : Key} (h : ¬ isKey l k) : atV l adr k = .pointer none := by unfold atV; rw [if_neg h]
theorem ret_v {a b : Value} (h : a = b) : Ending.returned a = .returned b := by rw [h]
set_option maxHeartbeats 1000000 in
theorem at_c (h : TreeAt B w l adr kv) (hg : Grow l) (hl : l.length ≤ lim) {k : Key} (hk : isKey l k) {B' : Nat} {v : Value} {ps : List ByteArray} (hv : Strs B' w v ps) :
    Calls Tryd.prog 70 #[.pointer (some ⟨adr k, 0, none⟩), v] w (Ret (atV l adr (k ++ ps.map bl)) w) := by
  obtain ⟨A, c, rfl, hA⟩ := hv
  have hpl := hA.2.2.1
  unfold lim at hpl
  have HA := Lib.hid hA; clear hA
  have H := Lib.hid h; clear h
  have HG := Lib.hid hg; clear hg
  have Hk := Lib.hid hk; clear hk
  generalize hn : ps.length = n at *
  have Hn := Lib.hid hn; clear hn
  go_enter Tryd.func70, Tryd.ntmps70
  go_wp2
  go_loopw [0, 11] (fun p i wr => ∃ j : Nat, j ≤ n ∧ i = .int .i64 j ∧ p = .pointer (some ⟨adr (k ++ (ps.take j).map bl), 0, none⟩) ∧ Ext w wr ∧ Hid (isKey l (k ++ (ps.take j).map bl))) (fun _ i _ => n - (RowKit.intOf i).toNat)
  case atStart => exact ⟨0, by omega, rfl, by simp, Ext.refl w, Lib.hid (by simpa using Hk.out)⟩
  case round =>
    obtain ⟨j, hj, rfl, rfl, he, hkey⟩ := hrel
    by_cases hlt : j < n
    · obtain ⟨x, hx⟩ := get_of_lt (l := ps) (k := j) (by rw [Hn.out]; exact hlt)
      obtain ⟨b, o, rfl, -, -, hxs, hcc⟩ := Strs.at_ HA.out hx
      have ha := fun W (h : Ext wr W) => hcc W (he.trans h)
      have Hx : Hid ((ps.take (j + 1)).map bl = (ps.take j).map bl ++ [bl x]) := Lib.hid (by rw [List.take_add_one, hx]; simp)
      clear hcc hx
      generalize hq : k ++ (ps.take j).map bl = q at *
      have Hq := Lib.hid hq; clear hq
      have hasc := HG.out.asc_names q
      cases hh : hasB (namesOf l q) x with
      | false =>
        have C : ∀ W, Ext wr W → Calls Tryd.prog 63 #[.pointer (some ⟨adr q, 0, none⟩), .string x] W (Ret (.tuple #[.int .i64 (lbB (namesOf l q) x), .bool false]) W) := fun W e => by
          rw [← hh]; exact place_c (H.out.ext (he.trans e)) HG.out hl hkey.out x
        have Hno : Hid (¬ isKey l (k ++ ps.map bl)) := Lib.hid fun hf => by
          have hp : q ++ [bl x] <+: k ++ ps.map bl := by
            rw [← Hq.out, List.append_assoc, ← Hx.out]
            exact List.prefix_append_right_inj _ |>.2 ((List.take_prefix _ _).map bl)
          have := has_name.2 (HG.out.prefix_ _ hf _ hp)
          rw [mkB_bl, hh] at this; cases this
        clear hh hasc
        go_wp2_with (go_at_call 63; refine (C _ (by first | assumption | exact Ext.refl _)).mono ?_; rintro e w2 ⟨rfl, he2⟩)
        go_ret
        exact ⟨ret_v (atV_no Hno.out).symm, he.trans he2⟩
      | true =>
        have hnm := lb_has hasc hh
        have C : ∀ W, Ext wr W → Calls Tryd.prog 63 #[.pointer (some ⟨adr q, 0, none⟩), .string x] W (Ret (.tuple #[.int .i64 (lbB (namesOf l q) x), .bool true]) W) := fun W e => by
          rw [← hh]; exact place_c (H.out.ext (he.trans e)) HG.out hl hkey.out x
        have hkey2 := has_name.1 (by rw [mkB_bl]; exact hh : hasB (namesOf l q) (mkB (bl x)) = true)
        have hle := lt_of_get hnm
        generalize lbB (namesOf l q) x = i at *
        obtain ⟨Ak, ck, hkv, hP⟩ := (H.out.ext he).kids hkey.out
        obtain ⟨ab, ao, pb, hpb, hAe, h1, -⟩ := hP i x hnm
        subst hAe
        have hpe : pb = adr (q ++ [bl x]) := by
          unfold namesOf at hnm
          rw [List.getElem?_map, Option.map_eq_some_iff] at hnm hpb
          obtain ⟨y, hy, hyn⟩ := hnm
          obtain ⟨z, hz, rfl⟩ := hpb
          rw [hy] at hz
          rw [← Option.some.inj hz, name_kid (List.mem_of_getElem? hy), hyn]
        subst hpe
        obtain ⟨dir, ids, ⟨hB, hO, u, hb, hu⟩, -⟩ := (H.out.ext he).node hkey.out
        rw [hkv] at hb
        have c3 := hb.at_ (i := 3) (u := .slice (some ⟨ab, ao, none⟩) (namesOf l q).length ck) rfl
        have hnl := namesOf_le l q
        unfold lim at hl
        generalize (namesOf l q).length = nn at *
        have Hk2 := Lib.hid hkey2
        clear hh hasc hnm hkey2 hP hkv hb hu hO hpb
        go_wp2_with (go_at_call 63; refine (C _ (by first | assumption | exact Ext.refl _)).mono ?_; rintro e w2 ⟨rfl, he2⟩)
        go_roundw
        case rel => exact ⟨j + 1, by omega, by go_num, by rw [Hx.out, ← List.append_assoc, Hq.out], he.trans he2, Lib.hid (by rw [Hx.out, ← List.append_assoc, Hq.out]; exact Hk2.out)⟩
        case measure => simp [RowKit.intOf]; omega
    · have hjs : j = n := by omega
      subst hjs
      have e : ps.take j = ps := List.take_of_length_le (by rw [Hn.out]; omega)
      have hke := hkey.out
      rw [e] at hke ⊢
      have Hke := Lib.hid hke
      clear hke hkey
      go_wp2
      go_ret
      exact ⟨ret_v (atV_yes Hke.out).symm, he⟩
end
end Go.Sf

/-! The directory that a path is in; the node with a path. -/
namespace Go.Sf
open Go Go.RowKit Go.Proofs
theorem SlIn.take {α : Type} {B : Nat} {t : TypeId} {sz : Nat} {E : World → Array Value → Nat → α → Prop} {w : World} {A : Option Addr} {c : Nat} {l : List α} (h : SlIn B t sz E w A c l) (j : Nat) : SlIn B t sz E w A c (l.take j) := by
  obtain ⟨h1, h2, h3, h4⟩ := h
  have := List.length_take_le j l
  have := List.length_take_le' j l
  exact ⟨by omega, h2, by omega, fun k x hx => h4 k x (by rw [List.getElem?_take] at hx; split at hx <;> first | exact hx | cases hx)⟩
/-- a directory: the root, or an item that is one -/
def isDir (l : List It) (k : Key) : Prop := k = [] ∨ ∃ z, z ∈ l ∧ key z = k ∧ z.dir = true
theorem isDir.key {l : List It} {k : Key} (h : isDir l k) : isKey l k := h.imp_right fun ⟨z, h1, h2, _⟩ => ⟨z, h1, h2⟩
/-- p is a path, and its parent a directory -/
def inDir (l : List It) (p : ByteArray) : Prop := pathOk p = true ∧ isDir l (cut (bl p)).dropLast
def lastB (p : ByteArray) : ByteArray := mkB ((cut (bl p)).getLastD [])
open Classical in
noncomputable def dirOfV (l : List It) (adr : Key → Nat) (p : ByteArray) : Value :=
  if inDir l p then .tuple #[.pointer (some ⟨adr (cut (bl p)).dropLast, 0, none⟩), .string (lastB p)] else .tuple #[.pointer none, .string ⟨#[]⟩]
theorem dirOfV_yes {l : List It} {adr : Key → Nat} {p : ByteArray} (h : inDir l p) : dirOfV l adr p = .tuple #[.pointer (some ⟨adr (cut (bl p)).dropLast, 0, none⟩), .string (lastB p)] := by unfold dirOfV; rw [if_pos h]
theorem dirOfV_no {l : List It} {adr : Key → Nat} {p : ByteArray} (h : ¬ inDir l p) : dirOfV l adr p = .tuple #[.pointer none, .string ⟨#[]⟩] := by unfold dirOfV; rw [if_neg h]
section
variable {B : Nat} {w : World} {l : List It} {adr : Key → Nat} {kv : Key → Value}
set_option maxHeartbeats 1000000 in
theorem dirOf_c (h : TreeAt B w l adr kv) (hg : Grow l) (hl : l.length ≤ lim) (p : ByteArray) (hp : p.size < lim) (hm : ML w) :
    Calls Tryd.prog 62 #[.pointer (some ⟨adr [], 0, none⟩), .string p] w (Ret (dirOfV l adr p) w) := by
  have H := Lib.hid h; clear h
  have HG := Lib.hid hg; clear hg
  have HM := Lib.hid hm; clear hm
  have Hl := Lib.hid hl; clear hl
  cases hok : pathOk p with
  | false =>
    have Hno := Lib.hid (dirOfV_no (l := l) (adr := adr) (p := p) (fun h => by rw [h.1] at hok; cases hok))
    have Hpl := Lib.hid (partsL_bad hok)
    clear hok
    go_enter Tryd.func62, Tryd.ntmps62
    go_wp2_with (go_at_call 69; refine (PathParts_c p _ hp HM.out).mono ?_; rintro e w1 ⟨v, rfl, ⟨ps, hps, hS⟩, he1⟩; rw [Hpl.out, List.map_eq_nil_iff] at hps; subst hps; obtain ⟨A, c, rfl, hA⟩ := hS; have HA := Lib.hid hA; clear hA)
    go_ret2
    exact ⟨ret_v Hno.out.symm, he1⟩
  | true =>
    have hpe : partsL p = cut (bl p) := by rw [partsL, if_pos hok]
    have Hok := Lib.hid hok
    have Hpe := Lib.hid hpe
    clear hok hpe
    go_enter Tryd.func62, Tryd.ntmps62
    go_wp2_with fail
    refine (PathParts_c p _ hp HM.out).mono ?_
    rintro e w1 ⟨v, rfl, ⟨ps, hps, A, c, rfl, hA⟩, he1⟩
    rw [Hpe.out] at hps
    have hl4 : ps.length ≤ 4 := by
      have h1 := congrArg List.length hps
      rw [List.length_map] at h1
      have h2 := Hok.out
      simp only [pathOk, pathOkL, Bool.and_eq_true, decide_eq_true_eq] at h2
      omega
    have hne : ps ≠ [] := by rintro rfl; exact cutG_ne _ _ hps.symm
    obtain ⟨qs, x, rfl⟩ : ∃ qs x, ps = qs ++ [x] := ⟨ps.dropLast, ps.getLast hne, (List.dropLast_concat_getLast hne).symm⟩
    have hq1 : (cut (bl p)).dropLast = qs.map bl := by rw [← hps]; simp
    have hq2 : lastB p = x := by rw [lastB, ← hps]; simp [mkB_bl]
    have hx : (qs ++ [x])[qs.length]? = some x := by simp
    obtain ⟨b, o, rfl, -, -, hxs, hcc⟩ := Strs.at_ hA hx
    have hS : Strs w.heap.size w1 (.slice (some ⟨b, o, none⟩) qs.length c) qs := ⟨_, c, rfl, by have := hA.take qs.length; simpa using this⟩
    have hqc : qs.length + 1 ≤ c := by have := hA.1; simpa using this
    have hcm := hA.2.1.1
    unfold maxLen at hcm
    simp only [List.length_append, List.length_singleton] at hl4 ⊢
    have Hq1 := Lib.hid hq1
    have Hq2 := Lib.hid hq2
    have HS := Lib.hid hS
    generalize hm : qs.length = m at *
    have Hm := Lib.hid hm
    clear hps hne hq1 hq2 hx hS hA hm Hpe
    have hwm : IntKind.i64.wrap ((m : Int) + 1 - 1) = (m : Int) := by rw [IntWalk.i64_in _ (by omega)]; omega
    have hca : ∀ W, Ext w1 W → Calls Tryd.prog 70 #[.pointer (some ⟨adr [], 0, none⟩), .slice (some ⟨b, o, none⟩) m c] W (Ret (atV l adr (qs.map bl)) W) := fun W e => by
      have := at_c (H.out.ext (he1.trans e)) HG.out Hl.out (.inl rfl) (HS.out.ext e)
      rwa [List.nil_append] at this
    have Hca := Lib.hid hca
    clear hca
    by_cases hk : isKey l (qs.map bl)
    · have Hat := Lib.hid (atV_yes (adr := adr) hk)
      obtain ⟨dir, ids, ⟨-, -, u, hb, -⟩, hd⟩ := H.out.node hk
      have b1 := fun W (e : Ext w W) => hb.at_ (i := 1) (u := .bool dir) rfl W e
      have Hd : Hid (inDir l p ↔ dir = true) := Lib.hid (by
        unfold inDir isDir
        rw [Hq1.out]
        refine ⟨fun h => ?_, fun h => ⟨Hok.out, ?_⟩⟩
        · rcases hd with ⟨h0, rfl, -⟩ | ⟨z, hz, h0, rfl, -⟩
          · rfl
          · rcases h.2 with h1 | ⟨y, hy, h1, h2⟩
            · rw [h1] at h0; exact absurd h0 (key_ne z)
            · rw [HG.out.inj hz hy (key_path (h0.trans h1.symm))]; exact h2
        · rcases hd with ⟨h0, -, -⟩ | ⟨z, hz, h0, rfl, -⟩
          · exact .inl h0
          · exact .inr ⟨z, hz, h0, h⟩)
      have Hb1 := Lib.hid b1
      clear hk hb hd b1
      cases dir with
      | false =>
        have Hno := Lib.hid (dirOfV_no (l := l) (adr := adr) (p := p) (fun h => by have := Hd.out.1 h; cases this))
        go_wp2_with fail
        refine (Hca.out _ (Ext.refl _)).mono ?_
        rw [Hat.out]
        rintro e w2 ⟨rfl, he2⟩
        have c1 := Hb1.out w2 (he1.trans he2)
        go_wp2
        go_ret2
        exact ⟨ret_v Hno.out.symm, he1.trans he2⟩
      | true =>
        have Hyes := Lib.hid (dirOfV_yes (l := l) (adr := adr) (p := p) (Hd.out.2 rfl))
        rw [Hq1.out, Hq2.out] at Hyes
        go_wp2_with fail
        refine (Hca.out _ (Ext.refl _)).mono ?_
        rw [Hat.out]
        rintro e w2 ⟨rfl, he2⟩
        have c1 := Hb1.out w2 (he1.trans he2)
        have cx := fun W (e : Ext w2 W) => hcc W (he2.trans e)
        clear hcc
        go_wp2
        clear hwm
        have hmm : (m : Int) < (m : Int) + 1 := by omega
        refine wp_region_ext (by kernel_rfl) (by kernel_rfl) ?_
        repeat (first | (apply q_plain rfl; (· intro W eW; go_simp; (first | done | rfl | (rw [if_pos] <;> first | omega | rfl))); (try simp only [Act.put, List.setIfInBounds_toArray, List.set_cons_zero, List.set_cons_succ])) | (refine qg_skip (by rfl) ?_; (try simp only [Act.put, List.setIfInBounds_toArray, List.set_cons_zero, List.set_cons_succ])) | (apply qg_plain (by rfl); (· intro W eW; go_simp; (first | done | rfl | (rw [if_pos] <;> first | omega | rfl))); (try simp only [Act.put, List.setIfInBounds_toArray, List.set_cons_zero, List.set_cons_succ])))
        refine q_nil ?_
        intro w3 e3
        go_wp2
        go_ret2
        exact ⟨ret_v Hyes.out.symm, (he1.trans he2).trans e3⟩
    · have Hat := Lib.hid (atV_no (adr := adr) hk)
      have Hno := Lib.hid (dirOfV_no (l := l) (adr := adr) (p := p) (fun h => hk (by rw [← Hq1.out]; exact h.2.key)))
      clear hk
      go_wp2_with fail
      refine (Hca.out _ (Ext.refl _)).mono ?_
      rw [Hat.out]
      rintro e w2 ⟨rfl, he2⟩
      go_wp2
      go_ret2
      exact ⟨ret_v Hno.out.symm, he1.trans he2⟩
end
end Go.Sf

/-! slices.Insert behind the last node. -/
namespace Go.Sf
open Go Go.RowKit Go.Proofs
theorem lt_of_getx {α : Type} {l : List α} {k : Nat} {x : α} (h : l[k]? = some x) : k < l.length := by
  rcases Nat.lt_or_ge k l.length with hlt | hge
  · exact hlt
  · rw [List.getElem?_eq_none hge] at h; cases h
theorem el_Ptr : Elem Tryd.prog 58 41 1 :=
  elem_of (z := .pointer none) (b := 8) Tryd.underlying58 (by kernel_rfl) (by decide) rfl (by decide)
/-- what an append to a row of one's own leaves, its block told -/
def GrownV {α : Type} (B : Nat) (t : TypeId) (sz : Nat) (E : World → Array Value → Nat → α → Prop) (w : World) (v : Value) (l : List α) (e : Ending) (w' : World) : Prop :=
  ∃ v', e = .returned v' ∧ OwnS B t sz E w' v' l ∧ w.grownBy w' v.ownBlock ∧ (v'.ownBlock = v.ownBlock ∨ v'.ownBlock = some w.heap.size)
theorem wp_apAt {P : Program} {ops : Array Oper} {rest : List Oper} {o : Oper} {a : Act} {Q : Exit → Act → World → Prop} {W : World} {T t B : Nat} {α : Type} {E : World → Array Value → Nat → α → Prop} (hgd : o.guard = none) (s x : Operand)
    (ho : o.op = .call { callee := .builtin .append, args := #[s, x], argTypes := #[T, T] })
    (el : Elem P T t 1) (ok : ElOk t 1 E) (hB : B ≤ W.heap.size) (v : Value) (l : List α) (y : α) (hs : a.eval s = v) (hown : OwnS B t 1 E W v l)
    (ad : Addr) (c : Nat) (u : Value) (hx : a.eval x = .slice (some ad) 1 c) (hc : W.cell? (ad.add 0) = some u) (h1 : u.oneCell' = true) (hE : E W #[u] 0 y) (hl : l.length + 1 ≤ lim)
    (h : ∀ v' w', OwnS B t 1 E w' v' (l ++ [y]) → W.grownBy w' v.ownBlock → (v'.ownBlock = v.ownBlock ∨ v'.ownBlock = some W.heap.size) → wpList P ops Q rest (a.put o.dst v') w') : wpList P ops Q (o :: rest) a W := by
  obtain ⟨i, z, by_, hi, hz, hsz, hby, hb128, hzs⟩ := el.info
  obtain ⟨xs, hrow, hxs⟩ := hown
  have hlim : (l.length + 1) * by_ ≤ 140737488355328 := by
    unfold lim at hl
    have : (l.length + 1) * by_ ≤ 4194304 * 128 := Nat.mul_le_mul hl hb128
    omega
  refine wpList_append_own_at W hgd s x T ho B t i z 1 by_ el.under hi hz hsz hby hzs el.pos v l.length xs hs hrow ad 1 c [u] hx rfl
    (fun j q hj => ?_) (fun q hq => by rw [List.mem_singleton.1 hq]; exact h1) (by unfold lim at hl; unfold maxLen; omega) hlim hB ?_
  · cases j with
    | zero => rw [← hj]; simpa using hc
    | succ j => simp at hj
  intro v' w' ho' hg _ hv'
  refine h v' w' ⟨xs ++ [u], by simpa using ho', ?_⟩ hg hv'
  intro k q hk
  have hxl : xs.length = l.length * 1 := hrow.1
  rw [Nat.mul_one] at hxl
  have hkt := grown_keepsT hrow hg
  by_cases hlt : k < l.length
  · rw [List.getElem?_append_left hlt] at hk
    refine ok.loc _ _ _ _ _ _ (fun j hj => ?_) (ok.keepT _ _ _ _ _ hkt (hxs k q hk))
    rw [List.getElem?_toArray, List.getElem?_toArray, List.getElem?_append_left (by omega)]
  · rw [List.getElem?_append_right (by omega)] at hk
    have hk0 : k - l.length = 0 := by
      have := lt_of_getx hk; simp at this; omega
    rw [hk0] at hk
    simp at hk
    subst hk
    refine ok.loc _ _ _ _ _ _ (fun j hj => ?_) (ok.keepT _ _ _ _ _ hkt hE)
    rw [List.getElem?_toArray, List.getElem?_append_right (by omega)]
    have : k * 1 + j - xs.length = j := by omega
    rw [this, Nat.zero_add]
    have : j = 0 := by omega
    subst this; rfl
set_option maxHeartbeats 1000000 in
theorem Insert_end_c {B : Nat} {w : World} {v : Value} {bs : List Nat} {b : Nat} {ad : Addr} (hB : B ≤ w.heap.size) (hO : OwnS B 41 1 EPtr w v bs) (hl : bs.length < lim)
    (hc : w.cell? (ad.add 0) = some (.pointer (some ⟨b, 0, none⟩))) :
    Calls Tryd.prog 64 #[v, .int .i64 bs.length, .slice (some ad) 1 1] w (GrownV B 41 1 EPtr w v (bs ++ [b])) := by
  have HO := Lib.hid hO
  obtain ⟨A, c, rfl⟩ := hO.form
  have hcap : bs.length ≤ c ∧ c ≤ maxLen := by
    obtain ⟨xs, ⟨-, h⟩, -⟩ := hO
    rcases h with ⟨h, hn⟩ | ⟨g, cap, cur, h, -, -, h1, h2, -⟩
    · injection h with _ _ h3; subst h3; rw [hn]; exact ⟨Nat.le_refl _, Nat.zero_le _⟩
    · injection h with _ _ h3; subst h3; exact ⟨h1, h2⟩
  have hlim := hl
  unfold lim at hlim
  have Hc := Lib.hid hc
  obtain ⟨hc1, hc2⟩ := hcap
  have Hl := Lib.hid hl
  clear hc hO hl
  generalize hn : bs.length = n at *
  have Hn := Lib.hid hn; clear hn
  have hnn : (n == n) = true := beq_self_eq_true n
  go_enter Tryd.func64, Tryd.ntmps64
  go_wp2_with (at_builtin; go_must (refine wp_apAt (by rfl) _ _ (by rfl) el_Ptr eptr_ok hB (.slice A n c) bs b (by rfl) HO.out ad 1 (.pointer (some ⟨b, 0, none⟩)) (by rfl) Hc.out rfl rfl ?_ ?_))
  · have := Hl.out
    rw [Hn.out]; omega
  all_goals
    intro v' w' h1 h2 h3
    have H1 := Lib.hid h1
    have H2 := Lib.hid h2
    have H3 := Lib.hid h3
    clear h1 h2 h3
    go_wp2
    go_ret
    exact ⟨_, rfl, H1.out, by have := H2.out; cases A <;> exact this, by have := H3.out; cases A <;> exact this⟩
end Go.Sf
