/- Blocks put into a store, files cut and stored: plain. -/
import Derived.Test.YtpldhlpegpgmcaaDoorGT
import Derived.Test.YtpldhlpegpgmcaaDoorHF
import Derived.Test.YtpldhlpegpgmcaaDoorHE
/-! Blocks put into a store, files cut and stored: plain. -/
namespace Go.Sf
open Go Go.RowKit
def fileOk (bs : List Int) : Bool := bs.all byteOk && decide (bs.length ≤ 32)
def likeIs (bs : List Int) (h : Hd) : Bool := eqb h.bytes bs
def likeAt (l : List Hd) (bs : List Int) : Int := atG (likeIs bs) l 0
def freeGo (l : List Hd) : Nat → Int → Int
  | 0, i => i
  | n + 1, i => if 0 ≤ hAt l i then freeGo l n (i + 1) else i
/-- the least id that no block has -/
def freeId (l : List Hd) : Int := freeGo l 100 1
/-- a block put at its place -/
def withHd (x : Hd) : List Hd → List Hd
  | [] => [x]
  | y :: r => if x.id < y.id then x :: y :: r else y :: withHd x r
def moreOne (y : Hd) : Hd := { y with uses := y.uses + 1 }
/-- a store with a block more, or used once more; and its id -/
def putSt (l : List Hd) (bs : List Int) : List Hd × Int := match l.find? (likeIs bs) with
  | some y => (l.set (likeAt l bs).toNat (moreOne y), y.id)
  | none => (withHd ⟨freeId l, bs, 1⟩ l, freeId l)
noncomputable def storePut (l : List Hd) (bs : List Int) : Option (List Hd × Int) :=
  if storeOk l = true ∧ blockOk bs = true ∧ storeOk (putSt l bs).1 = true then some (putSt l bs) else none
/-- the blocks of a file -/
def cutB (bs : List Int) : List (List Int) := (List.range ((bs.length + 7) / 8)).map fun k => (bs.drop (8 * k)).take 8
noncomputable def putBs : List Hd → List (List Int) → Option (List Hd × List Int)
  | l, [] => some (l, [])
  | l, b :: r => (storePut l b).bind fun p => (putBs p.1 r).map fun q => (q.1, p.2 :: q.2)
noncomputable def fileStore (l : List Hd) (bs : List Int) : Option (List Hd × List Int) := if storeOk l = true ∧ fileOk bs = true then putBs l (cutB bs) else none
/-- a store and a tree with a file written -/
noncomputable def writeT (s : List Hd) (t : List It) (p : ByteArray) (bs : List Int) : Option (List Hd × List It) :=
  (fileStore s bs).bind fun q => (treePut t ⟨p, false, q.2⟩).map fun t' => ((fileOf t p).elim q.1 fun x => (freeAll q.1 x.ids).getD [], t')
noncomputable def volWrite (s : List Hd) (t : List It) (p : ByteArray) (bs : List Int) : Option (List Hd × List It) := if volOk s t = true ∧ fileOk bs = true then writeT s t p bs else none
theorem withHd_len (x : Hd) : ∀ l : List Hd, (withHd x l).length = l.length + 1 := by
  intro l
  induction l with
  | nil => rfl
  | cons y r ih => unfold withHd; split <;> simp [ih]
theorem freeGo_stop {l : List Hd} {n : Nat} {i : Int} (h : ¬ 0 ≤ hAt l i) : freeGo l n i = i := by
  cases n with
  | zero => rfl
  | succ n => unfold freeGo; rw [if_neg h]
theorem freeGo_go {l : List Hd} {n : Nat} {i : Int} (h : 0 ≤ hAt l i) : freeGo l (n + 1) i = freeGo l n (i + 1) := by
  rw [freeGo, if_pos h]
theorem hAt_in {l : List Hd} {i : Int} (h : 0 ≤ hAt l i) : ∃ x, x ∈ l ∧ x.id = i := by
  rcases atG_find (idIs i) l 0 with ⟨-, h2⟩ | ⟨k, y, h1, h2, -, -, -⟩
  · rw [hAt, h2] at h; omega
  · exact ⟨y, List.mem_of_getElem? h1, by simpa [idIs, eqb_iff] using h2⟩
theorem hAt_high {l : List Hd} (h : StoreOk l) {i : Int} (hi : 0 ≤ hAt l i) : 1 ≤ i ∧ i ≤ 99 := by
  obtain ⟨x, hx, rfl⟩ := hAt_in hi
  obtain ⟨k, hk⟩ := List.mem_iff_getElem?.1 hx
  exact (hd_ok (h.2 k x hk).1).1
theorem freeGo_range {l : List Hd} (_h : StoreOk l) : ∀ (n : Nat) (i : Int), 1 ≤ i → i + n ≤ 101 → 1 ≤ freeGo l n i ∧ freeGo l n i ≤ 101 := by
  intro n
  induction n with
  | zero => intro i h1 h2; exact ⟨h1, by simp only [freeGo]; omega⟩
  | succ n ih =>
    intro i h1 h2
    unfold freeGo
    split
    · exact ih (i + 1) (by omega) (by omega)
    · exact ⟨h1, by omega⟩
theorem freeId_range {l : List Hd} (h : StoreOk l) : 1 ≤ freeId l ∧ freeId l ≤ 101 := freeGo_range h 100 1 (by omega) (by omega)
theorem cutB_take (bs : List Int) (k : Nat) (hk : k < (bs.length + 7) / 8) : (cutB bs).take (k + 1) = (cutB bs).take k ++ [(bs.drop (8 * k)).take 8] := by
  rw [List.take_add_one]
  congr 1
  unfold cutB
  rw [List.getElem?_map, List.getElem?_range hk]; rfl
theorem cutB_len (bs : List Int) : (cutB bs).length = (bs.length + 7) / 8 := by simp [cutB]
theorem putBs_step {l : List Hd} {b : List Int} {r : List (List Int)} : putBs l (b :: r) = (storePut l b).bind fun p => (putBs p.1 r).map fun q => (q.1, p.2 :: q.2) := rfl
end Go.Sf

/-! The reference cuts files, and looks for blocks and for ids. -/
namespace Go.Sf
open Go Go.RowKit Go.Proofs
set_option maxHeartbeats 1000000 in
theorem specFileValid_c {B : Nat} {v : Value} {bs : List Int} (w : World) (h : Ints B w v bs) : Calls Tryd.prog 47 #[v] w (Ret (.bool (fileOk bs)) w) := by
  obtain ⟨A, c, rfl, hA⟩ := h
  have hl := hA.2.2.1
  unfold lim at hl
  generalize hn : bs.length = n at *
  have Hn := Lib.hid hn; clear hn
  have HA := Lib.hid hA; clear hA
  go_enter Tryd.func47, Tryd.ntmps47
  go_wp2
  go_loopw [3] (fun i wr => ∃ k : Nat, k ≤ n ∧ i = .int .i64 k ∧ Ext w wr ∧ Hid ((bs.take k).all byteOk = true)) (fun i _ => n - (RowKit.intOf i).toNat)
  case atStart => exact ⟨0, by omega, rfl, Ext.refl _, Lib.hid rfl⟩
  case round =>
    obtain ⟨k, hk, rfl, he, hall⟩ := hrel
    by_cases hlt : k < n
    · obtain ⟨x, hx⟩ := get_of_lt (l := bs) (k := k) (by rw [Hn.out]; exact hlt)
      obtain ⟨b, o, rfl, -, -, -, hc⟩ := Ints.at_ HA.out hx
      have a0 := hc wr he
      have Hx := Lib.hid hx
      have Cl := l6In_c x 0 255 wr
      clear hc hx
      cases hb : inB x 0 255 with
      | false =>
        rw [hb] at Cl
        have Hr : Hid (fileOk bs = false) := Lib.hid (by unfold fileOk; rw [all_bad Hx.out hb]; rfl)
        clear hb hall
        go_wp2_with (go_at_call 22; refine Cl.mono ?_; rintro e w2 ⟨rfl, he2⟩)
        go_ret
        exact ⟨ret_b Hr.out.symm, he.trans he2⟩
      | true =>
        rw [hb] at Cl
        have Hr := Lib.hid (all_take hall.out Hx.out hb)
        clear hb hall
        go_wp2_with (go_at_call 22; refine Cl.mono ?_; rintro e w2 ⟨rfl, he2⟩)
        go_roundw
        case rel => exact ⟨k + 1, by omega, by go_num, he.trans he2, Hr⟩
        case measure => simp [RowKit.intOf]; omega
    · have hks : k = n := by omega
      subst hks
      have Hr : Hid (fileOk bs = decide (k ≤ 32)) := Lib.hid (by unfold fileOk; rw [all_end hall.out Hn.out, Hn.out]; rfl)
      clear hall
      by_cases h4 : k ≤ 32
      · have h4' : ((k : Int) ≤ 32) := by omega
        go_wp2
        go_ret
        exact ⟨ret_b (by rw [Hr.out]; simp [h4]), he⟩
      · have h4' : ¬ ((k : Int) ≤ 32) := by omega
        go_wp2
        go_ret
        exact ⟨ret_b (by rw [Hr.out]; simp [h4]), he⟩
set_option maxHeartbeats 1000000 in
theorem l3Like_c {B B' : Nat} {v vb : Value} {l : List Hd} {bs : List Int} (w : World) (h : Hds B w v l) (hb : Ints B' w vb bs) : Calls Tryd.prog 76 #[v, vb] w (Ret (.int .i64 (likeAt l bs)) w) := by
  have HB := Lib.hid hb
  obtain ⟨Ab, cb, rfl, -⟩ := hb
  obtain ⟨A, c, rfl, hA⟩ := h
  have hl := hA.2.2.1
  unfold lim at hl
  generalize hn : l.length = n at *
  have Hn := Lib.hid hn; clear hn
  have HA := Lib.hid hA; clear hA
  go_enter Tryd.func76, Tryd.ntmps76
  go_wp2
  go_loopw [5] (fun i wr => ∃ k : Nat, k ≤ n ∧ i = .int .i64 k ∧ Ext w wr ∧ Hid (likeAt l bs = atG (likeIs bs) (l.drop k) k)) (fun i _ => n - (RowKit.intOf i).toNat)
  case atStart => exact ⟨0, by omega, rfl, Ext.refl _, Lib.hid (by simp [likeAt])⟩
  case round =>
    obtain ⟨k, hk, rfl, he, hr⟩ := hrel
    by_cases hlt : k < n
    · obtain ⟨x, hx⟩ := get_of_lt (l := l) (k := k) (by rw [Hn.out]; exact hlt)
      obtain ⟨b, o, u, rfl, -, -, -, hu, -, -, hc1, -⟩ := Hds.at_ HA.out hx
      have a1 := hc1 wr he
      have Cl := spec_l2Same_c wr (hu.ext he) (HB.out.ext he)
      obtain ⟨Au, cu, rfl, -⟩ := hu
      have hd := drop_cons hx
      cases hxp : eqb x.bytes bs with
      | true =>
        rw [hxp] at Cl
        have Hr : Hid (likeAt l bs = (k : Int)) := Lib.hid (by rw [hr.out, hd, atG, if_pos (by rw [likeIs, hxp])])
        clear hr hd hx hc1 hxp
        go_wp2_with (go_at_call 24; refine Cl.mono ?_; rintro e w2 ⟨rfl, he2⟩)
        go_ret
        exact ⟨ret_i Hr.out.symm, he.trans he2⟩
      | false =>
        rw [hxp] at Cl
        have Hr : Hid (likeAt l bs = atG (likeIs bs) (l.drop (k + 1)) (k + 1)) := Lib.hid (by rw [hr.out, hd, atG, if_neg (by rw [likeIs, hxp]; simp)])
        clear hr hd hx hc1 hxp
        go_wp2_with (go_at_call 24; refine Cl.mono ?_; rintro e w2 ⟨rfl, he2⟩)
        go_roundw
        case rel => exact ⟨k + 1, by omega, by go_num, he.trans he2, Hr⟩
        case measure => simp [RowKit.intOf]; omega
    · have hks : k = n := by omega
      subst hks
      have Hr : Hid (likeAt l bs = -1) := Lib.hid (by rw [hr.out, List.drop_eq_nil_of_le (by rw [Hn.out]; exact Nat.le_refl _)]; rfl)
      clear hr
      go_wp2
      go_ret
      exact ⟨ret_i Hr.out.symm, he⟩
set_option maxHeartbeats 1000000 in
theorem l3Free_c {B : Nat} {v : Value} {l : List Hd} (w : World) (h : Hds B w v l) (hS : StoreOk l) : Calls Tryd.prog 77 #[v] w (Ret (.int .i64 (freeId l)) w) := by
  have H := Lib.hid h; have HS := Lib.hid hS
  clear h hS
  go_enter Tryd.func77, Tryd.ntmps77
  go_wp2
  go_loopw [3] (fun i wr => ∃ k : Nat, 1 ≤ k ∧ k ≤ 100 ∧ i = .int .i64 k ∧ Ext w wr ∧ Hid (freeId l = freeGo l (101 - k) k)) (fun i _ => 101 - (RowKit.intOf i).toNat)
  case atStart => exact ⟨1, by omega, by omega, rfl, Ext.refl _, Lib.hid rfl⟩
  case round =>
    obtain ⟨k, hk1, hk2, rfl, he, hr⟩ := hrel
    have Ca := l3At_c (k : Int) wr (H.out.ext he)
    by_cases h0 : 0 ≤ hAt l k
    · have hk3 := (hAt_high HS.out h0).2
      have Hr : Hid (freeId l = freeGo l (101 - (k + 1)) ((k + 1 : Nat) : Int)) := Lib.hid (by
        rw [hr.out, show 101 - k = (100 - k) + 1 by omega, freeGo_go h0, show 101 - (k + 1) = 100 - k by omega]; rfl)
      clear hr
      generalize hAt l k = r at *
      go_wp2_with (go_at_call 42; refine Ca.mono ?_; rintro e w2 ⟨rfl, he2⟩)
      go_roundw
      case rel => exact ⟨k + 1, by omega, by omega, by go_num, he.trans he2, Hr⟩
      case measure => simp [RowKit.intOf]; omega
    · have Hr : Hid (freeId l = (k : Int)) := Lib.hid (by rw [hr.out, freeGo_stop h0])
      clear hr
      generalize hAt l k = r at *
      go_wp2_with (go_at_call 42; refine Ca.mono ?_; rintro e w2 ⟨rfl, he2⟩)
      go_ret
      exact ⟨ret_i Hr.out.symm, he.trans he2⟩
/-- rows of the call's own stay where what lies behind their base stays -/
theorem OwnS.keepB {α : Type} {base : Nat} {t : TypeId} {sz : Nat} {E : World → Array Value → Nat → α → Prop} {w w' : World} {v : Value} {l : List α} (h : OwnS base t sz E w v l) (hk : Keeps base w w') (hE : ∀ cs p x, E w cs p x → E w' cs p x) : OwnS base t sz E w' v l := by
  obtain ⟨xs, ⟨h1, h1'⟩, h2⟩ := h
  refine ⟨xs, ⟨h1, ?_⟩, fun k x hx => hE _ _ _ (h2 k x hx)⟩
  rcases h1' with h | ⟨g, cap, cur, hv, hg, hh, r⟩
  · exact .inl h
  · exact .inr ⟨g, cap, cur, hv, hg, Blk.keep (cs := cur) (t := t) hh hg hk, r⟩
theorem ExtR.keeps {g B : Nat} {w w' : World} (h : ExtR g w w') (hg : g < B) : Keeps B w w' := fun b hB hb => h.2.2 b hb (by omega)
/-- the elements of a list of blocks -/
def EBl (B : Nat) (w : World) (cs : Array Value) (p : Nat) (x : List Int) : Prop := ∃ u, cs[p]? = some u ∧ Ints B w u x
theorem EBl.keep {B B' : Nat} {w w' : World} {cs : Array Value} {p : Nat} {x : List Int} (h : EBl B w cs p x) (hB : B' ≤ B) (hk : Keeps B w w') : EBl B' w' cs p x :=
  let ⟨u, h1, h2⟩ := h; ⟨u, h1, h2.keep hB hk⟩
theorem ints_sub {B b o c j m : Nat} {w : World} {t : List Int} (h : SlIn B 3 1 EInt w (some ⟨b, o, none⟩) c t) (hj : j ≤ m) (hm : m ≤ t.length) : Ints B w (.slice (some ⟨b, o + j, none⟩) (m - j) (c - j)) ((t.drop j).take (m - j)) := by
  obtain ⟨h1, h2, h3, h4⟩ := h
  have hlen : ((t.drop j).take (m - j)).length = m - j := by rw [List.length_take, List.length_drop]; omega
  refine ⟨_, c - j, by rw [hlen], by rw [hlen]; omega, ⟨by omega, fun e => by cases e⟩, by rw [hlen]; omega, fun k y hy => ?_⟩
  have hk := lt_of_get hy
  rw [hlen] at hk
  rw [List.getElem?_take, if_pos hk, List.getElem?_drop] at hy
  obtain ⟨b', o', cs, e, hB, hb, he⟩ := h4 (j + k) y hy
  cases e
  exact ⟨b, o + j, cs, rfl, hB, hb, by simpa [Nat.add_assoc] using he⟩
theorem EBl.keepT {B : Nat} {t : TypeId} {w w' : World} {cs : Array Value} {p : Nat} {x : List Int} (h : EBl B w cs p x) (hk : KeepsT t w w') (h1 : 3 ≠ t) : EBl B w' cs p x :=
  let ⟨u, h1', h2⟩ := h; ⟨u, h1', h2.keepT hk h1⟩
theorem EBl_ok (B : Nat) : ElOk 29 1 (EBl B) := ⟨fun _ _ _ _ _ hk h => h.keepT hk (by decide), fun _ _ _ p p' _ hj h => by
  obtain ⟨u, h1, g1⟩ := h
  exact ⟨u, by have := hj 0 (by omega); simp only [Nat.add_zero] at this; rw [this]; exact h1, g1⟩, fun _ cs p _ h j hj => by
  obtain ⟨u, h1, g1⟩ := h
  match j, hj with
  | 0, _ => exact ⟨_, h1, g1.one⟩⟩
theorem el_Bl : Elem Tryd.prog 104 29 1 := elem_of (z := .slice none 0 0) (b := 24) Tryd.underlying104 (by kernel_rfl) (by decide) rfl (by decide)
theorem ebl_of {B : Nat} {w : World} {x : List Int} {u : Value} (h : Ints B w u x) : EBl B w #[u] 0 x := ⟨u, rfl, h⟩
set_option maxRecDepth 4000 in
set_option maxHeartbeats 2000000 in
theorem l4Cut_c {B : Nat} {v : Value} {bs : List Int} (w : World) (h : Ints B w v bs) : Calls Tryd.prog 66 #[v] w (RetP (fun v' w' => OwnS w.heap.size 29 1 (EBl w.heap.size) w' v' (cutB bs)) w) := by
  obtain ⟨A, c, rfl, hA⟩ := h
  have hl := hA.2.2.1
  have hlc := hA.1
  unfold lim at hl
  have hcm := hA.2.1.1
  unfold maxLen at hcm
  have hex : ∃ n, bs.length = n := ⟨_, rfl⟩
  obtain ⟨n, hn⟩ := hex
  rw [hn] at hl hlc ⊢
  have Hn := Lib.hid hn; clear hn
  have HA := Lib.hid hA; clear hA
  go_enter Tryd.func66, Tryd.ntmps66
  go_wp2
  go_loopw [3, 4] (fun v i wr => ∃ k : Nat, k ≤ (n + 7) / 8 ∧ i = .int .i64 ((8 * k : Nat) : Int) ∧ Ext w wr ∧ OwnS w.heap.size 29 1 (EBl w.heap.size) wr v ((cutB bs).take k)) (fun _ i _ => n + 8 - (RowKit.intOf i).toNat)
  case atStart => exact ⟨0, by omega, rfl, (Ext.refl w).alloc _, OwnS.lit0 _ _ _ _ (Nat.le_refl _)⟩
  case round =>
    obtain ⟨k, hk, rfl, he, hO⟩ := hrel
    have HO := Lib.hid hO; clear hO
    by_cases hlt : 8 * k < n
    · obtain ⟨x, hx⟩ := get_of_lt (l := bs) (k := 8 * k) (by rw [Hn.out]; exact hlt)
      obtain ⟨b, o, rfl, -, -, -, -⟩ := Ints.at_ HA.out hx
      clear hx
      have Ht := Lib.hid (cutB_take bs k (by rw [Hn.out]; omega))
      generalize hj : 8 * k = j at *
      have Hj := Lib.hid hj
      clear hj
      have hw1 : IntKind.i64.wrap ((j : Int) + 8) = (j : Int) + 8 := IntWalk.i64_in _ (by omega)
      have hjc : ¬ c = j := by omega
      have hjc' : (j : Int) ≤ (c : Int) := by omega
      have hp1 : (0 : Int) ≤ (j : Int) + 8 := by omega
      have hj1 : (j : Int) < (n : Int) := by omega
      by_cases h8 : j + 8 ≤ n
      · have h8' : (j : Int) + 8 ≤ (n : Int) := by omega
        have hnc : (j : Int) + 8 ≤ (c : Int) := by omega
        have hnn : ((j : Int) + 8).toNat = j + 8 := by omega
        have hii : (j : Int) ≤ (j : Int) + 8 := by omega
        have hmin : min ((j : Int) + 8) (n : Int) = (j : Int) + 8 := by omega
        have HS : Hid (Ints B w (.slice (some ⟨b, o + j, none⟩) 8 (c - j)) ((bs.drop j).take 8)) := Lib.hid (by
          have := ints_sub HA.out (j := j) (m := j + 8) (by omega) (by rw [Hn.out]; exact h8)
          rwa [show j + 8 - j = 8 by omega] at this)
        have HL : Hid (((bs.drop j).take 8).length = 8) := Lib.hid (by rw [List.length_take, List.length_drop, Hn.out]; omega)
        clear hlt
        go_wp2_with (at_builtin; go_must (refine wp_apS (w0 := wr) (by rfl) _ _ (by rfl) el_int eint_ok ?_ _ _ [] ((bs.drop j).take 8) (by rfl) (OwnS.lit _ _ _ _ ?_ (by simp)) (by rfl) (HS.out.ext (he.trans ?_)) ?_ ?_))
        · (repeat' (first | exact Ext.refl _ | assumption | refine Ext.alloc ?_ _ | refine Ext.drew ?_ | refine Ext.drewN ?_ _))
        · simp
        · (repeat' (first | exact Ext.refl _ | assumption | refine Ext.alloc ?_ _ | refine Ext.drew ?_ | refine Ext.drewN ?_ _))
        · have := HL.out; simp; unfold lim; omega
        · intro v' w' hO' he' hk'
          obtain ⟨A', c', hA'⟩ := hO'.form
          rw [HL.out] at hA'
          subst hA'
          have he3 := he.trans he'
          have HU : Hid (Ints w.heap.size w' (.slice A' (8) c') ((bs.drop j).take 8)) := Lib.hid (Ints.keep (hO'.sl eint_ok (Nat.le_refl _) (by have := HL.out; simp; unfold lim; omega)) he.size (fun _ _ _ => rfl))
          have HO2 := Lib.hid (HO.out.ext (EBl_ok _) he')
          have hcl := cutB_len bs
          have Hkl : Hid (((cutB bs).take k).length ≤ 4194304) := Lib.hid (by rw [List.length_take, hcl, Hn.out]; omega)
          clear hO' he' hk' hcl
          go_wp2_with (at_builtin; go_must (refine wp_ap1 (w0 := w) (by rfl) _ _ (by rfl) el_Bl (EBl_ok _) he3 _ ((cutB bs).take k) [(bs.drop j).take 8] (by rfl) HO2.out 1 1 rfl #[.slice A' (8) c'] _ (by rfl) (by first | rfl | simp) rfl (one_cells rfl) (one_E (ebl_of HU.out)) ?_ ?_))
          · rw [List.length_take, cutB_len, Hn.out]; simp; unfold lim; omega
          · intro v3 w3 hO3 he4 _
            have HO3 := Lib.hid hO3
            clear hO3 he3
            go_wp2
            have hj2 := Hj.out
            go_roundw
            case rel => exact ⟨k + 1, by omega, by rw [show 8 * (k + 1) = j + 8 by omega]; go_num, he4, by rw [Ht.out]; exact HO3.out⟩
            case measure => simp [RowKit.intOf]; omega
      · have h8' : ¬ (j : Int) + 8 ≤ (n : Int) := by omega
        have hnc : (n : Int) ≤ (c : Int) := by omega
        have hii : (j : Int) ≤ (n : Int) := by omega
        have hmin : min ((j : Int) + 8) (n : Int) = (n : Int) := by omega
        have HS : Hid (Ints B w (.slice (some ⟨b, o + j, none⟩) (n - j) (c - j)) ((bs.drop j).take 8)) := Lib.hid (by
          have := ints_sub HA.out (j := j) (m := n) (by omega) (by rw [Hn.out]; exact Nat.le_refl _)
          rwa [show (bs.drop j).take (n - j) = (bs.drop j).take 8 from by rw [List.take_of_length_le (by rw [List.length_drop, Hn.out]; exact Nat.le_refl _), List.take_of_length_le (by rw [List.length_drop, Hn.out]; omega)]] at this)
        have HL : Hid (((bs.drop j).take 8).length = n - j) := Lib.hid (by rw [List.length_take, List.length_drop, Hn.out]; omega)
        clear hlt
        go_wp2_with (at_builtin; go_must (refine wp_apS (w0 := wr) (by rfl) _ _ (by rfl) el_int eint_ok ?_ _ _ [] ((bs.drop j).take 8) (by rfl) (OwnS.lit _ _ _ _ ?_ (by simp)) (by rfl) (HS.out.ext (he.trans ?_)) ?_ ?_))
        · unfold lim; omega
        · intro v' w' hO' he' hk'
          obtain ⟨A', c', hA'⟩ := hO'.form
          rw [HL.out] at hA'
          subst hA'
          have he3 := he.trans he'
          have HU : Hid (Ints w.heap.size w' (.slice A' (n - j) c') ((bs.drop j).take 8)) := Lib.hid (Ints.keep (hO'.sl eint_ok (Nat.le_refl _) (by have := HL.out; simp; unfold lim; omega)) he.size (fun _ _ _ => rfl))
          have HO2 := Lib.hid (HO.out.ext (EBl_ok _) he')
          have hcl := cutB_len bs
          have Hkl : Hid (((cutB bs).take k).length ≤ 4194304) := Lib.hid (by rw [List.length_take, hcl, Hn.out]; omega)
          clear hO' he' hk' hcl
          go_wp2_with (at_builtin; go_must (refine wp_ap1 (w0 := w) (by rfl) _ _ (by rfl) el_Bl (EBl_ok _) he3 _ ((cutB bs).take k) [(bs.drop j).take 8] (by rfl) HO2.out 1 1 rfl #[.slice A' (n - j) c'] _ (by rfl) (by first | rfl | simp) rfl (one_cells rfl) (one_E (ebl_of HU.out)) ?_ ?_))
          · rw [List.length_take, cutB_len, Hn.out]; simp; unfold lim; omega
          · intro v3 w3 hO3 he4 _
            have HO3 := Lib.hid hO3
            clear hO3 he3
            go_wp2
            have hj2 := Hj.out
            go_roundw
            case rel => exact ⟨k + 1, by omega, by rw [show 8 * (k + 1) = j + 8 by omega]; go_num, he4, by rw [Ht.out]; exact HO3.out⟩
            case measure => simp [RowKit.intOf]; omega
    · have hks : k = (n + 7) / 8 := by omega
      have hlt' : ¬ ((8 * k : Nat) : Int) < (n : Int) := by omega
      go_wp2
      go_ret
      have := HO.out
      rw [List.take_of_length_le (by rw [cutB_len, Hn.out, hks]; exact Nat.le_refl _)] at this
      exact ⟨_, rfl, this, he⟩
end Go.Sf

/-! The reference puts a block into a store. -/
namespace Go.Sf
open Go Go.RowKit Go.Proofs
theorem grown_R {g0 : Nat} {w4 W w' : World} {cs : Array Value} {t : TypeId} {v v' : Value} (hR : ExtR g0 w4 W) (hv : ∀ b, v.ownBlock = some b → b = g0 ∨ w4.heap.size ≤ b) (hg : (W.alloc (.cells cs t)).grownBy w' v.ownBlock)
    (hb : v'.ownBlock = v.ownBlock ∨ v'.ownBlock = some (W.heap.size + 1)) : ExtR g0 w4 w' ∧ ∀ b, v'.ownBlock = some b → b = g0 ∨ w4.heap.size ≤ b := by
  have hs := hR.size
  refine ⟨⟨⟨hg.os.trans hR.1.1, hg.tape.trans hR.1.2.1, hg.output.trans hR.1.2.2⟩, Nat.le_trans hs (Nat.le_trans (by simp) hg.size), fun k hk hne => ?_⟩, fun b h => ?_⟩
  · rw [hg.block k (by simp; omega) fun e => ?_, Below.heap_alloc W _ k (by omega)]
    · exact hR.2.2 k hk hne
    · rcases hv k e.symm with h | h
      · exact hne h
      · omega
  · rcases hb with h' | h'
    · exact hv b (h'.symm.trans h)
    · rw [h'] at h
      injection h with h
      exact .inr (by omega)
theorem Hds.keepR {g B : Nat} {w w' : World} {v : Value} {l : List Hd} (h : Hds B w v l) (e : ExtR g w w') (hg : g < B) : Hds B w' v l := h.keep (Nat.le_refl _) (e.keeps hg)
set_option maxRecDepth 4000 in
set_option maxHeartbeats 4000000 in
theorem l3With_c {B B' : Nat} {v vb : Value} {l : List Hd} {bs : List Int} (w : World) (h : Hds B w v l) (hb : Ints B' w vb bs) (hS : StoreOk l) :
    Calls Tryd.prog 78 #[v, vb] w (RetP (fun v' w' => OwnS w.heap.size 31 3 (EHd w.heap.size) w' v' (withHd ⟨freeId l, bs, 1⟩ l)) w) := by
  have H := Lib.hid h; have HB := Lib.hid hb
  have C1 := l3Free_c w h hS
  have hfr := freeId_range hS
  have hbl := hb.len
  have h16 := hS.1
  unfold lim at hbl
  obtain ⟨A, c, rfl, -⟩ := h
  obtain ⟨Ab, cb, rfl, -⟩ := hb
  generalize freeId l = fi at *
  clear hS
  go_enter Tryd.func78, Tryd.ntmps78
  go_wp2_with (first | (go_at_call 77; refine C1.mono ?_; rintro e w1 ⟨rfl, he1⟩) | (at_builtin; go_must (refine wp_apS (w0 := w1.alloc (.cells #[] 31)) (by rfl) _ _ (by rfl) el_int eint_ok ?_ _ _ [] bs (by rfl) (OwnS.lit _ _ _ _ ?_ (by simp)) (by rfl) (HB.out.ext (he1.trans ?_)) ?_ ?_)))
  · exact (Ext.refl _).alloc _
  · exact Nat.le_refl _
  · exact ((Ext.refl w1).alloc _).alloc _
  · simp; unfold lim; omega
  · intro v2 w2 hO2 he2 hk2
    obtain ⟨A2, c2, hA2⟩ := hO2.form
    subst hA2
    have e12 : Ext w1 w2 := ((Ext.refl w1).alloc _).trans he2
    have ew2 := he1.trans e12
    have hU : Ints (w1.heap.size + 1) w2 (.slice A2 bs.length c2) bs := by
      have := hO2.sl eint_ok (Nat.le_refl _) (by unfold lim; omega)
      exact this
    have HU := Lib.hid hU
    have hs12 : w1.heap.size + 1 ≤ w2.heap.size := by have := he2.size; simpa using this
    have hw1 := he1.size
    clear hO2 hk2 hU C1
    go_wp2_with fail
    refine (l3Copy_c _ (H.out.ext (ew2.alloc _))).mono ?_
    rintro e w4 ⟨vo, rfl, hOo, he4⟩
    obtain ⟨Ao, co, rfl⟩ := hOo.form
    have e24 : Ext w2 w4 := ((Ext.refl w2).alloc _).trans he4
    have ew4 := ew2.trans e24
    have hs4 := e24.size
    have hI : Hds (w2.heap.size + 1) w4 (.slice Ao l.length co) l := by
      have := hOo.isHds (by unfold lim; omega)
      simpa using this
    have HI := Lib.hid hI
    have HX := Lib.hid ((Blk.new w2 31 #[.int .i64 fi, .slice A2 bs.length c2, .int .i64 1]).ext he4)
    have HU4 := Lib.hid (HU.out.ext e24)
    have HO0 : Hid (OwnS w.heap.size 31 3 (EHd w.heap.size) w4 (.slice (some ⟨w1.heap.size, 0, none⟩) 0 0) []) := Lib.hid ((OwnS.lit0 31 3 (EHd w.heap.size) w1 hw1).ext (EHd_ok _) (he2.trans e24))
    have hfi : inI fi := by unfold inI; omega
    have h1i : inI 1 := by unfold inI; omega
    have HXr : Hid (∀ W, ExtR w1.heap.size w4 W → W.cell? ⟨w2.heap.size, 0, none⟩ = some (.int .i64 fi) ∧ W.cell? ⟨w2.heap.size, 1, none⟩ = some (.slice A2 bs.length c2) ∧ W.cell? ⟨w2.heap.size, 2, none⟩ = some (.int .i64 1) ∧ Ints w.heap.size W (.slice A2 bs.length c2) bs) := Lib.hid fun W e => by
      have hb := e.blk HX.out (by omega)
      exact ⟨by simpa using hb.cell 0, by simpa using hb.cell 1, by simpa using hb.cell 2, (HU4.out.keep (Nat.le_refl _) (e.keeps (by omega))).keep (by omega) (fun _ _ _ => rfl)⟩
    have HRead : Hid (∀ W, ExtR w1.heap.size w4 W → ∀ k y, l[k]? = some y → ∃ b o Ay cy, Ao = some ⟨b, o, none⟩ ∧ inI y.id ∧ Ints w.heap.size W (.slice Ay y.bytes.length cy) y.bytes ∧ inI y.uses ∧
        W.cell? ⟨b, o + k * 3, none⟩ = some (.int .i64 y.id) ∧ W.cell? ⟨b, o + k * 3 + 1, none⟩ = some (.slice Ay y.bytes.length cy) ∧ W.cell? ⟨b, o + k * 3 + 2, none⟩ = some (.int .i64 y.uses)) := Lib.hid fun W e k y hy => by
      obtain ⟨A', c', hv', hA'⟩ := HI.out.keepR e (by omega)
      injection hv' with h1 _ h2
      subst h1; subst h2
      obtain ⟨b, o, u, rfl, -, -, hyi, hu, hyu, hc0, hc1, hc2⟩ := Hds.at_ hA' hy
      obtain ⟨Ay, cy, rfl, -⟩ := id hu
      exact ⟨b, o, Ay, cy, rfl, hyi, hu.keep (by omega) (fun _ _ _ => rfl), hyu, hc0 W (Ext.refl _), hc1 W (Ext.refl _), hc2 W (Ext.refl _)⟩
    have hex : ∃ n, l.length = n := ⟨_, rfl⟩
    obtain ⟨n, hn⟩ := hex
    rw [hn] at h16 ⊢
    have Hn := Lib.hid hn
    clear hn hI hOo he4 HI HX HU4 HU
    go_wp2
    go_loopw [6, 7, 10] (fun vo' d' i wr => ∃ (k : Nat) (d : Bool) (outl : List Hd), k ≤ n ∧ i = .int .i64 k ∧ d' = .bool d ∧ OwnS w.heap.size 31 3 (EHd w.heap.size) wr vo' outl ∧ Hid (∀ b, vo'.ownBlock = some b → b = w1.heap.size ∨ w4.heap.size ≤ b) ∧ ExtR w1.heap.size w4 wr ∧ Ext w wr ∧
        Hid (withHd ⟨fi, bs, 1⟩ l = outl ++ (if d = true then l.drop k else withHd ⟨fi, bs, 1⟩ (l.drop k)) ∧ outl.length = k + (if d = true then 1 else 0))) (fun _ _ i _ => n - (RowKit.intOf i).toNat)
    case atStart => exact ⟨0, false, [], by omega, rfl, rfl, HO0.out, Lib.hid (fun b hb => .inl (by simpa [Value.ownBlock] using hb.symm)), ExtR.refl _ _, ew4, Lib.hid ⟨by simp, by simp⟩⟩
    case round =>
      obtain ⟨k, d, outl, hk, rfl, rfl, hO, hV, hR, he, hM⟩ := hrel
      have HO := Lib.hid hO
      obtain ⟨x0, x1, x2, hxu⟩ := HXr.out wr hR
      have HXU := Lib.hid hxu
      clear hO hxu
      by_cases hlt : k < n
      · obtain ⟨y, hy⟩ := get_of_lt (l := l) (k := k) (by rw [Hn.out]; exact hlt)
        obtain ⟨b, o, Ay, cy, hAo, hyi, hyb, hyu, a0, a1, a2⟩ := HRead.out wr hR k y hy
        subst hAo
        have HYU := Lib.hid hyb
        have Hdr := Lib.hid (drop_cons hy)
        have Hy := Lib.hid hy
        clear hyb hy
        cases d with
        | true =>
          go_wp2_with (at_builtin; go_must (refine wp_ap1W (B := w.heap.size) (by rfl) _ _ (by rfl) el_Hd (EHd_ok _) he.size _ outl [y] (by rfl) HO.out 1 1 rfl (by decide) #[.int .i64 y.id, .slice Ay y.bytes.length cy, .int .i64 y.uses] _ (by rfl) (by first | rfl | simp) rfl (oneHd rfl) (one_E (ehd_of hyi HYU.out hyu)) ?_ ?_))
          · (try simp); unfold lim; have := hM.out.2; (try simp at this); omega
          · intro v6 w6 hO6 hg6 hk6 hb6
            obtain ⟨hR6, hV6⟩ := grown_R hR hV.out hg6 hb6
            have he6 : Ext w w6 := OwnS.grown_ext (HO.out.ext (EHd_ok _) ((Ext.refl _).alloc _)) (he.alloc _) hg6
            have HO6 := Lib.hid hO6
            have HR6 := Lib.hid hR6; have HV6 := Lib.hid hV6; have HE6 := Lib.hid he6
            clear hO6 hg6 hk6 hb6
            go_wp2
            go_roundw
            case rel => exact ⟨k + 1, true, outl ++ [y], by omega, by go_num, rfl, HO6.out, HV6, HR6.out, HE6.out, Lib.hid ⟨by rw [hM.out.1, Hdr.out]; simp, by have := hM.out.2; simp at this ⊢; omega⟩⟩
            case measure => simp [RowKit.intOf]; omega
        | false =>
          by_cases hxy : fi < y.id
          · go_wp2_with (at_builtin; go_must (refine wp_ap1W (B := w.heap.size) (by rfl) _ _ (by rfl) el_Hd (EHd_ok _) he.size _ outl [(⟨fi, bs, 1⟩ : Hd)] (by rfl) HO.out 1 1 rfl (by decide) #[.int .i64 fi, .slice A2 bs.length c2, .int .i64 1] _ (by rfl) (by first | rfl | simp) rfl (oneHd rfl) (one_E (ehd_of (x := ⟨fi, bs, 1⟩) hfi HXU.out h1i)) ?_ ?_))
            · (try simp); unfold lim; have := hM.out.2; (try simp at this); omega
            · intro v5 w5 hO5 hg5 hk5 hb5
              obtain ⟨hR5, hV5⟩ := grown_R hR hV.out hg5 hb5
              have he5 : Ext w w5 := OwnS.grown_ext (HO.out.ext (EHd_ok _) ((Ext.refl _).alloc _)) (he.alloc _) hg5
              have HO5 := Lib.hid hO5
              have HR5 := Lib.hid hR5; have HV5 := Lib.hid hV5; have HE5 := Lib.hid he5
              clear hO5 hg5 hk5 hb5
              obtain ⟨b', o', Ay2, cy2, hAo, -, hyb, -, z0, z1, z2⟩ := HRead.out w5 hR5 k y Hy.out
              cases hAo
              have HYU2 := Lib.hid hyb
              clear hyb a0 a1 a2 x0 x1 x2
              go_wp2_with (at_builtin; go_must (refine wp_ap1W (B := w.heap.size) (by rfl) _ _ (by rfl) el_Hd (EHd_ok _) HE5.out.size _ (outl ++ [(⟨fi, bs, 1⟩ : Hd)]) [y] (by rfl) HO5.out 1 1 rfl (by decide) #[.int .i64 y.id, .slice Ay2 y.bytes.length cy2, .int .i64 y.uses] _ (by rfl) (by first | rfl | simp) rfl (oneHd rfl) (one_E (ehd_of hyi HYU2.out hyu)) ?_ ?_))
              · (try simp); unfold lim; have := hM.out.2; (try simp at this); omega
              · intro v6 w6 hO6 hg6 hk6 hb6
                obtain ⟨hR6, hV6⟩ := grown_R HR5.out HV5.out hg6 hb6
                have he6 : Ext w w6 := OwnS.grown_ext (HO5.out.ext (EHd_ok _) ((Ext.refl _).alloc _)) (HE5.out.alloc _) hg6
                have HO6 := Lib.hid hO6
                have HR6 := Lib.hid hR6; have HV6 := Lib.hid hV6; have HE6 := Lib.hid he6
                clear hO6 hg6 hk6 hb6
                go_wp2
                go_roundw
                case rel => exact ⟨k + 1, true, outl ++ [(⟨fi, bs, 1⟩ : Hd), y], by omega, by go_num, rfl, HO6.out, HV6, HR6.out, HE6.out, Lib.hid ⟨by rw [hM.out.1, Hdr.out]; simp [withHd, hxy], by have := hM.out.2; simp at this ⊢; omega⟩⟩
                case measure => simp [RowKit.intOf]; omega
          · go_wp2_with (at_builtin; go_must (refine wp_ap1W (B := w.heap.size) (by rfl) _ _ (by rfl) el_Hd (EHd_ok _) he.size _ outl [y] (by rfl) HO.out 1 1 rfl (by decide) #[.int .i64 y.id, .slice Ay y.bytes.length cy, .int .i64 y.uses] _ (by rfl) (by first | rfl | simp) rfl (oneHd rfl) (one_E (ehd_of hyi HYU.out hyu)) ?_ ?_))
            · (try simp); unfold lim; have := hM.out.2; (try simp at this); omega
            · intro v6 w6 hO6 hg6 hk6 hb6
              obtain ⟨hR6, hV6⟩ := grown_R hR hV.out hg6 hb6
              have he6 : Ext w w6 := OwnS.grown_ext (HO.out.ext (EHd_ok _) ((Ext.refl _).alloc _)) (he.alloc _) hg6
              have HO6 := Lib.hid hO6
              have HR6 := Lib.hid hR6; have HV6 := Lib.hid hV6; have HE6 := Lib.hid he6
              clear hO6 hg6 hk6 hb6
              go_wp2
              go_roundw
              case rel => exact ⟨k + 1, false, outl ++ [y], by omega, by go_num, rfl, HO6.out, HV6, HR6.out, HE6.out, Lib.hid ⟨by rw [hM.out.1, Hdr.out]; simp only [Bool.false_eq_true, if_false]; rw [withHd, if_neg (show ¬ fi < y.id by omega)]; simp, by have := hM.out.2; simp at this ⊢; omega⟩⟩
              case measure => simp [RowKit.intOf]; omega
      · have hks : k = n := by omega
        subst hks
        have hdn : l.drop k = [] := List.drop_eq_nil_of_le (by rw [Hn.out]; exact Nat.le_refl _)
        cases d with
        | true =>
          have Hr : Hid (withHd ⟨fi, bs, 1⟩ l = outl) := Lib.hid (by rw [hM.out.1, hdn]; simp)
          clear hdn
          go_wp2
          go_ret
          exact ⟨_, rfl, by rw [Hr.out]; exact HO.out, he⟩
        | false =>
          have Hr : Hid (withHd ⟨fi, bs, 1⟩ l = outl ++ [⟨fi, bs, 1⟩]) := Lib.hid (by rw [hM.out.1, hdn]; rfl)
          clear hdn
          go_wp2_with (at_builtin; go_must (refine wp_ap1W (B := w.heap.size) (by rfl) _ _ (by rfl) el_Hd (EHd_ok _) he.size _ outl [(⟨fi, bs, 1⟩ : Hd)] (by rfl) HO.out 1 1 rfl (by decide) #[.int .i64 fi, .slice A2 bs.length c2, .int .i64 1] _ (by rfl) (by first | rfl | simp) rfl (oneHd rfl) (one_E (ehd_of (x := ⟨fi, bs, 1⟩) hfi HXU.out h1i)) ?_ ?_))
          · (try simp); unfold lim; have := hM.out.2; (try simp at this); omega
          · intro v6 w6 hO6 hg6 hk6 hb6
            obtain ⟨hR6, hV6⟩ := grown_R hR hV.out hg6 hb6
            have he6 : Ext w w6 := OwnS.grown_ext (HO.out.ext (EHd_ok _) ((Ext.refl _).alloc _)) (he.alloc _) hg6
            have HO6 := Lib.hid hO6
            have HR6 := Lib.hid hR6; have HV6 := Lib.hid hV6; have HE6 := Lib.hid he6
            clear hO6 hg6 hk6 hb6
            go_wp2
            go_ret
            exact ⟨_, rfl, by rw [Hr.out]; exact HO6.out, HE6.out⟩
end Go.Sf

/-! The reference's StorePut. -/
namespace Go.Sf
open Go Go.RowKit Go.Proofs
/-- a store of the call's own, an id, and whether there is one -/
def OptPut (B : Nat) (o : Option (List Hd × Int)) (r : Value) (w : World) : Prop := ∃ u, r = .tuple #[u, .int .i64 (o.elim 0 (·.2)), .bool o.isSome] ∧ OwnS B 31 3 (EHd B) w u (o.elim [] (·.1))
theorem OptPut.none_ {B : Nat} {w : World} {o : Option (List Hd × Int)} (hB : B ≤ w.heap.size) (h : o = none) : OptPut B o (.tuple #[.slice (some ⟨w.heap.size, 0, none⟩) 0 0, .int .i64 0, .bool false]) (w.alloc (.cells #[] 31)) := by
  subst h; exact ⟨_, rfl, OwnS.lit0 _ _ _ _ hB⟩
theorem putSt_len {l : List Hd} {bs : List Int} : (putSt l bs).1.length ≤ l.length + 1 := by
  unfold putSt
  split
  · simp
  · simp only [withHd_len]; exact Nat.le_refl _
theorem putSt_none {l : List Hd} {bs : List Int} (h : l.find? (likeIs bs) = none) : putSt l bs = (withHd ⟨freeId l, bs, 1⟩ l, freeId l) := by unfold putSt; rw [h]
theorem putSt_some {l : List Hd} {bs : List Int} {i : Nat} {y : Hd} (h : l.find? (likeIs bs) = some y) (hi : likeAt l bs = (i : Int)) : putSt l bs = (l.set i (moreOne y), y.id) := by unfold putSt; rw [h, hi]; simp
set_option maxRecDepth 4000 in
set_option maxHeartbeats 4000000 in
theorem specStorePut_c {B B' : Nat} {v vb : Value} {l : List Hd} {bs : List Int} (w : World) (h : Hds B w v l) (hb : Ints B' w vb bs) :
    Calls Tryd.prog 67 #[v, vb] w (RetP (OptPut w.heap.size (storePut l bs)) w) := by
  have H := Lib.hid h; have HB := Lib.hid hb
  obtain ⟨A, c, rfl, -⟩ := h
  obtain ⟨Ab, cb, rfl, -⟩ := hb
  have C1 := fun W (e : Ext w W) => specStoreValid_c W (H.out.ext e)
  have C2 := fun W (e : Ext w W) => specBlockValid_c W (HB.out.ext e)
  cases h1 : storeOk l with
  | false =>
    rw [h1] at C1
    have Hr : Hid (storePut l bs = none) := Lib.hid (by simp [storePut, h1])
    clear h1
    go_enter Tryd.func67, Tryd.ntmps67
    go_wp2_with (go_at_call 12; refine (C1 _ (Ext.refl _)).mono ?_; rintro e w1 ⟨rfl, he1⟩)
    go_ret3
    exact ⟨_, rfl, OptPut.none_ he1.size Hr.out, he1.alloc _⟩
  | true =>
  rw [h1] at C1
  cases h2 : blockOk bs with
  | false =>
    rw [h2] at C2
    have Hr : Hid (storePut l bs = none) := Lib.hid (by simp [storePut, h2])
    clear h1 h2
    go_enter Tryd.func67, Tryd.ntmps67
    go_wp2_with (first | (go_at_call 12; refine (C1 _ (Ext.refl _)).mono ?_; rintro e w1 ⟨rfl, he1⟩) | (go_at_call 23; refine (C2 _ he1).mono ?_; rintro e w2 ⟨rfl, he2⟩))
    go_ret3
    exact ⟨_, rfl, OptPut.none_ (he1.trans he2).size Hr.out, (he1.trans he2).alloc _⟩
  | true =>
  rw [h2] at C2
  have hS := storeOk_iff.1 h1
  have h16 := hS.1
  have Hp : Hid (storePut l bs = if storeOk (putSt l bs).1 = true then some (putSt l bs) else none) := Lib.hid (by unfold storePut; simp [h1, h2])
  have hpl := @putSt_len l bs
  have C3 := fun W (e : Ext w W) => l3Copy_c W (H.out.ext e)
  have C4 := fun W (e : Ext w W) => l3Like_c W (H.out.ext e) (HB.out.ext e)
  have C5 := fun W (e : Ext w W) => l3Free_c W (H.out.ext e) hS
  have hfr := freeId_range hS
  clear h1 h2
  rcases atG_find (likeIs bs) l 0 with ⟨f1, f2⟩ | ⟨i, x, f1, f2, f3, f4, -⟩
  · rw [likeAt, f2] at C4
    have hps := putSt_none f1
    have C6 := fun W (e : Ext w W) => l3With_c W (H.out.ext e) (HB.out.ext e) hS
    generalize freeId l = fi at *
    rw [hps] at Hp hpl
    generalize withHd ⟨fi, bs, 1⟩ l = l' at *
    clear f1 f2 hps hS
    have C7 : ∀ W v2, Hds w.heap.size W v2 l' → Calls Tryd.prog 12 #[v2] W (Ret (.bool (storeOk l')) W) := fun W v2 hh => specStoreValid_c W hh
    cases hv : storeOk l' with
    | false =>
      rw [hv] at C7
      have Hr : Hid (storePut l bs = none) := Lib.hid (by rw [Hp.out, hv]; rfl)
      clear hv Hp
      go_enter Tryd.func67, Tryd.ntmps67
      go_wp2_with (first | (go_at_call 12; (with_reducible show Calls _ _ #[.slice A l.length c] _ _); refine (C1 _ (Ext.refl _)).mono ?_; rintro e w1 ⟨rfl, he1⟩) | (go_at_call 23; refine (C2 _ he1).mono ?_; rintro e w2 ⟨rfl, he2⟩; have E2 := he1.trans he2) | (go_at_call 44; refine (C3 _ E2).mono ?_; rintro e w3 ⟨u3, rfl, -, he3⟩; have E3 := E2.trans he3) | (go_at_call 76; refine (C4 _ E3).mono ?_; rintro e w4 ⟨rfl, he4⟩; have E4 := E3.trans he4) | (go_at_call 77; refine (C5 _ E4).mono ?_; rintro e w5 ⟨rfl, he5⟩; have E5 := E4.trans he5) | (go_at_call 78; refine (C6 _ E5).mono ?_; rintro e w6 ⟨u6, rfl, hO, he6⟩; have E6 := E5.trans he6; have HO := Lib.hid (hO.weak E5.size fun _ _ _ gg => gg.keep E5.size (fun _ _ _ => rfl)); clear hO) | (go_at_call 12; refine (C7 _ _ (HO.out.isHds (by unfold lim; omega))).mono ?_; rintro e w7 ⟨rfl, he7⟩; have E7 := E6.trans he7))
      go_ret3
      exact ⟨_, rfl, OptPut.none_ E7.size Hr.out, E7.alloc _⟩
    | true =>
      rw [hv] at C7
      have Hr : Hid (storePut l bs = some (l', fi)) := Lib.hid (by rw [Hp.out, hv]; rfl)
      clear hv Hp
      go_enter Tryd.func67, Tryd.ntmps67
      go_wp2_with (first | (go_at_call 12; (with_reducible show Calls _ _ #[.slice A l.length c] _ _); refine (C1 _ (Ext.refl _)).mono ?_; rintro e w1 ⟨rfl, he1⟩) | (go_at_call 23; refine (C2 _ he1).mono ?_; rintro e w2 ⟨rfl, he2⟩; have E2 := he1.trans he2) | (go_at_call 44; refine (C3 _ E2).mono ?_; rintro e w3 ⟨u3, rfl, -, he3⟩; have E3 := E2.trans he3) | (go_at_call 76; refine (C4 _ E3).mono ?_; rintro e w4 ⟨rfl, he4⟩; have E4 := E3.trans he4) | (go_at_call 77; refine (C5 _ E4).mono ?_; rintro e w5 ⟨rfl, he5⟩; have E5 := E4.trans he5) | (go_at_call 78; refine (C6 _ E5).mono ?_; rintro e w6 ⟨u6, rfl, hO, he6⟩; have E6 := E5.trans he6; have HO := Lib.hid (hO.weak E5.size fun _ _ _ gg => gg.keep E5.size (fun _ _ _ => rfl)); clear hO) | (go_at_call 12; refine (C7 _ _ (HO.out.isHds (by unfold lim; omega))).mono ?_; rintro e w7 ⟨rfl, he7⟩; have E7 := E6.trans he7))
      go_ret3
      refine ⟨_, rfl, ?_, E7⟩
      rw [Hr.out]
      exact ⟨_, rfl, HO.out.ext (EHd_ok _) he7⟩
  · have hat : likeAt l bs = (i : Int) := by rw [likeAt, f4]; simp
    rw [hat] at C4
    have hps := putSt_some f3 hat
    have hil := lt_of_get f1
    have hok := (hd_ok (hS.2 i x f1).1)
    generalize freeId l = fi at *
    rw [hps] at Hp hpl
    have Hx := Lib.hid f1
    have hin : inI (x.uses + 1) := by unfold inI; omega
    have hwr : IntKind.i64.wrap (x.uses + 1) = x.uses + 1 := IntWalk.i64_in _ (by omega)
    have C7 : ∀ W v2, Hds w.heap.size W v2 (l.set i (moreOne x)) → Calls Tryd.prog 12 #[v2] W (Ret (.bool (storeOk (l.set i (moreOne x)))) W) := fun W v2 hh => specStoreValid_c W hh
    clear f1 f2 f3 f4 hat hps hS
    have Hst : Hid (∀ (W : World) (v2 : Value), Ext w W → OwnS w.heap.size 31 3 (EHd w.heap.size) W v2 l → ∃ g c3, v2 = .slice (some ⟨g, 0, none⟩) l.length c3 ∧ l.length ≤ c3 ∧ W.cell? ⟨g, i * 3 + 2, none⟩ = some (.int .i64 x.uses) ∧ W.frozen? ⟨g, i * 3 + 2, none⟩ = false ∧
        (W.setCell ⟨g, i * 3 + 2, none⟩ (.int .i64 (x.uses + 1))).cell? ⟨g, i * 3, none⟩ = some (.int .i64 x.id) ∧ OwnS w.heap.size 31 3 (EHd w.heap.size) (W.setCell ⟨g, i * 3 + 2, none⟩ (.int .i64 (x.uses + 1))) v2 (l.set i (moreOne x)) ∧ Ext w (W.setCell ⟨g, i * 3 + 2, none⟩ (.int .i64 (x.uses + 1)))) := Lib.hid fun W v2 eW hO => by
      obtain ⟨g, c3, rfl, hnc, hg, hq0, hq1, hq⟩ := hO.setUses Hx.out
      have hO2 := hq _ hin
      have hH := hO2.isHds (by simp; unfold lim; omega)
      obtain ⟨A9, c9, hv9, hA9⟩ := hH
      obtain ⟨b9, o9, u9, hb9, -, -, -, -, -, hc0, -, -⟩ := Hds.at_ hA9 (k := i) (x := moreOne x) (by rw [List.getElem?_set_self hil]; rfl)
      injection hv9 with q1 _ _
      rw [hb9] at q1
      cases q1
      have := hc0 _ (Ext.refl _)
      simp only [Nat.zero_add] at this
      exact ⟨g, c3, rfl, hnc, hq0, hq1, this, hO2, eW.setCell (p := ⟨g, i * 3 + 2, none⟩) hg _⟩
    cases hv : storeOk (l.set i (moreOne x)) with
    | false =>
      rw [hv] at C7
      have Hr : Hid (storePut l bs = none) := Lib.hid (by rw [Hp.out, hv]; rfl)
      clear hv Hp
      go_enter Tryd.func67, Tryd.ntmps67
      go_wp2_with (first | (go_at_call 12; (with_reducible show Calls _ _ #[.slice A l.length c] _ _); refine (C1 _ (Ext.refl _)).mono ?_; rintro e w1 ⟨rfl, he1⟩) | (go_at_call 23; refine (C2 _ he1).mono ?_; rintro e w2 ⟨rfl, he2⟩; have E2 := he1.trans he2) | (go_at_call 44; refine (C3 _ E2).mono ?_; rintro e w3 ⟨u3, rfl, hO, he3⟩; have E3 := E2.trans he3; obtain ⟨A3, c3, rfl⟩ := hO.form; have HO := Lib.hid (hO.weak E2.size fun _ _ _ gg => gg.keep E2.size (fun _ _ _ => rfl)); clear hO) | (go_at_call 76; refine (C4 _ E3).mono ?_; rintro e w4 ⟨rfl, he4⟩; have E4 := E3.trans he4) | (go_at_call 77; refine (C5 _ E4).mono ?_; rintro e w5 ⟨rfl, he5⟩; have E5 := E4.trans he5; have HO5 := Lib.hid (HO.out.ext (EHd_ok _) (he4.trans he5)); obtain ⟨g, c5, hv5, hnc, hq0, hq1, hq2, hq3, hq4⟩ := Hst.out _ _ E5 HO5.out; injection hv5 with hv1 hv2 hv3; subst hv1; subst hv3; have HQ := Lib.hid hq3; have EQ := Lib.hid hq4; clear hq3 hq4) | (go_at_call 12; refine (C7 _ _ (HQ.out.isHds (by simp; unfold lim; omega))).mono ?_; rintro e w7 ⟨rfl, he7⟩; have E7 := EQ.out.trans he7))
      go_ret3
      exact ⟨_, rfl, OptPut.none_ E7.size Hr.out, E7.alloc _⟩
    | true =>
      rw [hv] at C7
      have Hr : Hid (storePut l bs = some (l.set i (moreOne x), x.id)) := Lib.hid (by rw [Hp.out, hv]; rfl)
      clear hv Hp
      go_enter Tryd.func67, Tryd.ntmps67
      go_wp2_with (first | (go_at_call 12; (with_reducible show Calls _ _ #[.slice A l.length c] _ _); refine (C1 _ (Ext.refl _)).mono ?_; rintro e w1 ⟨rfl, he1⟩) | (go_at_call 23; refine (C2 _ he1).mono ?_; rintro e w2 ⟨rfl, he2⟩; have E2 := he1.trans he2) | (go_at_call 44; refine (C3 _ E2).mono ?_; rintro e w3 ⟨u3, rfl, hO, he3⟩; have E3 := E2.trans he3; obtain ⟨A3, c3, rfl⟩ := hO.form; have HO := Lib.hid (hO.weak E2.size fun _ _ _ gg => gg.keep E2.size (fun _ _ _ => rfl)); clear hO) | (go_at_call 76; refine (C4 _ E3).mono ?_; rintro e w4 ⟨rfl, he4⟩; have E4 := E3.trans he4) | (go_at_call 77; refine (C5 _ E4).mono ?_; rintro e w5 ⟨rfl, he5⟩; have E5 := E4.trans he5; have HO5 := Lib.hid (HO.out.ext (EHd_ok _) (he4.trans he5)); obtain ⟨g, c5, hv5, hnc, hq0, hq1, hq2, hq3, hq4⟩ := Hst.out _ _ E5 HO5.out; injection hv5 with hv1 hv2 hv3; subst hv1; subst hv3; have HQ := Lib.hid hq3; have EQ := Lib.hid hq4; clear hq3 hq4) | (go_at_call 12; refine (C7 _ _ (HQ.out.isHds (by simp; unfold lim; omega))).mono ?_; rintro e w7 ⟨rfl, he7⟩; have E7 := EQ.out.trans he7))
      go_ret3
      refine ⟨_, rfl, ?_, E7⟩
      rw [Hr.out]
      exact ⟨_, rfl, HQ.out.ext (EHd_ok _) he7⟩
end Go.Sf

/-! The reference's FileStore. -/
namespace Go.Sf
open Go Go.RowKit Go.Proofs
theorem OwnS.ownLt {α : Type} {base : Nat} {t : TypeId} {sz : Nat} {E : World → Array Value → Nat → α → Prop} {w : World} {v : Value} {l : List α} (h : OwnS base t sz E w v l) : ∀ b, v.ownBlock = some b → b < w.heap.size := by
  obtain ⟨xs, ⟨-, h2⟩, -⟩ := h
  intro b hb
  rcases h2 with ⟨rfl, -⟩ | ⟨g, cap, cur, rfl, -, hh, -⟩
  · cases hb
  · simp only [Value.ownBlock, Option.some.injEq] at hb
    subst hb
    exact (show Blk w g t cur from hh).lt
theorem storePut_some {l l' : List Hd} {bs : List Int} {i : Int} (h : storePut l bs = some (l', i)) : StoreOk l' ∧ 1 ≤ i ∧ i ≤ 101 ∧ StoreOk l ∧ blockOk bs = true := by
  unfold storePut at h
  split at h
  · next hc =>
    have hS := storeOk_iff.1 hc.1
    have he := Option.some.inj h
    have h3 := hc.2.2
    rw [he] at h3
    refine ⟨storeOk_iff.1 h3, ?_, ?_, hS, hc.2.1⟩
    all_goals
      unfold putSt at he
      split at he
      · next y hy =>
        have h1 := (Prod.mk.inj he).2
        obtain ⟨k, hk⟩ := List.mem_iff_getElem?.1 (List.mem_of_find?_eq_some hy)
        have := (hd_ok (hS.2 k y hk).1).1
        omega
      · have h1 := (Prod.mk.inj he).2
        have := freeId_range hS
        omega
  · cases h
/-- a store and ids of the call's own, and whether there are some -/
def OptFile (B : Nat) (o : Option (List Hd × List Int)) (r : Value) (w : World) : Prop := ∃ u ui, r = .tuple #[u, ui, .bool o.isSome] ∧ OwnS B 31 3 (EHd B) w u (o.elim [] (·.1)) ∧ Ints B w ui (o.elim [] (·.2))
theorem OptFile.none_ {B g g' : Nat} {w : World} {o : Option (List Hd × List Int)} (hB : B ≤ w.heap.size) (hg : g = w.heap.size) (h : o = none) : OptFile B o (.tuple #[.slice (some ⟨g, 0, none⟩) 0 0, .slice (some ⟨g', 0, none⟩) 0 0, .bool false]) ((w.alloc (.cells #[] 31)).alloc (.cells #[] 3)) := by
  subst h; exact ⟨_, _, rfl, (OwnS.lit _ _ _ _ hB hg).ext (EHd_ok _) ((Ext.refl _).alloc _), SlOf.empty _ _ _ _ _ _ _ (Nat.zero_le _) (fun _ => rfl)⟩
set_option maxRecDepth 4000 in
set_option maxHeartbeats 4000000 in
theorem specFileStore_c {B B' : Nat} {v vb : Value} {l : List Hd} {bs : List Int} (w : World) (h : Hds B w v l) (hb : Ints B' w vb bs) :
    Calls Tryd.prog 59 #[v, vb] w (RetP (OptFile w.heap.size (fileStore l bs)) w) := by
  have H := Lib.hid h; have HB := Lib.hid hb
  obtain ⟨A, c, rfl, -⟩ := h
  obtain ⟨Ab, cb, rfl, -⟩ := hb
  have C1 := fun W (e : Ext w W) => specStoreValid_c W (H.out.ext e)
  have C2 := fun W (e : Ext w W) => specFileValid_c W (HB.out.ext e)
  cases h1 : storeOk l with
  | false =>
    rw [h1] at C1
    have Hr : Hid (fileStore l bs = none) := Lib.hid (by simp [fileStore, h1])
    clear h1
    go_enter Tryd.func59, Tryd.ntmps59
    go_wp2_with (go_at_call 12; refine (C1 _ (Ext.refl _)).mono ?_; rintro e w1 ⟨rfl, he1⟩)
    go_ret3
    exact ⟨_, rfl, OptFile.none_ he1.size rfl Hr.out, (he1.alloc _).alloc _⟩
  | true =>
  rw [h1] at C1
  cases h2 : fileOk bs with
  | false =>
    rw [h2] at C2
    have Hr : Hid (fileStore l bs = none) := Lib.hid (by simp [fileStore, h2])
    clear h1 h2
    go_enter Tryd.func59, Tryd.ntmps59
    go_wp2_with (first | (go_at_call 12; refine (C1 _ (Ext.refl _)).mono ?_; rintro e w1 ⟨rfl, he1⟩) | (go_at_call 47; refine (C2 _ he1).mono ?_; rintro e w2 ⟨rfl, he2⟩))
    go_ret3
    exact ⟨_, rfl, OptFile.none_ (he1.trans he2).size rfl Hr.out, ((he1.trans he2).alloc _).alloc _⟩
  | true =>
  rw [h2] at C2
  have hS := storeOk_iff.1 h1
  have h16 := hS.1
  have h32 : bs.length ≤ 32 := by
    unfold fileOk at h2
    rw [Bool.and_eq_true, decide_eq_true_eq] at h2
    exact h2.2
  have Hp : Hid (fileStore l bs = putBs l (cutB bs)) := Lib.hid (by unfold fileStore; rw [if_pos ⟨h1, h2⟩])
  have C3 := fun W (e : Ext w W) => l3Copy_c W (H.out.ext e)
  have C4 := fun W (e : Ext w W) => l4Cut_c W (HB.out.ext e)
  have hcl : (cutB bs).length ≤ 4 := by rw [cutB_len]; omega
  generalize cutB bs = bl at *
  clear h1 h2
  go_enter Tryd.func59, Tryd.ntmps59
  go_wp2_with (first | (go_at_call 12; refine (C1 _ (Ext.refl _)).mono ?_; rintro e w1 ⟨rfl, he1⟩) | (go_at_call 47; refine (C2 _ he1).mono ?_; rintro e w2 ⟨rfl, he2⟩; have E2 := he1.trans he2) | (go_at_call 44; refine (C3 _ E2).mono ?_; rintro e w3 ⟨u3, rfl, hO, he3⟩; have E3 := E2.trans he3; have HO3 := Lib.hid (hO.weak E2.size fun _ _ _ gg => gg.keep E2.size (fun _ _ _ => rfl)); clear hO) | (go_at_call 66; refine (C4 _ (E3.alloc _)).mono ?_; rintro e w4 ⟨ub, rfl, hOb, he4⟩; have e34 := ((Ext.refl w3).alloc (.cells #[] 3)).trans he4))
  have hs3 : w3.heap.size + 1 ≤ w4.heap.size := by have := he4.size; simpa using this
  have hB4 : SlOf (w3.heap.size + 1) 29 1 (EBl (w3.heap.size + 1)) w4 ub bl := by
    have := hOb.sl (EBl_ok _) (Nat.le_refl _) (by unfold lim; omega)
    simpa using this
  obtain ⟨Ak, ck, rfl, -⟩ := id hB4
  have HB4 := Lib.hid hB4
  have E4 := E3.trans e34
  have HO4 := Lib.hid (HO3.out.ext (EHd_ok _) e34)
  have HI0 : Hid (OwnS w.heap.size 3 1 EInt w4 (.slice (some ⟨w3.heap.size, 0, none⟩) 0 0) []) := Lib.hid ((OwnS.lit0 3 1 EInt w3 E3.size).ext eint_ok he4)
  have hex : ∃ m, bl.length = m := ⟨_, rfl⟩
  obtain ⟨m, hm⟩ := hex
  rw [hm] at hcl ⊢
  have Hm := Lib.hid hm
  clear hm hB4 hOb C1 C2 C3 C4 HO3
  go_wp2
  go_loopw [7, 8, 10] (fun v7 v8 i wr => ∃ (k : Nat) (st : List Hd) (ids : List Int), k ≤ m ∧ i = .int .i64 k ∧ Ext w wr ∧ ExtR w3.heap.size w4 wr ∧ OwnS w.heap.size 31 3 (EHd w.heap.size) wr v7 st ∧ OwnS w.heap.size 3 1 EInt wr v8 ids ∧
      Hid (∀ b, v8.ownBlock = some b → b = w3.heap.size ∨ w4.heap.size ≤ b) ∧ Hid (StoreOk st ∧ ids.length = k ∧ putBs l bl = (putBs st (bl.drop k)).map fun q => (q.1, ids ++ q.2))) (fun _ _ i _ => m - (RowKit.intOf i).toNat)
  case atStart => exact ⟨0, l, [], by omega, rfl, E4, ExtR.refl _ _, HO4.out, HI0.out, Lib.hid (fun b hb => .inl (by simpa [Value.ownBlock] using hb.symm)), Lib.hid ⟨hS, rfl, by simp⟩⟩
  case round =>
    obtain ⟨k, st, ids, hk, rfl, he, hR, hO, hI, hV, hM⟩ := hrel
    have hst := hM.out.1.1
    have HSt := Lib.hid (hO.isHds (by unfold lim; omega))
    have HO := Lib.hid hO; have HI := Lib.hid hI
    clear hO hI
    obtain ⟨A8, c8, rfl⟩ := HI.out.form
    by_cases hlt : k < m
    · obtain ⟨x, hx⟩ := get_of_lt (l := bl) (k := k) (by rw [Hm.out]; exact hlt)
      have hk4 := (HB4.out.mono (Nat.le_refl _) (hR.keeps (Nat.lt_succ_self _)) fun _ _ _ g => g.keep (Nat.le_refl _) (hR.keeps (Nat.lt_succ_self _)) : SlOf (w3.heap.size + 1) 29 1 (EBl (w3.heap.size + 1)) wr _ bl)
      obtain ⟨A', c', hv', hA'⟩ := hk4
      rw [Hm.out] at hv'
      injection hv' with q1 _ q2
      subst q1; subst q2
      obtain ⟨b, o, cs, rfl, -, hbk, ⟨ux, hcx, hux⟩⟩ := hA'.2.2.2 k x hx
      rw [Nat.mul_one] at hcx
      have a0 := hbk.at_ hcx wr (Ext.refl _)
      have C5 := specStorePut_c wr HSt.out hux
      obtain ⟨Ax, cx, rfl, -⟩ := id hux
      have Hdr := Lib.hid (drop_cons hx)
      clear hA' hbk hcx hux hx
      cases hp : storePut st x with
      | none =>
        rw [hp] at C5
        have Hr : Hid (fileStore l bs = none) := Lib.hid (by rw [Hp.out, hM.out.2.2, Hdr.out, putBs_step, hp]; rfl)
        clear hp
        go_wp2_with (go_at_call 67; refine C5.mono ?_; rintro e w5 ⟨u5, rfl, ⟨u6, rfl, -⟩, he5⟩; simp only [Option.isSome_none, Option.elim_none])
        go_ret3
        exact ⟨_, rfl, OptFile.none_ (he.trans he5).size rfl Hr.out, ((he.trans he5).alloc _).alloc _⟩
      | some p =>
        obtain ⟨st', id'⟩ := p
        rw [hp] at C5
        have hps := storePut_some hp
        have Hr : Hid (putBs l bl = (putBs st' (bl.drop (k + 1))).map fun q => (q.1, (ids ++ [id']) ++ q.2)) := Lib.hid (by
          rw [hM.out.2.2, Hdr.out, putBs_step, hp, Option.bind_some, Option.map_map]
          congr 1
          funext q
          simp)
        have hidi : inI id' := by unfold inI; omega
        have hlo := HI.out.ownLt
        have HLo := Lib.hid hlo
        have Hps := Lib.hid hps
        clear hp hlo hps
        go_wp2_with (first | (go_at_call 67; refine C5.mono ?_; rintro e w5 ⟨u5, rfl, ⟨u6, rfl, hO6⟩, he5⟩; simp only [Option.isSome_some, Option.elim_some] at hO6 ⊢; have HO6 := Lib.hid hO6; have E5 := he.trans he5; have hR5 := hR.extend he5; have HI5 := Lib.hid (HI.out.ext eint_ok he5); clear hO6) | (at_builtin; go_must (refine wp_ap1W (B := w.heap.size) (by rfl) _ _ (by rfl) el_int eint_ok E5.size _ ids [id'] (by rfl) HI5.out 1 1 rfl (by decide) #[.int .i64 id'] _ (by rfl) (by first | rfl | simp) rfl (one_cells rfl) (one_E ⟨rfl, hidi⟩) ?_ ?_)))
        · have := hM.out.2.1; (try simp); unfold lim; omega
        · intro v6 w6 hO7 hg6 hk6 hb6
          obtain ⟨hR6, hV6⟩ := grown_R hR5 hV.out hg6 hb6
          have he6 : Ext w w6 := OwnS.grown_ext (HI5.out.ext eint_ok ((Ext.refl _).alloc _)) (E5.alloc _) hg6
          have hkp : Keeps wr.heap.size w5 w6 := fun b hB hb => by
            rw [hg6.block b (by simp; omega) fun e => ?_, Below.heap_alloc w5 _ b hb]
            have := HLo.out b e.symm
            omega
          have HO8 := Lib.hid ((HO6.out.keepB hkp fun _ _ _ gg => gg.keep (Nat.le_refl _) hkp).weak he.size fun _ _ _ gg => gg.keep he.size (fun _ _ _ => rfl))
          have HO7 := Lib.hid hO7
          have HR6 := Lib.hid hR6; have HV6 := Lib.hid hV6; have HE6 := Lib.hid he6
          clear hO7 hg6 hk6 hb6 hkp
          go_wp2
          go_roundw
          case rel => exact ⟨k + 1, st', ids ++ [id'], by omega, by go_num, HE6.out, HR6.out, HO8.out, HO7.out, HV6, Lib.hid ⟨Hps.out.1, by have := hM.out.2.1; simp; omega, Hr.out⟩⟩
          case measure => simp [RowKit.intOf]; omega
    · have hks : k = m := by omega
      subst hks
      have Hr : Hid (fileStore l bs = some (st, ids)) := Lib.hid (by
        rw [Hp.out, hM.out.2.2, List.drop_eq_nil_of_le (by rw [Hm.out]; exact Nat.le_refl _)]
        simp [putBs])
      have HI9 : Hid (Ints w.heap.size wr (.slice A8 ids.length c8) ids) := Lib.hid (HI.out.sl eint_ok (Nat.le_refl _) (by have := hM.out.2.1; unfold lim; omega))
      go_wp2
      go_ret3
      refine ⟨_, rfl, ?_, he⟩
      rw [Hr.out]
      exact ⟨_, _, rfl, HO.out, HI9.out⟩
end Go.Sf

/-! The reference writes a file of a volume. -/
namespace Go.Sf
open Go Go.RowKit Go.Proofs
theorem putBs_ok : ∀ (bl : List (List Int)) {l l' : List Hd} {ids : List Int}, StoreOk l → putBs l bl = some (l', ids) → StoreOk l' ∧ ids.length = bl.length := by
  intro bl
  induction bl with
  | nil =>
    intro l l' ids hl h
    cases h
    exact ⟨hl, rfl⟩
  | cons b r ih =>
    intro l l' ids hl h
    rw [putBs_step, Option.bind_eq_some_iff] at h
    obtain ⟨⟨l2, i⟩, h2, h⟩ := h
    rw [Option.map_eq_some_iff] at h
    obtain ⟨⟨l3, js⟩, h3, e⟩ := h
    cases e
    have := ih (storePut_some h2).1 h3
    exact ⟨this.1, by simp [this.2]⟩
theorem fileStore_ok {s s' : List Hd} {bs ids : List Int} (h : fileStore s bs = some (s', ids)) : StoreOk s' ∧ ids.length ≤ 4 ∧ StoreOk s ∧ fileOk bs = true := by
  unfold fileStore at h
  split at h
  · next hc =>
    have := putBs_ok _ (storeOk_iff.1 hc.1) h
    refine ⟨this.1, ?_, storeOk_iff.1 hc.1, hc.2⟩
    rw [this.2, cutB_len]
    have h2 := hc.2
    unfold fileOk at h2
    rw [Bool.and_eq_true, decide_eq_true_eq] at h2
    omega
  · cases h
set_option maxRecDepth 4000 in
set_option maxHeartbeats 4000000 in
theorem l11Write_c {B B' B2 : Nat} {vs vt vb : Value} {s : List Hd} {t : List It} {p : ByteArray} {bs : List Int} (w : World) (hs : Hds B w vs s) (ht : Its B' w vt t) (hb : Ints B2 w vb bs) (hp : p.size < lim) :
    Calls Tryd.prog 48 #[.agg #[vs, vt], .string p, vb] w (RetP (OptVol w.heap.size (writeT s t p bs)) w) := by
  have HS := Lib.hid hs; have HT := Lib.hid ht; have HB := Lib.hid hb; have HP := Lib.hid hp
  obtain ⟨A, c, rfl, -⟩ := hs
  obtain ⟨A2, c2, rfl, -⟩ := ht
  obtain ⟨Ab, cb, rfl, -⟩ := hb
  have hbk := Lib.hid ((Blk.new w 26 #[.slice A s.length c, .slice A2 t.length c2]).alloc (.cells #[.slice none 0 0, .slice none 0 0] 26))
  have hbr : Hid (Blk ((w.alloc (.cells #[.slice A s.length c, .slice A2 t.length c2] 26)).alloc (.cells #[.slice none 0 0, .slice none 0 0] 26)) (w.heap.size + 1) 26 #[.slice none 0 0, .slice none 0 0]) := Lib.hid (by
    have := Blk.new (w.alloc (.cells #[.slice A s.length c, .slice A2 t.length c2] 26)) 26 #[.slice none 0 0, .slice none 0 0]
    simpa using this)
  have e0 : Ext w ((w.alloc (.cells #[.slice A s.length c, .slice A2 t.length c2] 26)).alloc (.cells #[.slice none 0 0, .slice none 0 0] 26)) := ((Ext.refl w).alloc _).alloc _
  have d0 := hbk.out.cell 0; have d1 := hbk.out.cell 1
  simp at d0 d1
  have C1 := specFileStore_c _ (HS.out.ext e0) (HB.out.ext e0)
  clear hp
  go_enter Tryd.func48, Tryd.ntmps48
  go_wp2_with fail
  refine C1.mono ?_
  rintro e w1 ⟨u1, rfl, ⟨us, ui, rfl, hO, hI⟩, he1⟩
  have E1 := e0.trans he1
  have HO := Lib.hid hO; have HI := Lib.hid hI
  obtain ⟨As, cs, rfl⟩ := hO.form
  obtain ⟨Ai, ci, rfl, -⟩ := id hI
  have b1 := hbk.out.ext he1; have b2 := hbr.out.ext he1
  clear d0 d1 C1 hO hI
  have d0 := b1.cell 0; have d1 := b1.cell 1
  simp at d0 d1
  have Hb1 := Lib.hid b1; have Hb2 := Lib.hid b2
  clear b1 b2
  have hw1 := E1.size
  cases hf : fileStore s bs with
  | none =>
    have Hr : Hid (writeT s t p bs = none) := Lib.hid (by unfold writeT; rw [hf]; rfl)
    rw [hf] at HI HO
    simp only [Option.isSome_none, Option.elim_none, List.length_nil] at *
    have C2 := specTreePut_c (x := ⟨p, false, []⟩) w1 (HT.out.ext E1) (⟨_, rfl, HP.out, HI.out⟩ : ItV _ w1 (.agg #[.string p, .bool false, .slice Ai 0 ci]) ⟨p, false, []⟩)
    generalize (treePut t ⟨p, false, []⟩) = tp at *
    clear hf
    go_wp2_with (go_at_call 43; refine C2.mono ?_; rintro e w2 ⟨u2, rfl, ⟨ut, rfl, -⟩, he2⟩; have b3 := Hb2.out.ext he2; have c0 := b3.cell 0; have c1 := b3.cell 1; have f0 := b3.frozen 0; have f1 := b3.frozen 1; simp at c0 c1)
    obtain ⟨p1, -, p3, -⟩ := put_two (a := .slice none 0 0) (b := .slice none 0 0) b3
    have z0 := p1.cell 0; have z1 := p1.cell 1
    simp at z0 z1
    exact bodyPost_ret (v := .tuple #[.agg #[.slice none 0 0, .slice none 0 0], .bool false]) (by simp [results, Tryd.results48, go_sem, z0, z1]) rfl ⟨_, rfl, OptVol.none_ Hr.out, p3 w (E1.trans he2) (by omega)⟩
  | some q =>
  obtain ⟨s', ids⟩ := q
  have hs16 := (fileStore_ok hf).1.1
  rw [hf] at HI HO
  simp only [Option.isSome_some, Option.elim_some] at *
  have C2 := specTreePut_c (x := ⟨p, false, ids⟩) w1 (HT.out.ext E1) (⟨_, rfl, HP.out, HI.out⟩ : ItV _ w1 (.agg #[.string p, .bool false, .slice Ai ids.length ci]) ⟨p, false, ids⟩)
  cases ho : treePut t ⟨p, false, ids⟩ with
  | none =>
    have Hr : Hid (writeT s t p bs = none) := Lib.hid (by unfold writeT; rw [hf, Option.bind_some, ho]; rfl)
    rw [ho] at C2
    clear hf ho
    go_wp2_with (go_at_call 43; refine C2.mono ?_; rintro e w2 ⟨u2, rfl, ⟨ut, rfl, -⟩, he2⟩; simp only [Option.isSome_none]; have b3 := Hb2.out.ext he2; have c0 := b3.cell 0; have c1 := b3.cell 1; have f0 := b3.frozen 0; have f1 := b3.frozen 1; simp at c0 c1)
    obtain ⟨p1, -, p3, -⟩ := put_two (a := .slice none 0 0) (b := .slice none 0 0) b3
    have z0 := p1.cell 0; have z1 := p1.cell 1
    simp at z0 z1
    exact bodyPost_ret (v := .tuple #[.agg #[.slice none 0 0, .slice none 0 0], .bool false]) (by simp [results, Tryd.results48, go_sem, z0, z1]) rfl ⟨_, rfl, OptVol.none_ Hr.out, p3 w (E1.trans he2) (by omega)⟩
  | some t' =>
    rw [ho] at C2
    have Hr : Hid (writeT s t p bs = some ((fileOf t p).elim s' fun x => (freeAll s' x.ids).getD [], t')) := Lib.hid (by unfold writeT; rw [hf, Option.bind_some, ho]; rfl)
    clear hf ho
    go_wp2_with fail
    refine C2.mono ?_
    rintro e w2 ⟨u2, rfl, ⟨ut, rfl, hT'⟩, he2⟩
    simp only [Option.isSome_some, Option.getD_some] at hT' ⊢
    have HT' := Lib.hid hT'
    obtain ⟨A5, c5, rfl, -⟩ := id hT'
    have E2 := E1.trans he2
    have b1 := Hb1.out.ext he2
    have q1 := b1.cell 1
    simp at q1
    have HO2 := Lib.hid (HO.out.ext (EHd_ok _) he2)
    have C3 := l11Ids_c p w2 (HT.out.ext E2)
    clear hT' b1 d0 d1 C2
    cases hx : fileOf t p with
    | none =>
      rw [hx] at C3 Hr
      simp only [Option.toList_none, Option.elim_none] at C3 Hr
      clear hx
      go_wp2_with (go_at_call 60; refine C3.mono ?_; rintro e w3 ⟨u3, rfl, ⟨A3, c3, rfl, -⟩, he3⟩; simp only [List.length_nil]; have E3 := E2.trans he3; have b4 := Hb2.out.ext (he2.trans he3); have c0 := b4.cell 0; have c1 := b4.cell 1; have f0 := b4.frozen 0; have f1 := b4.frozen 1; simp at c0 c1)
      obtain ⟨p1, p2, p3, -⟩ := put_two (a := .slice As s'.length cs) (b := .slice A5 t'.length c5) b4
      have z0 := p1.cell 0; have z1 := p1.cell 1
      simp at z0 z1
      refine bodyPost_ret (v := .tuple #[.agg #[.slice As s'.length cs, .slice A5 t'.length c5], .bool true]) (by simp [results, Tryd.results48, go_sem, z0, z1]) rfl ⟨_, rfl, ?_, p3 w E3 (by omega)⟩
      rw [Hr.out]
      refine ⟨_, _, rfl, ?_, ?_⟩
      · exact ((HO2.out.ext (EHd_ok _) he3)).hd e0.size p2 (by decide) (by decide)
      · exact Its.keepT ((HT'.out.ext he3).keep E1.size (fun _ _ _ => rfl)) p2 (by decide) (by decide)
    | some x =>
      rw [hx] at C3 Hr
      simp only [Option.toList_some, Option.elim_some] at C3 Hr
      clear hx
      go_wp2_with fail
      refine C3.mono ?_
      rintro e w3 ⟨u3, rfl, ⟨A3, c3, rfl, hA3⟩, he3⟩
      simp only [List.length_cons, List.length_nil, Nat.zero_add]
      obtain ⟨b, o, u, rfl, -, -, -, hu, -, -, hc2⟩ := Its.at_ hA3 (k := 0) (x := x) rfl
      obtain ⟨Ax, cx, rfl, -⟩ := id hu
      have y2 := hc2 w3 (Ext.refl _)
      simp only [Nat.zero_mul, Nat.add_zero] at y2
      have E3 := E2.trans he3
      have hh := (HO2.out.ext (EHd_ok _) he3)
      have HH : Hid (Hds _ w3 (.slice As s'.length cs) s') := Lib.hid (hh.isHds (by unfold lim; omega))
      have C4 := FileFree_c w3 HH.out hu
      have hs3 := E3.size
      have Hr2 : Hid (∀ W v6, OptHds w3.heap.size (freeAll s' x.ids) v6 W → ∃ A6 c6 n6, v6 = .tuple #[.slice A6 n6 c6, .bool (freeAll s' x.ids).isSome] ∧ OwnS w3.heap.size 31 3 (EHd w3.heap.size) W (.slice A6 n6 c6) ((freeAll s' x.ids).getD [])) := Lib.hid fun W v6 h => by
        obtain ⟨v, rfl, hO⟩ := h
        obtain ⟨A6, c6, rfl⟩ := hO.form
        exact ⟨A6, c6, _, rfl, hO⟩
      generalize freeAll s' x.ids = fr at *
      clear hA3 hc2 hh C3
      go_wp2_with (go_at_call 46; refine C4.mono ?_; rintro e w4 ⟨u4, rfl, ho4, he4⟩; obtain ⟨A6, c6, n6, rfl, hO6⟩ := Hr2.out _ _ ho4; have HO6 := Lib.hid (hO6.weak hs3 fun _ _ _ gg => gg.keep hs3 (fun _ _ _ => rfl)); clear ho4 hO6; have E4 := E3.trans he4; have b4 := Hb2.out.ext ((he2.trans he3).trans he4); have c0 := b4.cell 0; have c1 := b4.cell 1; have f0 := b4.frozen 0; have f1 := b4.frozen 1; simp at c0 c1)
      obtain ⟨p1, p2, p3, -⟩ := put_two (a := .slice A6 n6 c6) (b := .slice A5 t'.length c5) b4
      have z0 := p1.cell 0; have z1 := p1.cell 1
      simp at z0 z1
      refine bodyPost_ret (v := .tuple #[.agg #[.slice A6 n6 c6, .slice A5 t'.length c5], .bool true]) (by simp [results, Tryd.results48, go_sem, z0, z1]) rfl ⟨_, rfl, ?_, p3 w E4 (by omega)⟩
      rw [Hr.out]
      refine ⟨_, _, rfl, ?_, ?_⟩
      · exact HO6.out.hd (Nat.le_refl _) p2 (by decide) (by decide)
      · exact Its.keepT ((HT'.out.ext (he3.trans he4)).keep E1.size (fun _ _ _ => rfl)) p2 (by decide) (by decide)
set_option maxRecDepth 4000 in
set_option maxHeartbeats 4000000 in
theorem specVolumeWrite_c {B B' B2 : Nat} {vs vt vb : Value} {s : List Hd} {t : List It} {p : ByteArray} {bs : List Int} (w : World) (hs : Hds B w vs s) (ht : Its B' w vt t) (hb : Ints B2 w vb bs) (hp : p.size < lim) :
    Calls Tryd.prog 33 #[.agg #[vs, vt], .string p, vb] w (RetP (OptVol w.heap.size (volWrite s t p bs)) w) := by
  have HS := Lib.hid hs; have HT := Lib.hid ht; have HB := Lib.hid hb; have HP := Lib.hid hp
  obtain ⟨A, c, rfl, -⟩ := hs
  obtain ⟨A2, c2, rfl, -⟩ := ht
  obtain ⟨Ab, cb, rfl, -⟩ := hb
  have hbk := Lib.hid ((Blk.new w 26 #[.slice A s.length c, .slice A2 t.length c2]).alloc (.cells #[.slice none 0 0, .slice none 0 0] 26))
  have hbr : Hid (Blk ((w.alloc (.cells #[.slice A s.length c, .slice A2 t.length c2] 26)).alloc (.cells #[.slice none 0 0, .slice none 0 0] 26)) (w.heap.size + 1) 26 #[.slice none 0 0, .slice none 0 0]) := Lib.hid (by
    have := Blk.new (w.alloc (.cells #[.slice A s.length c, .slice A2 t.length c2] 26)) 26 #[.slice none 0 0, .slice none 0 0]
    simpa using this)
  have e0 : Ext w ((w.alloc (.cells #[.slice A s.length c, .slice A2 t.length c2] 26)).alloc (.cells #[.slice none 0 0, .slice none 0 0] 26)) := ((Ext.refl w).alloc _).alloc _
  have d0 := hbk.out.cell 0; have d1 := hbk.out.cell 1
  simp at d0 d1
  have C1 := specVolumeValid_c _ (HS.out.ext e0) (HT.out.ext e0)
  have C2 := fun W (e : Ext w W) => specFileValid_c W (HB.out.ext e)
  clear hp
  go_enter Tryd.func33, Tryd.ntmps33
  cases hv : volOk s t with
  | false =>
    rw [hv] at C1
    have Hr : Hid (volWrite s t p bs = none) := Lib.hid (by unfold volWrite; rw [hv]; simp)
    clear hv
    go_wp2_with (go_at_call 7; refine C1.mono ?_; rintro e w2 ⟨rfl, he2⟩; have b3 := hbr.out.ext he2; have c0 := b3.cell 0; have c1 := b3.cell 1; have f0 := b3.frozen 0; have f1 := b3.frozen 1; simp at c0 c1)
    obtain ⟨p1, -, p3, -⟩ := put_two (a := .slice none 0 0) (b := .slice none 0 0) b3
    have z0 := p1.cell 0; have z1 := p1.cell 1
    simp at z0 z1
    exact bodyPost_ret (v := .tuple #[.agg #[.slice none 0 0, .slice none 0 0], .bool false]) (by simp [results, Tryd.results33, go_sem, z0, z1]) rfl ⟨_, rfl, OptVol.none_ Hr.out, p3 w (e0.trans he2) (by omega)⟩
  | true =>
    rw [hv] at C1
    cases hf : fileOk bs with
    | false =>
      rw [hf] at C2
      have Hr : Hid (volWrite s t p bs = none) := Lib.hid (by unfold volWrite; rw [hf]; simp)
      clear hv hf
      go_wp2_with (first | (go_at_call 7; refine C1.mono ?_; rintro e w2 ⟨rfl, he2⟩) | (go_at_call 47; refine (C2 _ (e0.trans he2)).mono ?_; rintro e w3 ⟨rfl, he3⟩; have b3 := hbr.out.ext (he2.trans he3); have c0 := b3.cell 0; have c1 := b3.cell 1; have f0 := b3.frozen 0; have f1 := b3.frozen 1; simp at c0 c1))
      obtain ⟨p1, -, p3, -⟩ := put_two (a := .slice none 0 0) (b := .slice none 0 0) b3
      have z0 := p1.cell 0; have z1 := p1.cell 1
      simp at z0 z1
      exact bodyPost_ret (v := .tuple #[.agg #[.slice none 0 0, .slice none 0 0], .bool false]) (by simp [results, Tryd.results33, go_sem, z0, z1]) rfl ⟨_, rfl, OptVol.none_ Hr.out, p3 w (e0.trans (he2.trans he3)) (by omega)⟩
    | true =>
      rw [hf] at C2
      have Hr : Hid (volWrite s t p bs = writeT s t p bs) := Lib.hid (by unfold volWrite; rw [if_pos ⟨hv, hf⟩])
      have C3 := fun W (e : Ext w W) => l11Write_c W (HS.out.ext e) (HT.out.ext e) (HB.out.ext e) HP.out
      clear hv hf
      go_wp2_with (first | (go_at_call 7; refine C1.mono ?_; rintro e w2 ⟨rfl, he2⟩; have b2 := hbk.out.ext he2; have q0 := b2.cell 0; have q1 := b2.cell 1; simp at q0 q1) | (go_at_call 47; refine (C2 _ (e0.trans he2)).mono ?_; rintro e w3 ⟨rfl, he3⟩; have b3 := hbk.out.ext (he2.trans he3); have r0 := b3.cell 0; have r1 := b3.cell 1; simp at r0 r1; clear q0 q1; have E3 := e0.trans (he2.trans he3)) | (go_at_call 48; refine (C3 _ E3).mono ?_; rintro e w4 ⟨u4, rfl, ⟨us, ut, rfl, hO, hT⟩, he4⟩; obtain ⟨A6, c6, rfl⟩ := hO.form; obtain ⟨A5, c5, rfl, -⟩ := id hT; have E4 := E3.trans he4; have b4 := hbr.out.ext ((he2.trans he3).trans he4); have c0 := b4.cell 0; have c1 := b4.cell 1; have f0 := b4.frozen 0; have f1 := b4.frozen 1; simp at c0 c1; have HO := Lib.hid hO; have HT4 := Lib.hid hT; clear hO hT))
      obtain ⟨p1, p2, p3, -⟩ := put_two (a := .slice A6 ((writeT s t p bs).elim [] (·.1)).length c6) (b := .slice A5 ((writeT s t p bs).elim [] (·.2)).length c5) b4
      have z0 := p1.cell 0; have z1 := p1.cell 1
      simp at z0 z1
      have hs3 := E3.size
      refine bodyPost_ret (v := .tuple #[.agg #[.slice A6 ((writeT s t p bs).elim [] (·.1)).length c6, .slice A5 ((writeT s t p bs).elim [] (·.2)).length c5], .bool (writeT s t p bs).isSome]) (by simp [results, Tryd.results33, go_sem, z0, z1]) rfl ⟨_, rfl, ?_, p3 w E4 (by omega)⟩
      rw [Hr.out]
      refine ⟨_, _, rfl, ?_, ?_⟩
      · exact HO.out.hd hs3 p2 (by decide) (by decide)
      · exact Its.keepT (HT4.out.keep hs3 (fun _ _ _ => rfl)) p2 (by decide) (by decide)
end Go.Sf

/-! The reference keeps and frees the blocks of a tree; what it hands back is a store again. -/
namespace Go.Sf
open Go Go.RowKit Go.Proofs
/-- a store of the call's own, small, and a word on it -/
def WHds (B : Nat) (r : Value) (w : World) : Prop := ∃ v l b, r = .tuple #[v, .bool b] ∧ OwnS B 31 3 (EHd B) w v l ∧ l.length ≤ 16
theorem WHds.none_ {B : Nat} {w : World} (hB : B ≤ w.heap.size) : WHds B (.tuple #[.slice (some ⟨w.heap.size, 0, none⟩) 0 0, .bool false]) (w.alloc (.cells #[] 31)) :=
  ⟨_, [], _, rfl, OwnS.lit0 _ _ _ _ hB, by simp⟩
theorem dropAll_len : ∀ (ids : List Int) {l l' : List Hd}, dropAll l ids = some l' → l'.length ≤ l.length := by
  intro ids
  induction ids with
  | nil => intro l l' h; cases h; exact Nat.le_refl _
  | cons i r ih =>
    intro l l' h
    unfold dropAll at h
    rw [Option.bind_eq_some_iff] at h
    obtain ⟨l2, h2, h3⟩ := h
    exact Nat.le_trans (ih h3) (dropId_len h2)
theorem freeAll_len (l : List Hd) (ids : List Int) : ((freeAll l ids).getD []).length ≤ l.length := by
  unfold freeAll
  split
  · cases h : dropAll l ids with
    | none => simp
    | some l' => exact dropAll_len _ h
  · simp
end Go.Sf

/-! The reference copies a disk. -/
namespace Go.Sf
open Go Go.RowKit Go.Proofs
end Go.Sf
