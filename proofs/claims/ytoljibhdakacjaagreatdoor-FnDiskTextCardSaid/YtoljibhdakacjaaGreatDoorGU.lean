/- slices.Delete of one node. -/
import Derived.Test.YtoljibhdakacjaaGreatDoorGE
import Derived.Lib.OwnBridge
import Derived.Test.YtoljibhdakacjaaGreatDoorGT
import Derived.Test.YtoljibhdakacjaaGreatDoorGF
import Derived.Test.YtoljibhdakacjaaGreatDoorHG
import Derived.Test.YtoljibhdakacjaaGreatDoorGQ
import Derived.Test.YtoljibhdakacjaaGreatDoorHH
/-! slices.Delete of one node. -/
namespace Go.Sf
open Go Go.RowKit Go.Proofs
def encP : Option Nat → Value
  | some b => .pointer (some ⟨b, 0, none⟩)
  | none => .pointer none
theorem encP_one : ∀ x, (encP x).oneCell' = true := fun x => by cases x <;> rfl
theorem ptr_xs {w : World} {xs : List Value} {bs : List Nat} (hl : xs.length = bs.length * 1) (h : ∀ k x, bs[k]? = some x → EPtr w xs.toArray (k * 1) x) : xs = (bs.map some).map encP := by
  apply List.ext_getElem?
  intro j
  rw [List.map_map, List.getElem?_map]
  cases hb : bs[j]? with
  | none =>
    have : bs.length ≤ j := List.getElem?_eq_none_iff.1 hb
    rw [List.getElem?_eq_none (by omega)]; rfl
  | some b =>
    have := h j b hb
    unfold EPtr at this
    rw [Nat.mul_one, List.getElem?_toArray] at this
    rw [this]; rfl
theorem ptr_own {B n : Nat} {w : World} {v : Value} {bs : List Nat} (hn : bs.length = n) (h : w.ownsRow B 81 1 v n ((bs.map some).map encP)) : OwnS B 81 1 EPtr w v bs := by
  subst hn
  refine ⟨_, h, fun k x hk => ?_⟩
  unfold EPtr
  rw [Nat.mul_one, List.getElem?_toArray, List.map_map, List.getElem?_map, hk]
  rfl
end Go.Sf

/-! A tree of nodes gets one node less. -/
namespace Go.Sf
open Go Go.RowKit
theorem TreeAt.cut {B : Nat} {w4 w7 : World} {l : List It} {adr : Key → Nat} {kv : Key → Value} {i : Nat} {x : It} {v' : Value} (h : TreeAt B w4 l adr kv) (hs : Srt l) (hx : l[i]? = some x)
    (hk : isKey l (key x).dropLast)
    (hO : OwnS B 81 1 EPtr w7 v' ((kidsOf (l.eraseIdx i) (key x).dropLast).map fun y => adr (key y)))
    (hgr : w4.grownBy w7 (kv (key x).dropLast).ownBlock) (hvb : v'.ownBlock = (kv (key x).dropLast).ownBlock) :
    ∃ kv', TreeAt B (w7.setCell ⟨adr (key x).dropLast, 3, none⟩ v') (l.eraseIdx i) adr kv' ∧ B ≤ adr (key x).dropLast := by
  classical
  have hfar := fun k (e : (key x).dropLast ≠ k) => kids_cut_far hx e
  generalize (key x).dropLast = k at *
  have hown : ∀ q, isKey l q → OwnS B 81 1 EPtr w4 (kv q) ((kidsOf l q).map fun y => adr (key y)) := fun q hq => by
    obtain ⟨_, _, ⟨-, ho, -⟩, -⟩ := h.node hq; exact ho
  have hnk : ∀ g, (kv k).ownBlock = some g → ∀ b cs, Blk w4 b 92 cs → b ≠ g := fun g hg b cs hb => by
    obtain ⟨-, cs', hb'⟩ := (hown k hk).block hg
    exact Blk.ne_ hb hb' (by decide)
  have keepN : ∀ b cs, Blk w4 b 92 cs → Blk w7 b 92 cs := fun b cs hb =>
    (hgr.block b hb.lt (fun e => hnk b e.symm b cs hb rfl)).trans hb
  have keepI : ∀ u ids, Ints B w4 u ids → Ints B (w7.setCell ⟨adr k, 3, none⟩ v') u ids := fun u ids hi => by
    obtain ⟨_, _, ⟨-, -, _, hbk, -⟩, -⟩ := h.node hk
    obtain ⟨A, c, hv, a1, a2, a3, a4⟩ := hi
    refine ⟨A, c, hv, a1, a2, a3, fun j y hy => ?_⟩
    obtain ⟨b, o, cs, e1, e2, e3, e4⟩ := a4 j y hy
    refine ⟨b, o, cs, e1, e2, ?_, e4⟩
    have h7 : Blk w7 b 3 cs := (hgr.block b e3.lt (fun e => by
      obtain ⟨-, cs', hb'⟩ := (hown k hk).block e.symm
      exact Blk.ne_ e3 hb' (by decide) rfl)).trans e3
    exact h7.far (p := ⟨adr k, 3, none⟩) (Blk.ne_ e3 hbk (by decide)) v'
  have hak7 : ∃ cs, Blk w7 (adr k) 92 cs := by
    obtain ⟨_, _, ⟨-, -, _, hbk, -⟩, -⟩ := h.node hk
    exact ⟨_, keepN _ _ hbk⟩
  obtain ⟨csk, hak⟩ := hak7
  refine ⟨fun q => if q = k then v' else kv q, ?_, ?_⟩
  rotate_left
  · obtain ⟨_, _, ⟨hb, -⟩, -⟩ := h.node hk; exact hb
  have old : ∀ q dir ids, isKey l q → Node B w4 l adr kv q dir ids →
      Node B (w7.setCell ⟨adr k, 3, none⟩ v') (l.eraseIdx i) adr (fun q => if q = k then v' else kv q) q dir ids := fun q dir ids hq hn => by
    obtain ⟨a1, -, uq, a3, a4⟩ := hn
    have b3 := keepN _ _ a3
    have b4 := keepI _ _ a4
    unfold Node
    dsimp only
    refine ⟨a1, ?_, ?_⟩
    · by_cases hqk : q = k
      · subst hqk
        rw [if_pos rfl]
        refine hO.frame (fun g hg => ?_) (fun _ _ _ e => e)
        refine Below.heap_setCell w7 ⟨adr q, 3, none⟩ v' g ?_
        obtain ⟨-, cs', hb'⟩ := hO.block hg
        exact Blk.ne_ hb' hak (by decide)
      · rw [if_neg hqk, hfar q (fun e => hqk e.symm)]
        refine (hown q hq).frame (fun g hg => ?_) (fun _ _ _ e => e)
        obtain ⟨-, cs', hb'⟩ := (hown q hq).block hg
        have e1 : w7.heap[g]? = w4.heap[g]? := hgr.block g hb'.lt (fun e => hqk (h.sep q k g hq hk hg e.symm))
        rw [← e1]
        refine Below.heap_setCell w7 ⟨adr k, 3, none⟩ v' g ?_
        exact Blk.ne_ (e1.trans hb' : Blk w7 g 81 cs') hak (by decide)
    · by_cases hqk : q = k
      · subst hqk
        rw [if_pos rfl]
        exact ⟨uq, by simpa using b3.set_ 3 v', b4⟩
      · rw [if_neg hqk]
        exact ⟨uq, b3.far (p := ⟨adr k, 3, none⟩) (fun e => hqk (h.inj q k hq hk e)) v', b4⟩
  have hblk : ∀ q g, (if q = k then v' else kv q).ownBlock = some g → (kv q).ownBlock = some g := fun q g e => by
    split at e
    · next hq => subst hq; rw [← hvb]; exact e
    · exact e
  refine ⟨old [] true [] (.inl rfl) h.root, fun y hy => ?_, fun q q' hq hq' e => ?_, fun q q' g hq hq' e1 e2 => ?_⟩
  · have hyl := ((mem_erase hs hx).1 hy).1
    exact old _ _ _ (.inr ⟨y, hyl, rfl⟩) (h.nodes y hyl)
  · exact h.inj _ _ (erase_key hs hx hq).1 (erase_key hs hx hq').1 e
  · exact h.sep _ _ _ (erase_key hs hx hq).1 (erase_key hs hx hq').1 (hblk _ _ e1) (hblk _ _ e2)
end Go.Sf

/-! The program drops a node. -/
namespace Go.Sf
open Go Go.RowKit Go.Proofs
/-- what is no row of cells stays -/
def KeepsO (w w' : World) : Prop := ∀ b, b < w.heap.size → (∀ t cs, ¬ Blk w b t cs) → w'.heap[b]? = w.heap[b]?
section
variable {w0 w : World} {l : List It} {adr : Key → Nat} {kv : Key → Value}
end
end Go.Sf

/-! The program frees a file. -/
namespace Go.Sf
open Go Go.RowKit Go.Proofs Go.Maps
theorem dropId_of {l : List Hd} (h : StoreOk l) {k : Nat} {y : Hd} (hy : l[k]? = some y) : dropId l y.id = some (dropAt l k) := by
  have hat : hAt l y.id = (k : Int) := by
    rcases atG_find (idIs y.id) l 0 with ⟨h1, -⟩ | ⟨i, x, h1, h2, -, h4, -⟩
    · exact absurd (List.find?_eq_none.1 h1 y (List.mem_of_getElem? hy)) (by simp [idIs, eqb_true])
    · have he : x.id = y.id := by simpa [idIs, eqb_iff] using h2
      have := h.inj h1 hy he
      subst this
      rw [hAt, h4]; simp
  unfold dropId
  rw [if_pos ⟨storeOk_iff.2 h, by rw [hat]; omega⟩, hat]
  simp
/-- each block is used as often as it is named -/
def HasUses (l : List Hd) (r : List Int) : Prop := ∀ i, i ∈ r → ∃ h, findH l i = some h ∧ (cntI i r : Int) ≤ h.uses
theorem cntI_cons (i j : Int) (r : List Int) : cntI i (j :: r) = cntI i r + if j = i then 1 else 0 := by
  unfold cntI
  by_cases e : j = i
  · subst e
    rw [List.filter_cons_of_pos (by exact eqb_true.2 rfl), if_pos rfl]; rfl
  · rw [List.filter_cons_of_neg (by simp [eqb_false.2 e]), if_neg e]; rfl
theorem cntI_pos {i : Int} {r : List Int} (h : i ∈ r) : 1 ≤ cntI i r := by
  unfold cntI
  exact List.length_pos_of_mem (List.mem_filter.2 ⟨h, eqb_true.2 rfl⟩)
theorem uses_step {l : List Hd} (h : StoreOk l) {i : Int} {r : List Int} (hu : HasUses l (i :: r)) : ∃ k y, l[k]? = some y ∧ y.id = i ∧ HasUses (dropAt l k) r := by
  obtain ⟨y, hy, hc⟩ := hu i (by simp)
  obtain ⟨h1, h2⟩ := findH_some hy
  obtain ⟨k, hk⟩ := List.mem_iff_getElem?.1 h1
  refine ⟨k, y, hk, h2, fun j hj => ?_⟩
  rw [find_dropAt h hk, h2]
  rw [cntI_cons, if_pos rfl] at hc
  by_cases e : j = i
  · subst e
    have := cntI_pos hj
    rw [if_pos rfl, if_neg (by omega)]
    exact ⟨_, rfl, by show _ ≤ y.uses - 1; omega⟩
  · rw [if_neg e]
    obtain ⟨z, hz, hc2⟩ := hu j (by simp [hj])
    rw [cntI_cons, if_neg (fun e' => e e'.symm)] at hc2
    exact ⟨z, hz, hc2⟩
theorem cntI_le_T {i : Int} {t : List It} {x : It} (h : x ∈ t) : cntI i x.ids ≤ cntT i t := by
  unfold cntT
  induction t with
  | nil => cases h
  | cons y r ih =>
    rw [List.map_cons, List.sum_cons]
    rcases List.mem_cons.1 h with rfl | h
    · omega
    · have := ih h; omega
theorem vol_tree {s : List Hd} {t : List It} (h : volOk s t = true) : treeOk t = true := by unfold volOk at h; simp only [Bool.and_eq_true] at h; exact h.2.1
theorem vol_store {s : List Hd} {t : List It} (h : volOk s t = true) : StoreOk s := by unfold volOk at h; simp only [Bool.and_eq_true] at h; exact storeOk_iff.1 h.1
/-- all that is made of cells stays -/
def KeepsC (w w' : World) : Prop := ∀ g t cs, Blk w g t cs → Blk w' g t cs
theorem KeepsC.t {w w' : World} (h : KeepsC w w') (t : TypeId) : KeepsT t w w' := fun g t' cs _ hb => h g t' cs hb
theorem Ext.keepsC {w w' : World} (h : Ext w w') : KeepsC w w' := fun _ _ _ hb => hb.ext h
theorem KeepsC.trans {w w' w'' : World} (h : KeepsC w w') (k : KeepsC w' w'') : KeepsC w w'' := fun g t cs hb => k g t cs (h g t cs hb)
theorem map_keepsC {b n : Nat} {M : Lit → Option Value} {w w' : World} {P : Program} {k : TypeId} (h : MapV P k b n M w) (hg : w.grownBy w' (some b)) : KeepsC w w' := fun g t cs hb => by
  by_cases e : t = 9
  · exact map_keepsT h hg 3 g t cs (by rw [e]; decide) hb
  · exact map_keepsT h hg 9 g t cs e hb
def DropMP (w0 w : World) (B b n : Nat) (s : List Hd) (e : Ending) (w' : World) : Prop :=
  e = .returned (.bool true) ∧ Ext w0 w' ∧ KeepsC w w' ∧ StoreAt B b n s w'
set_option maxRecDepth 4000 in
set_option maxHeartbeats 2000000 in
theorem bsDrop_c {B b n k : Nat} {s : List Hd} {y : Hd} {w0 w : World} (hs : StoreOk s) (h : StoreAt B b n s w) (hn : n < maxLen) (h0 : Ext w0 w) (hb : w0.heap.size ≤ b) (hy : s[k]? = some y) :
    Calls Tryz.prog 156 #[.map (some b), .int .i64 y.id] w (DropMP w0 w B b (n + 1) (dropAt s k)) := by
  have hok := hd_ok (hs.2 k y hy).1
  have hfd := fun i => find_dropAt hs hy i
  have hf := hs.find hy
  obtain ⟨M, hV, hM⟩ := h
  obtain ⟨u, hr, hu⟩ := (hM y.id).2 y hf
  obtain ⟨Au, cu, rfl, hAu⟩ := hu
  have hin : inI y.id := by unfold inI; omega
  have hkey := keyI hin
  have HV := Lib.hid hV; have HM := Lib.hid hM; have HF := Lib.hid hfd; have H0 := Lib.hid h0
  have HU : Hid (Ints B w (.slice Au y.bytes.length cu) y.bytes) := Lib.hid ⟨_, _, rfl, hAu⟩
  obtain ⟨yk, yb, yu⟩ := y
  simp only at *
  have hwr : IntKind.i64.wrap (yu - 1) = yu - 1 := IntWalk.i64_in _ (by omega)
  have ea : Ext w (w.alloc (.cells #[.int .i64 yk, .slice Au yb.length cu, .int .i64 yu] 110)) := (Ext.refl w).alloc _
  clear hM hAu hs hy hf hfd h0
  by_cases hu1 : yu = 1
  · subst hu1
    go_enter Tryz.func156, Tryz.ntmps156
    go_wp2_with (first | (at_lookup; refine wp_mlook_ok_some rfl _ _ rfl lawI underStore (zeroHd _) rfl hV _ _ rfl hkey hr ?_) | (at_delete; refine wp_mdel (w0 := w0) rfl _ _ rfl lawI underStore (H0.out.trans ea) hb rfl (HV.out.ext ea) _ _ rfl hkey ?_; intro w6 hM6 he6 hg6))
    have hK := map_keepsC (HV.out.ext ea) hg6
    go_ret
    refine ⟨rfl, he6, ea.keepsC.trans hK, _, hM6.mono (by omega), fun i => ?_⟩
    have hfi := HF.out i
    by_cases e : i = yk
    · subst e
      rw [if_pos rfl, if_pos (by trivial)] at hfi
      rw [hfi, updM_same]
      exact ⟨fun _ => rfl, fun _ h => by cases h⟩
    · rw [if_neg e] at hfi
      rw [hfi, updM_other (kI_ne e)]
      exact ((HM.out.ext ea).keepT (hK.t 9) (by decide)) i
  · have hb1 : (yu == 1) = false := by simp [hu1]
    have eb : Ext w (w.alloc (.cells #[.int .i64 yk, .slice Au yb.length cu, .int .i64 (yu - 1)] 110)) := (Ext.refl w).alloc _
    go_enter Tryz.func156, Tryz.ntmps156
    go_wp2_with (first | (at_lookup; refine wp_mlook_ok_some rfl _ _ rfl lawI underStore (zeroHd _) rfl hV _ _ rfl hkey hr ?_) | (at_mapUpdate; (refine wp_mput (w0 := w0) rfl _ _ _ rfl lawI underStore (H0.out.trans eb) hb rfl (HV.out.ext eb) hn _ _ _ rfl rfl hkey ?_; intro w6 hM6 he6 hg6)))
    have hK := map_keepsC (HV.out.ext eb) hg6
    go_ret
    refine ⟨rfl, he6, eb.keepsC.trans hK, _, hM6, fun i => ?_⟩
    have hfi := HF.out i
    by_cases e : i = yk
    · subst e
      rw [if_pos rfl, if_neg hu1] at hfi
      rw [hfi, updM_same]
      refine ⟨fun h => (by cases h), fun z hz => ?_⟩
      injection hz with hz
      subst hz
      exact ⟨_, rfl, (HU.out.ext eb).keepT (hK.t 9) (by decide)⟩
    · rw [if_neg e] at hfi
      rw [hfi, updM_other (kI_ne e)]
      exact ((HM.out.ext eb).keepT (hK.t 9) (by decide)) i
def FreeP (w0 w : World) (B b n : Nat) (o : Option (List Hd)) (e : Ending) (w' : World) : Prop :=
  e = .returned (.bool true) ∧ Ext w0 w' ∧ KeepsC w w' ∧ ∃ s', o = some s' ∧ StoreOk s' ∧ StoreAt B b n s' w'
set_option maxRecDepth 4000 in
set_option maxHeartbeats 2000000 in
theorem freeFile_c {B B' b n : Nat} {v : Value} {s : List Hd} {ids : List Int} {w0 w : World} (hs : StoreOk s) (h : StoreAt B b n s w) (hi : Ints B' w v ids) (hfit : idsFit s ids = true) (hu : HasUses s ids)
    (hn : n + ids.length < maxLen) (h0 : Ext w0 w) (hb : w0.heap.size ≤ b) : Calls Tryz.prog 123 #[.map (some b), v] w (FreeP w0 w B b (n + ids.length) (dropAll s ids)) := by
  have Cf := fileIds_c w hs h hi
  rw [hfit] at Cf
  have HI := Lib.hid hi
  obtain ⟨Ai, ci, rfl, hAi⟩ := hi
  have hil := hAi.2.2.1
  unfold lim at hil
  have HS := Lib.hid hs; have HSt := Lib.hid h; have HU := Lib.hid hu; have H0 := Lib.hid h0
  clear hs h hAi hu hfit h0
  generalize hm : ids.length = m at *
  have Hm := Lib.hid hm
  clear hm
  go_enter Tryz.func123, Tryz.ntmps123
  go_wp2_with (go_at_call 67; refine Cf.mono ?_; rintro e w1 ⟨rfl, he1⟩)
  have hK1 := he1.keepsC
  have hSt1 := HSt.out.ext he1
  have hE1 := H0.out.trans he1
  have hI1 := HI.out.ext he1
  clear Cf
  go_loopw [13] (fun i wr => ∃ (k : Nat) (st : List Hd), k ≤ m ∧ i = .int .i64 k ∧ Ext w0 wr ∧ Hid (KeepsC w wr) ∧ Hid (StoreAt B b (n + k) st wr) ∧ Hid (StoreOk st ∧ HasUses st (ids.drop k) ∧ dropAll s ids = dropAll st (ids.drop k)) ∧ Hid (Ints B' wr (.slice Ai m ci) ids)) (fun i _ => m - (RowKit.intOf i).toNat)
  case atStart => exact ⟨0, s, by omega, rfl, hE1, Lib.hid hK1, Lib.hid hSt1, Lib.hid ⟨HS.out, HU.out, rfl⟩, Lib.hid hI1⟩
  case round =>
    obtain ⟨k, st, hk, rfl, he, hK, hSt, hP, hI⟩ := hrel
    by_cases hlt : k < m
    · obtain ⟨x, hx⟩ := get_of_lt (l := ids) (k := k) (by rw [Hm.out]; exact hlt)
      have hdc := drop_cons hx
      obtain ⟨q1, q2, q3⟩ := hP.out
      rw [hdc] at q2
      obtain ⟨j, y, hy, hyx, hus⟩ := uses_step q1 q2
      have hI' := hI.out
      obtain ⟨Ai', ci', hvk, hAk⟩ := hI'
      rw [Hm.out] at hvk
      injection hvk with ek1 ek2 ek3
      subst ek1; subst ek3
      clear ek2
      obtain ⟨b2, o2, rfl, -, -, hxi, hc0⟩ := Ints.at_ hAk hx
      have a0 := hc0 wr (Ext.refl _)
      have Cd := bsDrop_c (w0 := w0) q1 hSt.out (by omega) he hb hy
      rw [hyx] at Cd
      have HP2 : Hid (StoreOk (dropAt st j) ∧ HasUses (dropAt st j) (ids.drop (k + 1)) ∧ dropAll s ids = dropAll (dropAt st j) (ids.drop (k + 1))) := Lib.hid ⟨dropAt_ok q1 hy, hus, by
        rw [q3, hdc]
        show (dropId st x).bind _ = _
        rw [← hyx, dropId_of q1 hy]; rfl⟩
      clear hc0 hx hdc q1 q2 q3 hus hP hSt hAk
      go_wp2_with (go_at_call 156; refine Cd.mono ?_; rintro e w2 ⟨rfl, he2, hK2, hSt2⟩; have HK2 := Lib.hid hK2; have HSt2 := Lib.hid hSt2; clear hK2 hSt2)
      go_roundw
      case rel => exact ⟨k + 1, dropAt st j, by omega, by go_num, he2, Lib.hid (hK.out.trans HK2.out), Lib.hid (by rw [← Nat.add_assoc]; exact HSt2.out), HP2, Lib.hid (hI.out.keepT (HK2.out.t 9) (by decide))⟩
      case measure => simp [RowKit.intOf]; omega
    · have hks : k = m := by omega
      subst hks
      have Hr : Hid (dropAll s ids = some st) := Lib.hid (by rw [hP.out.2.2, List.drop_eq_nil_of_le (by rw [Hm.out]; exact Nat.le_refl _)]; rfl)
      go_wp2
      go_ret
      exact ⟨rfl, he, hK.out, st, Hr.out, hP.out.1, hSt.out⟩
end Go.Sf

/-! The program removes an item of an open volume. -/
namespace Go.Sf
open Go Go.RowKit Go.Proofs Go.Maps
theorem Ints.keepN {B : Nat} {w w' : World} {u : Value} {ids : List Int} (h : Ints B w u ids) (hk : KeepsN w w') : Ints B w' u ids := by
  obtain ⟨A, c, hv, a1, a2, a3, a4⟩ := h
  refine ⟨A, c, hv, a1, a2, a3, fun j y hy => ?_⟩
  obtain ⟨b, o, cs, e1, e2, e3, e4⟩ := a4 j y hy
  exact ⟨b, o, cs, e1, e2, hk b _ cs (by decide) (by decide) e3, e4⟩
theorem KeepsC.n {w w' : World} (h : KeepsC w w') : KeepsN w w' := fun b t cs _ _ hb => h b t cs hb
theorem KeepsN.trans {w w' w'' : World} (h : KeepsN w w') (k : KeepsN w' w'') : KeepsN w w'' := fun b t cs h1 h2 hb => k b t cs h1 h2 (h b t cs h1 h2 hb)
theorem StoreAt.keepN {B b n : Nat} {w w' : World} {l : List Hd} (h : StoreAt B b n l w) (hk : KeepsN w w') (ho : KeepsO w w') : StoreAt B b n l w' := by
  have hno : ∀ t cs, ¬ Blk w b t cs := fun t cs hb => store_ne h hb rfl
  obtain ⟨M, h1, h2⟩ := h
  have hlt : b < w.heap.size := by
    obtain ⟨D, ⟨es, cl, hb, -⟩, -⟩ := h1
    rcases Nat.lt_or_ge b w.heap.size with hlt | hge
    · exact hlt
    · rw [Array.getElem?_eq_none hge] at hb; cases hb
  exact ⟨M, h1.block (ho b hlt hno), fun i => ⟨(h2 i).1, fun y hy => let ⟨u, r1, r2⟩ := (h2 i).2 y hy; ⟨u, r1, r2.keepN hk⟩⟩⟩
section
variable {w0 w : World} {s : List Hd} {t : List It} {adr : Key → Nat} {kv : Key → Value}
end
end Go.Sf

/-! The program hands a volume out; VolumeDrop. -/
namespace Go.Sf
open Go Go.RowKit Go.Proofs
set_option maxRecDepth 4000 in
set_option maxHeartbeats 2000000 in
theorem volume_c {B b n : Nat} {s : List Hd} {t : List It} {adr : Key → Nat} {kv : Key → Value} (w : World) (hs : StoreOk s) (ht : treeOk t = true) (hSt : StoreAt B b n s w) (hTr : TreeAt B w t adr kv) :
    Calls Tryz.prog 79 #[.agg #[.map (some b), .pointer (some ⟨adr [], 0, none⟩)]] w (RetP (fun r w' => VolU w.heap.size w' r s t) w) := by
  have hg := (treeOk_iff'.1 ht).2
  have h12 := (treeOk_iff'.1 ht).1
  have e0 : Ext w ((w.alloc (.cells #[.map (some b), .pointer (some ⟨adr [], 0, none⟩)] 83)).alloc (.cells #[.slice none 0 0, .slice none 0 0] 61)) := ((Ext.refl w).alloc _).alloc _
  have hbk := (Blk.new w 83 #[.map (some b), .pointer (some ⟨adr [], 0, none⟩)]).alloc (.cells #[.slice none 0 0, .slice none 0 0] 61)
  have hbr : Blk ((w.alloc (.cells #[.map (some b), .pointer (some ⟨adr [], 0, none⟩)] 83)).alloc (.cells #[.slice none 0 0, .slice none 0 0] 61)) (w.heap.size + 1) 61 #[.slice none 0 0, .slice none 0 0] := by
    have := Blk.new (w.alloc (.cells #[.map (some b), .pointer (some ⟨adr [], 0, none⟩)] 83)) 61 #[.slice none 0 0, .slice none 0 0]
    simpa using this
  have d0 := fun W (e : Ext _ W) => hbk.at_ (i := 0) (u := .map (some b)) rfl W e
  have d1 := fun W (e : Ext _ W) => hbk.at_ (i := 1) (u := .pointer (some ⟨adr [], 0, none⟩)) rfl W e
  have Cs := fun W (e : Ext w W) => storeListU_c W hs (hSt.ext e)
  have Ct := fun W (e : Ext w W) => listU_c (hTr.ext e) hg h12
  have Hbr := Lib.hid hbr
  clear hbk hbr hs hg h12 hSt hTr
  go_enter Tryz.func79, Tryz.ntmps79
  go_wp2
  refine wp_region_hold (fun W => W.cell? ⟨w.heap.size, 0, none⟩ = some (.map (some b)) ∧ W.cell? ⟨w.heap.size, 1, none⟩ = some (.pointer (some ⟨adr [], 0, none⟩))) 5 [(0, true), (1, true), (3, true), (4, true), (2, false)] (by kernel_rfl) (by kernel_rfl) ?_ ?_
  · exact ⟨d0 _ (Ext.refl _).drew, d1 _ (Ext.refl _).drew⟩
  (repeat (first | (apply hw_read (by rfl) (by rfl); (· (intro W hW; (try dsimp only at hW); go_simp; (first | done | rfl | (rw [if_pos] <;> first | omega | rfl)))); (try simp only [Act.put, List.setIfInBounds_toArray, List.set_cons_zero, List.set_cons_succ])) | (refine hw_skip (by rfl) (by rfl) ?_; (try simp only [Act.put, List.setIfInBounds_toArray, List.set_cons_zero, List.set_cons_succ]))))
  refine hw_step (by rfl) ?_
  go_wp2_with (go_at_call 124; refine (Cs _ (e0.trans (Ext.refl _).drew)).mono ?_; rintro e w2 ⟨u1, rfl, ⟨lh, hlh, hU, hSp, -⟩, he2⟩; obtain ⟨A1, c1, rfl, -⟩ := id hU)
  have e2 := (Ext.refl ((w.alloc (.cells #[.map (some b), .pointer (some ⟨adr [], 0, none⟩)] 83)).alloc (.cells #[.slice none 0 0, .slice none 0 0] 61))).drew.trans he2
  have E2 := e0.trans e2
  refine ⟨⟨d0 _ e2, d1 _ e2⟩, ?_⟩
  have Hlh := Lib.hid hlh; have HU := Lib.hid hU; have HSp := Lib.hid hSp
  clear hlh hU hSp
  (repeat (first | (apply hw_read (by rfl) (by rfl); (· (intro W hW; (try dsimp only at hW); go_simp; (first | done | rfl | (rw [if_pos] <;> first | omega | rfl)))); (try simp only [Act.put, List.setIfInBounds_toArray, List.set_cons_zero, List.set_cons_succ])) | (refine hw_skip (by rfl) (by rfl) ?_; (try simp only [Act.put, List.setIfInBounds_toArray, List.set_cons_zero, List.set_cons_succ]))))
  (refine hw_nil ?_; (try simp only [List.drop_succ_cons, List.drop_zero]))
  have Ct2 := Ct _ E2
  go_wp2_with (go_at_call 96; refine Ct2.mono ?_; rintro e w3 ⟨u2, rfl, ⟨li, hli, hI, hSi, -⟩, he3⟩; obtain ⟨A2, c2, rfl, -⟩ := id hI; have b3 := Hbr.out.ext (e2.trans he3); have k0 := b3.cell 0; have k1 := b3.cell 1; have f0 := b3.frozen 0; have f1 := b3.frozen 1; simp at k0 k1; have Hli := Lib.hid hli; have HI := Lib.hid hI; have HSi := Lib.hid hSi; clear hli hI hSi)
  refine NoPanic.normal ?_
  (try dsimp only [Exit.then])
  go_wp2
  obtain ⟨p1, p2, p3, -⟩ := put_two (a := .slice A1 lh.length c1) (b := .slice A2 li.length c2) b3
  have z0 := p1.cell 0; have z1 := p1.cell 1
  simp at z0 z1
  have hB2 : w.heap.size ≤ w2.heap.size := E2.size
  refine bodyPost_ret (v := .agg #[.slice A1 lh.length c1, .slice A2 li.length c2]) (by simp [results, Tryz.results79, go_sem, z0, z1]) rfl ⟨_, rfl, ?_, p3 w (E2.trans he3) (by omega)⟩
  refine ⟨_, _, lh, li, w2.heap.size, rfl, Hlh.out, ?_, HSp.out, fun b hb => (HU.out.foot hb).2, Hli.out, HI.out.keepT p2 (by decide) (by decide), HSi.out, hB2⟩
  exact HdsU.keepT ((HU.out.keep (e0.trans (Ext.refl _).drew).size (fun _ _ _ => rfl)).ext he3) p2 (by decide) (by decide)
end Go.Sf

/-! The program's VolumeDrop. -/
namespace Go.Sf
open Go Go.RowKit Go.Proofs
/-- a volume of the call's own, to be marked, and whether there is one -/
def OutVol (B : Nat) (o : Option (List Hd × List It)) (r : Value) (w : World) : Prop := ∃ vv, r = .tuple #[vv, .bool o.isSome] ∧ VolU B w vv (o.elim [] (·.1)) (o.elim [] (·.2))
theorem VolU.nil (B : Nat) (w : World) : VolU B w (.agg #[.slice none 0 0, .slice none 0 0]) [] [] :=
  ⟨_, _, [], [], B, rfl, rfl, SlOf.nil _ _ _ _ _, List.Pairwise.nil, (fun b h => by
    rcases h with ⟨h, -⟩ | ⟨q, hq, -⟩
    · cases h
    · cases hq), rfl, SlOf.nil _ _ _ _ _, List.Pairwise.nil, Nat.le_refl _⟩
theorem OutVol.none_ {B : Nat} {w : World} {o : Option (List Hd × List It)} (h : o = none) : OutVol B o (.tuple #[.agg #[.slice none 0 0, .slice none 0 0], .bool false]) w := by
  subst h; exact ⟨_, rfl, VolU.nil _ _⟩
theorem VolU.low {B B' : Nat} {w : World} {r : Value} {s : List Hd} {t : List It} (h : VolU B w r s t) (hB : B' ≤ B) : VolU B' w r s t :=
  let ⟨u1, u2, lh, li, m, a1, a2, a3, a4, a5, a6, a7, a8, a9⟩ := h; ⟨u1, u2, lh, li, m, a1, a2, a3.keep hB (fun _ _ _ => rfl), a4, a5, a6, a7, a8, Nat.le_trans hB a9⟩
theorem VolU.keepT {B : Nat} {w w' : World} {r : Value} {s : List Hd} {t : List It} {ty : TypeId} (h : VolU B w r s t) (hk : KeepsT ty w w') (h1 : 110 ≠ ty) (h2 : 57 ≠ ty) (h3 : 3 ≠ ty) : VolU B w' r s t :=
  let ⟨u1, u2, lh, li, m, a1, a2, a3, a4, a5, a6, a7, a8, a9⟩ := h; ⟨u1, u2, lh, li, m, a1, a2, a3.keepT hk h1 h3, a4, a5, a6, a7.keepT hk h2 h3, a8, a9⟩
end Go.Sf
