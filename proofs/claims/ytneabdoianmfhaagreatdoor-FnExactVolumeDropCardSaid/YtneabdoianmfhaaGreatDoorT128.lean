/- The program frees a file. -/
import Derived.Test.YtneabdoianmfhaaGreatDoorT125
import Derived.Test.YtneabdoianmfhaaGreatDoorGQ
namespace Go.Sf
open Go Go.RowKit Go.Proofs Go.Maps
theorem dropId_of {l : List Hd} (h : StoreOk l) {k : Nat} {y : Hd} (hy : l[k]? = some y) : dropId l y.id = some (dropAt l k) := by
  have hat : hAt l y.id = (k : Int) := by
    rcases atG_find (idIs y.id) l 0 with ⟨h1, -⟩ | ⟨i, x, h1, h2, -, h4, -⟩
    · exact absurd (List.find?_eq_none.1 h1 y (List.mem_of_getElem? hy)) (by simp [idIs, eqb_true])
    · have he : x.id = y.id := by simpa [idIs, eqb_iff] using h2
      have := h.inj h1 hy he
      subst this
      rw [hAt, h4]; simp
  unfold dropId
  rw [if_pos ⟨storeOk_iff.2 h, by rw [hat]; omega⟩, hat]
  simp
/-- each block is used as often as it is named -/
def HasUses (l : List Hd) (r : List Int) : Prop := ∀ i, i ∈ r → ∃ h, findH l i = some h ∧ (cntI i r : Int) ≤ h.uses
theorem cntI_cons (i j : Int) (r : List Int) : cntI i (j :: r) = cntI i r + if j = i then 1 else 0 := by
  unfold cntI
  by_cases e : j = i
  · subst e
    rw [List.filter_cons_of_pos (by exact eqb_true.2 rfl), if_pos rfl]; rfl
  · rw [List.filter_cons_of_neg (by simp [eqb_false.2 e]), if_neg e]; rfl
theorem cntI_pos {i : Int} {r : List Int} (h : i ∈ r) : 1 ≤ cntI i r := by
  unfold cntI
  exact List.length_pos_of_mem (List.mem_filter.2 ⟨h, eqb_true.2 rfl⟩)
theorem uses_step {l : List Hd} (h : StoreOk l) {i : Int} {r : List Int} (hu : HasUses l (i :: r)) : ∃ k y, l[k]? = some y ∧ y.id = i ∧ HasUses (dropAt l k) r := by
  obtain ⟨y, hy, hc⟩ := hu i (by simp)
  obtain ⟨h1, h2⟩ := findH_some hy
  obtain ⟨k, hk⟩ := List.mem_iff_getElem?.1 h1
  refine ⟨k, y, hk, h2, fun j hj => ?_⟩
  rw [find_dropAt h hk, h2]
  rw [cntI_cons, if_pos rfl] at hc
  by_cases e : j = i
  · subst e
    have := cntI_pos hj
    rw [if_pos rfl, if_neg (by omega)]
    exact ⟨_, rfl, by show _ ≤ y.uses - 1; omega⟩
  · rw [if_neg e]
    obtain ⟨z, hz, hc2⟩ := hu j (by simp [hj])
    rw [cntI_cons, if_neg (fun e' => e e'.symm)] at hc2
    exact ⟨z, hz, hc2⟩
theorem cntI_le_T {i : Int} {t : List It} {x : It} (h : x ∈ t) : cntI i x.ids ≤ cntT i t := by
  unfold cntT
  induction t with
  | nil => cases h
  | cons y r ih =>
    rw [List.map_cons, List.sum_cons]
    rcases List.mem_cons.1 h with rfl | h
    · omega
    · have := ih h; omega
theorem vol_uses {s : List Hd} {t : List It} (h : volOk s t = true) {x : It} (hx : x ∈ t) : HasUses s x.ids ∧ idsFit s x.ids = true ∧ StoreOk s ∧ treeOk t = true := by
  unfold volOk at h
  simp only [Bool.and_eq_true] at h
  obtain ⟨h1, h2, h3, h4⟩ := h
  have hf : idsFit s x.ids = true := by unfold filesFit at h3; exact List.all_eq_true.1 h3 x hx
  refine ⟨fun i hi => ?_, hf, storeOk_iff.1 h1, h2⟩
  obtain ⟨k, hk⟩ := List.mem_iff_getElem?.1 hi
  obtain ⟨y, hy, -⟩ := (idsFit_iff.1 hf).2 k i hk
  obtain ⟨g1, g2⟩ := findH_some hy
  have := List.all_eq_true.1 h4 y g1
  rw [eqb_iff] at this
  have h5 := cntI_le_T (i := i) hx
  rw [g2] at this
  exact ⟨y, hy, by omega⟩
/-- all that is made of cells stays -/
def KeepsC (w w' : World) : Prop := ∀ g t cs, Blk w g t cs → Blk w' g t cs
theorem KeepsC.t {w w' : World} (h : KeepsC w w') (t : TypeId) : KeepsT t w w' := fun g t' cs _ hb => h g t' cs hb
theorem Ext.keepsC {w w' : World} (h : Ext w w') : KeepsC w w' := fun _ _ _ hb => hb.ext h
theorem KeepsC.trans {w w' w'' : World} (h : KeepsC w w') (k : KeepsC w' w'') : KeepsC w w'' := fun g t cs hb => k g t cs (h g t cs hb)
theorem map_keepsC {b n : Nat} {M : Lit → Option Value} {w w' : World} {P : Program} {k : TypeId} (h : MapV P k b n M w) (hg : w.grownBy w' (some b)) : KeepsC w w' := fun g t cs hb => by
  by_cases e : t = 9
  · exact map_keepsT h hg 3 g t cs (by rw [e]; decide) hb
  · exact map_keepsT h hg 9 g t cs e hb
def DropMP (w0 w : World) (B b n : Nat) (s : List Hd) (e : Ending) (w' : World) : Prop :=
  e = .returned (.bool true) ∧ Ext w0 w' ∧ KeepsC w w' ∧ StoreAt B b n s w'
set_option maxRecDepth 4000 in
set_option maxHeartbeats 2000000 in
theorem bsDrop_c {B b n k : Nat} {s : List Hd} {y : Hd} {w0 w : World} (hs : StoreOk s) (h : StoreAt B b n s w) (hn : n < maxLen) (h0 : Ext w0 w) (hb : w0.heap.size ≤ b) (hy : s[k]? = some y) :
    Calls Tryz.prog 189 #[.map (some b), .int .i64 y.id] w (DropMP w0 w B b (n + 1) (dropAt s k)) := by
  have hok := hd_ok (hs.2 k y hy).1
  have hfd := fun i => find_dropAt hs hy i
  have hf := hs.find hy
  obtain ⟨M, hV, hM⟩ := h
  obtain ⟨u, hr, hu⟩ := (hM y.id).2 y hf
  obtain ⟨Au, cu, rfl, hAu⟩ := hu
  have hin : inI y.id := by unfold inI; omega
  have hkey := keyI hin
  have HV := Lib.hid hV; have HM := Lib.hid hM; have HF := Lib.hid hfd; have H0 := Lib.hid h0
  have HU : Hid (Ints B w (.slice Au y.bytes.length cu) y.bytes) := Lib.hid ⟨_, _, rfl, hAu⟩
  obtain ⟨yk, yb, yu⟩ := y
  simp only at *
  have hwr : IntKind.i64.wrap (yu - 1) = yu - 1 := IntWalk.i64_in _ (by omega)
  have ea : Ext w (w.alloc (.cells #[.int .i64 yk, .slice Au yb.length cu, .int .i64 yu] 84)) := (Ext.refl w).alloc _
  clear hM hAu hs hy hf hfd h0
  by_cases hu1 : yu = 1
  · subst hu1
    go_enter Tryz.func189, Tryz.ntmps189
    go_wp2_with (first | (at_lookup; refine wp_mlook_ok_some rfl _ _ rfl lawI underStore (zeroHd _) rfl hV _ _ rfl hkey hr ?_) | (at_delete; refine wp_mdel (w0 := w0) rfl _ _ rfl lawI underStore (H0.out.trans ea) hb rfl (HV.out.ext ea) _ _ rfl hkey ?_; intro w6 hM6 he6 hg6))
    have hK := map_keepsC (HV.out.ext ea) hg6
    go_ret
    refine ⟨rfl, he6, ea.keepsC.trans hK, _, hM6.mono (by omega), fun i => ?_⟩
    have hfi := HF.out i
    by_cases e : i = yk
    · subst e
      rw [if_pos rfl, if_pos (by trivial)] at hfi
      rw [hfi, updM_same]
      exact ⟨fun _ => rfl, fun _ h => by cases h⟩
    · rw [if_neg e] at hfi
      rw [hfi, updM_other (kI_ne e)]
      exact ((HM.out.ext ea).keepT (hK.t 9) (by decide)) i
  · have hb1 : (yu == 1) = false := by simp [hu1]
    have eb : Ext w (w.alloc (.cells #[.int .i64 yk, .slice Au yb.length cu, .int .i64 (yu - 1)] 84)) := (Ext.refl w).alloc _
    go_enter Tryz.func189, Tryz.ntmps189
    go_wp2_with (first | (at_lookup; refine wp_mlook_ok_some rfl _ _ rfl lawI underStore (zeroHd _) rfl hV _ _ rfl hkey hr ?_) | (at_mapUpdate; (refine wp_mput (w0 := w0) rfl _ _ _ rfl lawI underStore (H0.out.trans eb) hb rfl (HV.out.ext eb) hn _ _ _ rfl rfl hkey ?_; intro w6 hM6 he6 hg6)))
    have hK := map_keepsC (HV.out.ext eb) hg6
    go_ret
    refine ⟨rfl, he6, eb.keepsC.trans hK, _, hM6, fun i => ?_⟩
    have hfi := HF.out i
    by_cases e : i = yk
    · subst e
      rw [if_pos rfl, if_neg hu1] at hfi
      rw [hfi, updM_same]
      refine ⟨fun h => (by cases h), fun z hz => ?_⟩
      injection hz with hz
      subst hz
      exact ⟨_, rfl, (HU.out.ext eb).keepT (hK.t 9) (by decide)⟩
    · rw [if_neg e] at hfi
      rw [hfi, updM_other (kI_ne e)]
      exact ((HM.out.ext eb).keepT (hK.t 9) (by decide)) i
def FreeP (w0 w : World) (B b n : Nat) (o : Option (List Hd)) (e : Ending) (w' : World) : Prop :=
  e = .returned (.bool true) ∧ Ext w0 w' ∧ KeepsC w w' ∧ ∃ s', o = some s' ∧ StoreOk s' ∧ StoreAt B b n s' w'
set_option maxRecDepth 4000 in
set_option maxHeartbeats 2000000 in
theorem freeFile_c {B B' b n : Nat} {v : Value} {s : List Hd} {ids : List Int} {w0 w : World} (hs : StoreOk s) (h : StoreAt B b n s w) (hi : Ints B' w v ids) (hfit : idsFit s ids = true) (hu : HasUses s ids)
    (hn : n + ids.length < maxLen) (h0 : Ext w0 w) (hb : w0.heap.size ≤ b) : Calls Tryz.prog 162 #[.map (some b), v] w (FreeP w0 w B b (n + ids.length) (dropAll s ids)) := by
  have Cf := fileIds_c w hs h hi
  rw [hfit] at Cf
  have HI := Lib.hid hi
  obtain ⟨Ai, ci, rfl, hAi⟩ := hi
  have hil := hAi.2.2.1
  unfold lim at hil
  have HS := Lib.hid hs; have HSt := Lib.hid h; have HU := Lib.hid hu; have H0 := Lib.hid h0
  clear hs h hAi hu hfit h0
  generalize hm : ids.length = m at *
  have Hm := Lib.hid hm
  clear hm
  go_enter Tryz.func162, Tryz.ntmps162
  go_wp2_with (go_at_call 179; refine Cf.mono ?_; rintro e w1 ⟨rfl, he1⟩)
  have hK1 := he1.keepsC
  have hSt1 := HSt.out.ext he1
  have hE1 := H0.out.trans he1
  have hI1 := HI.out.ext he1
  clear Cf
  go_loopw [13] (fun i wr => ∃ (k : Nat) (st : List Hd), k ≤ m ∧ i = .int .i64 k ∧ Ext w0 wr ∧ Hid (KeepsC w wr) ∧ Hid (StoreAt B b (n + k) st wr) ∧ Hid (StoreOk st ∧ HasUses st (ids.drop k) ∧ dropAll s ids = dropAll st (ids.drop k)) ∧ Hid (Ints B' wr (.slice Ai m ci) ids)) (fun i _ => m - (RowKit.intOf i).toNat)
  case atStart => exact ⟨0, s, by omega, rfl, hE1, Lib.hid hK1, Lib.hid hSt1, Lib.hid ⟨HS.out, HU.out, rfl⟩, Lib.hid hI1⟩
  case round =>
    obtain ⟨k, st, hk, rfl, he, hK, hSt, hP, hI⟩ := hrel
    by_cases hlt : k < m
    · obtain ⟨x, hx⟩ := get_of_lt (l := ids) (k := k) (by rw [Hm.out]; exact hlt)
      have hdc := drop_cons hx
      obtain ⟨q1, q2, q3⟩ := hP.out
      rw [hdc] at q2
      obtain ⟨j, y, hy, hyx, hus⟩ := uses_step q1 q2
      have hI' := hI.out
      obtain ⟨Ai', ci', hvk, hAk⟩ := hI'
      rw [Hm.out] at hvk
      injection hvk with ek1 ek2 ek3
      subst ek1; subst ek3
      clear ek2
      obtain ⟨b2, o2, rfl, -, -, hxi, hc0⟩ := Ints.at_ hAk hx
      have a0 := hc0 wr (Ext.refl _)
      have Cd := bsDrop_c (w0 := w0) q1 hSt.out (by omega) he hb hy
      rw [hyx] at Cd
      have HP2 : Hid (StoreOk (dropAt st j) ∧ HasUses (dropAt st j) (ids.drop (k + 1)) ∧ dropAll s ids = dropAll (dropAt st j) (ids.drop (k + 1))) := Lib.hid ⟨dropAt_ok q1 hy, hus, by
        rw [q3, hdc]
        show (dropId st x).bind _ = _
        rw [← hyx, dropId_of q1 hy]; rfl⟩
      clear hc0 hx hdc q1 q2 q3 hus hP hSt hAk
      go_wp2_with (go_at_call 189; refine Cd.mono ?_; rintro e w2 ⟨rfl, he2, hK2, hSt2⟩; have HK2 := Lib.hid hK2; have HSt2 := Lib.hid hSt2; clear hK2 hSt2)
      go_roundw
      case rel => exact ⟨k + 1, dropAt st j, by omega, by go_num, he2, Lib.hid (hK.out.trans HK2.out), Lib.hid (by rw [← Nat.add_assoc]; exact HSt2.out), HP2, Lib.hid (hI.out.keepT (HK2.out.t 9) (by decide))⟩
      case measure => simp [RowKit.intOf]; omega
    · have hks : k = m := by omega
      subst hks
      have Hr : Hid (dropAll s ids = some st) := Lib.hid (by rw [hP.out.2.2, List.drop_eq_nil_of_le (by rw [Hm.out]; exact Nat.le_refl _)]; rfl)
      go_wp2
      go_ret
      exact ⟨rfl, he, hK.out, st, Hr.out, hP.out.1, hSt.out⟩
end Go.Sf
