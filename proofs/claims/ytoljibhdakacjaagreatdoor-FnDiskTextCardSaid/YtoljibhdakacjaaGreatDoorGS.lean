/- Files of volumes are read: the reference and the program. -/
import Derived.Test.YtoljibhdakacjaaGreatDoorHF
import Derived.Test.YtoljibhdakacjaaGreatDoorHG
import Derived.Test.YtoljibhdakacjaaGreatDoorGA
import Derived.Test.YtoljibhdakacjaaGreatDoorHH
/-! Files of volumes are read: the reference and the program. -/
namespace Go.Sf
open Go Go.RowKit Go.Proofs Go.Maps
/-- some ints and whether there are some -/
def OptInts (B : Nat) (o : Option (List Int)) (r : Value) (w : World) : Prop := ∃ u, r = .tuple #[u, .bool o.isSome] ∧ Ints B w u (o.getD [])
theorem OptInts.nil_ {B : Nat} {w : World} {o : Option (List Int)} (h : o = none) : OptInts B o (.tuple #[.slice none 0 0, .bool false]) w := by
  subst h; exact ⟨_, rfl, SlOf.nil _ _ _ _ _⟩
theorem OptInts.none_ {B g : Nat} {w : World} {o : Option (List Int)} (h : o = none) : OptInts B o (.tuple #[.slice (some ⟨g, 0, none⟩) 0 0, .bool false]) w := by
  subst h; exact ⟨_, rfl, SlOf.empty _ _ _ _ _ _ _ (Nat.zero_le _) (fun _ => rfl)⟩
theorem vol_parts {s : List Hd} {t : List It} (h : volOk s t = true) : StoreOk s ∧ treeOk t = true ∧ ∀ x, x ∈ t → IdsFit s x.ids := by
  unfold volOk at h
  simp only [Bool.and_eq_true] at h
  refine ⟨storeOk_iff.1 h.1, h.2.1, fun x hx => idsFit_iff.1 ?_⟩
  have := h.2.2.1
  unfold filesFit at this
  exact List.all_eq_true.1 this x hx
end Go.Sf

/-! Files of volumes are read: the program's way. -/
namespace Go.Sf
open Go Go.RowKit Go.Proofs Go.Maps
/-- ints of the call's own and whether there are some -/
def OptOwn (B : Nat) (o : Option (List Int)) (r : Value) (w : World) : Prop := ∃ u, r = .tuple #[u, .bool o.isSome] ∧ OwnS B 3 1 EInt w u (o.getD [])
noncomputable def loadIf (s : List Hd) (ids : List Int) : Option (List Int) := if idsFit s ids = true then some (loadOf s ids) else none
set_option maxRecDepth 4000 in
set_option maxHeartbeats 2000000 in
theorem loadFileO_c {B B' b n : Nat} {v : Value} {s : List Hd} {ids : List Int} (w : World) (hs : StoreOk s) (h : StoreAt B b n s w) (hi : Ints B' w v ids) :
    Calls Tryz.prog 130 #[.map (some b), v] w (RetP (OptOwn w.heap.size (loadIf s ids)) w) := by
  have Cf := fileIds_c w hs h hi
  obtain ⟨M, hV, hM⟩ := h
  have HV : Hid (∀ W, Ext w W → MapV Tryz.prog 3 b n M W) := Lib.hid fun W e => hV.ext e
  have HMd := Lib.hid hM; have HS := Lib.hid hs
  obtain ⟨A2, c2, rfl, hA2⟩ := hi
  cases hf : idsFit s ids with
  | false =>
    rw [hf] at Cf
    have Hr : Hid (loadIf s ids = none) := Lib.hid (by unfold loadIf; rw [hf]; rfl)
    clear hf hV hM hs hA2
    go_enter Tryz.func130, Tryz.ntmps130
    go_wp2_with (go_at_call 67; refine Cf.mono ?_; rintro e w2 ⟨rfl, he2⟩)
    go_ret2
    exact ⟨_, rfl, by rw [Hr.out]; exact ⟨_, rfl, OwnS.nil _ _ _ _ _⟩, he2⟩
  | true =>
  rw [hf] at Cf
  have Hr : Hid (loadIf s ids = some (loadOf s ids)) := Lib.hid (by unfold loadIf; rw [hf]; rfl)
  have HFit := Lib.hid (idsFit_iff.1 hf)
  have hn4 : ids.length ≤ 4 := HFit.out.1
  generalize hn : ids.length = m at *
  have Hn := Lib.hid hn; have HA2 := Lib.hid hA2
  clear hn hA2 hs hf hV hM
  go_enter Tryz.func130, Tryz.ntmps130
  go_wp2_with (go_at_call 67; refine Cf.mono ?_; rintro e w2 ⟨rfl, he2⟩)
  clear Cf
  go_loopw [6, 15] (fun v i wr => ∃ k : Nat, k ≤ m ∧ i = .int .i64 k ∧ Ext w wr ∧ OwnS w.heap.size 3 1 EInt wr v (loadOf s (ids.take k))) (fun _ i _ => m - (RowKit.intOf i).toNat)
  case atStart => exact ⟨0, by omega, rfl, he2, OwnS.nil _ _ _ _ _⟩
  case round =>
    obtain ⟨k, hk, rfl, he, hO⟩ := hrel
    have HO := Lib.hid hO
    by_cases hlt : k < m
    · obtain ⟨x, hx⟩ := get_of_lt (l := ids) (k := k) (by rw [Hn.out]; exact hlt)
      obtain ⟨b2, o, rfl, -, -, hxi, hc⟩ := Ints.at_ HA2.out hx
      have a0 := hc wr he
      obtain ⟨y, hfy, -⟩ := HFit.out.2 k x hx
      obtain ⟨u, hr, hu⟩ := (HMd.out x).2 y hfy
      have HU := Lib.hid (hu.ext he)
      have hy8 := block8 HS.out hfy
      have Ht := Lib.hid (loadOf_take hx hfy)
      obtain ⟨Ay, cy, rfl, -⟩ := hu
      obtain ⟨yk, yb, yu⟩ := y
      simp only at hr HU hy8 Ht
      have hkey := keyI hxi
      have hVr := HV.out wr he
      have hlb : (loadOf s (ids.take k)).length ≤ 32 := by
        have := loadOf_len HS.out (ids.take k)
        rw [List.length_take] at this
        omega
      obtain ⟨A', c', rfl⟩ := hO.form
      clear hc hx hfy hO
      have hfd : ∀ W : World, (Instr.field 110 (.agg #[.int .i64 yk, .slice Ay yb.length cy, .int .i64 yu]) 1).run Tryz.prog W = .ok (.slice Ay yb.length cy) W := fun _ => by kernel_rfl
      go_wp2_with (first | (at_lookup; refine wp_mlook_some rfl _ _ rfl lawI underStore (zeroHd _) rfl hVr _ _ rfl hkey hr ?_) | (at_builtin; go_must (refine wp_apS (w0 := w) (by rfl) _ _ (by rfl) el_int eint_ok he _ (.slice Ay yb.length cy) (loadOf s (ids.take k)) yb (by rfl) HO.out (by rfl) (HU.out.keep (Nat.zero_le _) (fun _ _ _ => rfl)) ?_ ?_)))
      · unfold lim; omega
      · intro v' w' hO' he' hk'
        have HO' := Lib.hid hO'
        clear hO' hk'
        go_wp2
        go_roundw
        case rel => exact ⟨k + 1, by omega, by go_num, he', by rw [Ht.out]; exact HO'.out⟩
        case measure => simp [RowKit.intOf]; omega
    · have hks : k = m := by omega
      subst hks
      have hO2 := HO.out
      rw [List.take_of_length_le (by rw [Hn.out]; exact Nat.le_refl _)] at hO2
      have HF := Lib.hid hO2
      obtain ⟨A', c', rfl⟩ := hO2.form
      clear hO hO2
      go_wp2
      go_ret2
      exact ⟨_, rfl, by rw [Hr.out]; exact ⟨_, rfl, HF.out⟩, he⟩
theorem loadFile_c {B B' b n : Nat} {v : Value} {s : List Hd} {ids : List Int} (w : World) (hs : StoreOk s) (h : StoreAt B b n s w) (hi : Ints B' w v ids) :
    Calls Tryz.prog 130 #[.map (some b), v] w (RetP (OptInts w.heap.size (loadIf s ids)) w) :=
  (loadFileO_c w hs h hi).mono fun _ _ ⟨_, e1, ⟨u, e2, hO⟩, e3⟩ => ⟨_, e1, ⟨u, e2, hO.sl eint_ok (Nat.le_refl _) (by
    unfold loadIf lim
    split
    · next hf => have := loadOf_len hs ids; have := (idsFit_iff.1 hf).1; simp only [Option.getD_some]; omega
    · simp)⟩, e3⟩
set_option maxRecDepth 4000 in
set_option maxHeartbeats 2000000 in
theorem read_c {B b n : Nat} {s : List Hd} {t : List It} {adr : Key → Nat} {kv : Key → Value} (p : ByteArray) (w : World) (hs : StoreOk s) (h : StoreAt B b n s w) (ht : treeOk t = true) (hT : TreeAt B w t adr kv) (hp : p.size < lim) (hm : ML w) :
    Calls Tryz.prog 85 #[.map (some b), .pointer (some ⟨adr [], 0, none⟩), .string p] w (RetP (OptInts w.heap.size ((fileOf t p).bind fun x => loadIf s x.ids)) w) := by
  have hg := treeOk_iff'.1 ht
  have Cf := nodeFind_c hT hg.2 (by have := hg.1; unfold lim; omega) p hp hm
  have HS := Lib.hid hs; have HSt := Lib.hid h; have HT := Lib.hid hT
  clear hs h hT hm hg ht
  cases hf : findIt t p with
  | none =>
    have Hr : Hid (((fileOf t p).bind fun x => loadIf s x.ids) = none) := Lib.hid (by unfold fileOf; rw [hf]; rfl)
    have e1 : findV t adr p = .pointer none := by unfold findV; rw [hf]
    rw [e1] at Cf
    clear hf e1
    go_enter Tryz.func85, Tryz.ntmps85
    go_wp2_with (go_at_call 40; refine Cf.mono ?_; rintro e w2 ⟨rfl, he2⟩)
    go_ret2
    exact ⟨_, rfl, OptInts.nil_ Hr.out, he2⟩
  | some x =>
    have e1 : findV t adr p = .pointer (some ⟨adr (key x), 0, none⟩) := by unfold findV; rw [hf]
    rw [e1] at Cf
    obtain ⟨hx, -⟩ := findIt_some hf
    obtain ⟨-, -, u, hb, hu⟩ := HT.out.nodes x hx
    have HU := Lib.hid hu
    obtain ⟨Au, cu, rfl, -⟩ := hu
    have Hb := Lib.hid hb
    have hfile : Hid (fileOf t p = if x.dir = true then none else some x) := Lib.hid (by unfold fileOf; rw [hf]; rfl)
    obtain ⟨xp, xd, xi⟩ := x
    simp only at Hb HU
    clear hf e1 hx hb
    cases xd with
    | true =>
      have Hr : Hid (((fileOf t p).bind fun x => loadIf s x.ids) = none) := Lib.hid (by rw [hfile.out]; rfl)
      go_enter Tryz.func85, Tryz.ntmps85
      go_wp2_with (go_at_call 40; refine Cf.mono ?_; rintro e w2 ⟨rfl, he2⟩; have c1 := (Hb.out.ext he2).cell 1; have c2 := (Hb.out.ext he2).cell 2; simp at c1 c2)
      go_ret2
      exact ⟨_, rfl, OptInts.nil_ Hr.out, he2⟩
    | false =>
      have Hr : Hid (((fileOf t p).bind fun x => loadIf s x.ids) = loadIf s xi) := Lib.hid (by rw [hfile.out]; rfl)
      have Cl := fun W (e : Ext w W) => loadFile_c W HS.out (HSt.out.ext e) (HU.out.ext e)
      go_enter Tryz.func85, Tryz.ntmps85
      go_wp2_with (first | (go_at_call 40; refine Cf.mono ?_; rintro e w2 ⟨rfl, he2⟩; have c1 := (Hb.out.ext he2).cell 1; have c2 := (Hb.out.ext he2).cell 2; simp at c1 c2) | (go_at_call 130; refine (Cl _ he2).mono ?_; rintro e w3 ⟨r3, rfl, ⟨u3, rfl, hI3⟩, he3⟩))
      go_ret2
      refine ⟨_, rfl, ?_, he2.trans he3⟩
      rw [Hr.out]
      exact ⟨_, rfl, hI3.keep he2.size (fun _ _ _ => rfl)⟩
theorem read_vol {s : List Hd} {t : List It} (h : volOk s t = true) (p : ByteArray) : ((fileOf t p).bind fun x => loadIf s x.ids) = readOf s t p := by
  unfold readOf
  rw [if_pos h]
  have hp := (vol_parts h).2.2
  cases hf : findIt t p with
  | none => unfold fileOf; rw [hf]; rfl
  | some x =>
    have hfit := idsFit_iff.2 (hp x (findIt_some hf).1)
    have e : fileOf t p = if x.dir = true then none else some x := by unfold fileOf; rw [hf]; rfl
    rw [e]
    split
    · rfl
    · simp [loadIf, hfit]
set_option maxRecDepth 4000 in
set_option maxHeartbeats 2000000 in
theorem VolumeRead_c {B B' : Nat} {vs vt : Value} {s : List Hd} {t : List It} (p : ByteArray) (w : World) (hs : Hds B w vs s) (ht : Its B' w vt t) (hp : p.size < lim) (hm : ML w) :
    Calls Tryz.prog 36 #[.agg #[vs, vt], .string p] w (RetP (OptInts w.heap.size (readOf s t p)) w) := by
  have HS := Lib.hid hs; have HT := Lib.hid ht; have HM := Lib.hid hm
  obtain ⟨A, c, rfl, -⟩ := hs
  obtain ⟨A2, c2, rfl, -⟩ := ht
  have e0 : Ext w (w.alloc (.cells #[.slice A s.length c, .slice A2 t.length c2] 61)) := (Ext.refl w).alloc _
  have Cn := openVol_c _ (HS.out.ext e0) (HT.out.ext e0) (HM.out.ext e0)
  clear hm
  go_enter Tryz.func36, Tryz.ntmps36
  go_wp2_with fail
  refine Cn.mono ?_
  rintro e w1 ⟨he1, ⟨hv, rfl⟩ | ⟨hv, b, adr, kv, rfl, hSt, hTr, -⟩⟩
  · have Hr : Hid (readOf s t p = none) := Lib.hid (by unfold readOf; rw [hv]; rfl)
    clear hv Cn
    go_wp2
    go_ret2
    exact ⟨_, rfl, OptInts.nil_ Hr.out, (e0.trans he1).alloc _⟩
  · have e1 : Ext w1 (w1.alloc (.cells #[.map (some b), .pointer (some ⟨adr [], 0, none⟩)] 83)) := (Ext.refl w1).alloc _
    have Cr := read_c p _ (vol_parts hv).1 (hSt.ext e1) (vol_parts hv).2.1 (hTr.ext e1) hp (HM.out.ext (e0.trans (he1.trans e1)))
    rw [read_vol hv] at Cr
    clear hv Cn hSt hTr
    go_wp2_with (go_at_call 85; refine Cr.mono ?_; rintro e w3 ⟨r3, rfl, ⟨u3, rfl, hI3⟩, he3⟩)
    go_ret2
    exact ⟨_, rfl, ⟨_, rfl, hI3.keep (e0.trans (he1.trans e1)).size (fun _ _ _ => rfl)⟩, (e0.trans (he1.trans e1)).trans he3⟩
end Go.Sf

/-! The exact law of VolumeRead. -/
namespace Go.Sf
open Go Go.RowKit Go.Proofs
end Go.Sf
