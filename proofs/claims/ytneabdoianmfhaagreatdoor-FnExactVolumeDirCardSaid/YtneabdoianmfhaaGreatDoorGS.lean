/- Files of volumes are read: the reference and the program. -/
import Derived.Test.YtneabdoianmfhaaGreatDoorT89
import Derived.Test.YtneabdoianmfhaaGreatDoorT28
import Derived.Test.YtneabdoianmfhaaGreatDoorGA
import Derived.Test.YtneabdoianmfhaaGreatDoorT88
/-! Files of volumes are read: the reference and the program. -/
namespace Go.Sf
open Go Go.RowKit Go.Proofs Go.Maps
/-- some ints and whether there are some -/
def OptInts (B : Nat) (o : Option (List Int)) (r : Value) (w : World) : Prop := ∃ u, r = .tuple #[u, .bool o.isSome] ∧ Ints B w u (o.getD [])
theorem OptInts.nil_ {B : Nat} {w : World} {o : Option (List Int)} (h : o = none) : OptInts B o (.tuple #[.slice none 0 0, .bool false]) w := by
  subst h; exact ⟨_, rfl, SlOf.nil _ _ _ _ _⟩
theorem OptInts.none_ {B g : Nat} {w : World} {o : Option (List Int)} (h : o = none) : OptInts B o (.tuple #[.slice (some ⟨g, 0, none⟩) 0 0, .bool false]) w := by
  subst h; exact ⟨_, rfl, SlOf.empty _ _ _ _ _ _ _ (Nat.zero_le _) (fun _ => rfl)⟩
theorem OptInts.some_ {B : Nat} {w : World} {o : Option (List Int)} {L : List Int} {v : Value} (h : o = some L) (hs : Ints B w v L) : OptInts B o (.tuple #[v, .bool true]) w := by
  subst h; exact ⟨_, rfl, hs⟩
theorem vol_parts {s : List Hd} {t : List It} (h : volOk s t = true) : StoreOk s ∧ treeOk t = true ∧ ∀ x, x ∈ t → IdsFit s x.ids := by
  unfold volOk at h
  simp only [Bool.and_eq_true] at h
  refine ⟨storeOk_iff.1 h.1, h.2.1, fun x hx => idsFit_iff.1 ?_⟩
  have := h.2.2.1
  unfold filesFit at this
  exact List.all_eq_true.1 this x hx
end Go.Sf

/-! Files of volumes are read: the program's way. -/
namespace Go.Sf
open Go Go.RowKit Go.Proofs Go.Maps
noncomputable def loadIf (s : List Hd) (ids : List Int) : Option (List Int) := if idsFit s ids = true then some (loadOf s ids) else none
set_option maxRecDepth 4000 in
set_option maxHeartbeats 2000000 in
theorem loadFile_c {B B' b n : Nat} {v : Value} {s : List Hd} {ids : List Int} (w : World) (hs : StoreOk s) (h : StoreAt B b n s w) (hi : Ints B' w v ids) :
    Calls Tryz.prog 145 #[.map (some b), v] w (RetP (OptInts w.heap.size (loadIf s ids)) w) := by
  have Cf := fileIds_c w hs h hi
  obtain ⟨M, hV, hM⟩ := h
  have HV : Hid (∀ W, Ext w W → MapV Tryz.prog 3 b n M W) := Lib.hid fun W e => hV.ext e
  have HMd := Lib.hid hM; have HS := Lib.hid hs
  obtain ⟨A2, c2, rfl, hA2⟩ := hi
  cases hf : idsFit s ids with
  | false =>
    rw [hf] at Cf
    have Hr : Hid (loadIf s ids = none) := Lib.hid (by unfold loadIf; rw [hf]; rfl)
    clear hf hV hM hs hA2
    go_enter Tryz.func145, Tryz.ntmps145
    go_wp2_with (go_at_call 179; refine Cf.mono ?_; rintro e w2 ⟨rfl, he2⟩)
    go_ret2
    exact ⟨_, rfl, OptInts.nil_ Hr.out, he2⟩
  | true =>
  rw [hf] at Cf
  have Hr : Hid (loadIf s ids = some (loadOf s ids)) := Lib.hid (by unfold loadIf; rw [hf]; rfl)
  have HFit := Lib.hid (idsFit_iff.1 hf)
  have hn4 : ids.length ≤ 4 := HFit.out.1
  generalize hn : ids.length = m at *
  have Hn := Lib.hid hn; have HA2 := Lib.hid hA2
  clear hn hA2 hs hf hV hM
  go_enter Tryz.func145, Tryz.ntmps145
  go_wp2_with (go_at_call 179; refine Cf.mono ?_; rintro e w2 ⟨rfl, he2⟩)
  clear Cf
  go_loopw [6, 15] (fun v i wr => ∃ k : Nat, k ≤ m ∧ i = .int .i64 k ∧ Ext w wr ∧ OwnS w.heap.size 3 1 EInt wr v (loadOf s (ids.take k))) (fun _ i _ => m - (intOf i).toNat)
  case atStart => exact ⟨0, by omega, rfl, he2, OwnS.nil _ _ _ _ _⟩
  case round =>
    obtain ⟨k, hk, rfl, he, hO⟩ := hrel
    have HO := Lib.hid hO
    by_cases hlt : k < m
    · obtain ⟨x, hx⟩ := get_of_lt (l := ids) (k := k) (by rw [Hn.out]; exact hlt)
      obtain ⟨b2, o, rfl, -, -, hxi, hc⟩ := Ints.at_ HA2.out hx
      have a0 := hc wr he
      obtain ⟨y, hfy, -⟩ := HFit.out.2 k x hx
      obtain ⟨u, hr, hu⟩ := (HMd.out x).2 y hfy
      have HU := Lib.hid (hu.ext he)
      have hy8 := block8 HS.out hfy
      have Ht := Lib.hid (loadOf_take hx hfy)
      obtain ⟨Ay, cy, rfl, -⟩ := hu
      obtain ⟨yk, yb, yu⟩ := y
      simp only at hr HU hy8 Ht
      have hkey := keyI hxi
      have hVr := HV.out wr he
      have hlb : (loadOf s (ids.take k)).length ≤ 32 := by
        have := loadOf_len HS.out (ids.take k)
        rw [List.length_take] at this
        omega
      obtain ⟨A', c', rfl⟩ := hO.form
      clear hc hx hfy hO
      have hfd : ∀ W : World, (Instr.field 84 (.agg #[.int .i64 yk, .slice Ay yb.length cy, .int .i64 yu]) 1).run Tryz.prog W = .ok (.slice Ay yb.length cy) W := fun _ => by kernel_rfl
      go_wp2_with (first | (at_lookup; refine wp_mlook_some rfl _ _ rfl lawI underStore (zeroHd _) rfl hVr _ _ rfl hkey hr ?_) | (at_builtin; go_must (refine wp_apS (w0 := w) (by rfl) _ _ (by rfl) el_int eint_ok he _ (.slice Ay yb.length cy) (loadOf s (ids.take k)) yb (by rfl) HO.out (by rfl) (HU.out.keep (Nat.zero_le _) (fun _ _ _ => rfl)) ?_ ?_)))
      · unfold lim; omega
      · intro v' w' hO' he' hk'
        have HO' := Lib.hid hO'
        clear hO' hk'
        go_wp2
        go_roundw
        case rel => exact ⟨k + 1, by omega, by go_num, he', by rw [Ht.out]; exact HO'.out⟩
        case measure => simp [intOf]; omega
    · have hks : k = m := by omega
      subst hks
      have hO2 := HO.out
      rw [List.take_of_length_le (by rw [Hn.out]; exact Nat.le_refl _)] at hO2
      have HF := Lib.hid (hO2.sl eint_ok (Nat.le_refl _) (by have := loadOf_len HS.out ids; unfold lim; have := Hn.out; omega))
      clear hO hO2
      go_wp2
      go_ret2
      exact ⟨_, rfl, OptInts.some_ Hr.out HF.out, he⟩
end Go.Sf

/-! The exact law of VolumeRead. -/
namespace Go.Sf
open Go Go.RowKit Go.Proofs
theorem sum_le' {α : Type} (f : α → Nat) (b : Nat) (l : List α) (h : ∀ x, x ∈ l → f x ≤ b) : (l.map f).sum ≤ l.length * b := by
  induction l with
  | nil => simp
  | cons a l ih =>
    have h1 := h a (by simp)
    have h2 := ih fun x hx => h x (by simp [hx])
    rw [List.map_cons, List.sum_cons, List.length_cons, Nat.add_mul, Nat.one_mul]
    omega
theorem ItsU.cost' {B : Nat} {w : World} {v : Value} {l : List (It × Value)} (h : ItsU B w v l) : cIts (l.map Prod.fst) ≤ 100000000000000 := by
  obtain ⟨A, c, -, -, -, hl, he⟩ := h
  unfold cIts
  have := sum_le' wIt 5000000 (l.map Prod.fst) fun x hx => by
    obtain ⟨q, hq, rfl⟩ := List.mem_map.1 hx
    obtain ⟨k, hk⟩ := List.mem_iff_getElem?.1 hq
    obtain ⟨_, _, _, -, -, -, -, -, -, -, hi⟩ := he k q hk
    have := hi.len
    unfold lim at this; unfold wIt; omega
  rw [List.length_map] at this
  unfold lim at hl
  have h2 : l.length * 5000000 ≤ 4194304 * 5000000 := Nat.mul_le_mul_right _ hl
  omega
theorem HdsU.cost {B : Nat} {w : World} {v : Value} {l : List (Hd × Value)} (h : HdsU B w v l) : cHds (l.map Prod.fst) ≤ 100000000000000 := by
  obtain ⟨A, c, -, -, -, hl, he⟩ := h
  unfold cHds
  have := sum_le' wHd 5000000 (l.map Prod.fst) fun x hx => by
    obtain ⟨q, hq, rfl⟩ := List.mem_map.1 hx
    obtain ⟨k, hk⟩ := List.mem_iff_getElem?.1 hq
    obtain ⟨_, _, _, -, -, -, -, -, -, -, -, hi⟩ := he k q hk
    have := hi.len
    unfold lim at this; unfold wHd; omega
  rw [List.length_map] at this
  unfold lim at hl
  have h2 : l.length * 5000000 ≤ 4194304 * 5000000 := Nat.mul_le_mul_right _ hl
  omega
set_option maxRecDepth 4000 in
set_option maxHeartbeats 1000000 in
theorem markVolume_c {B m : Nat} {u1 u2 : Value} {lh : List (Hd × Value)} {li : List (It × Value)} (w : World) (h1 : HdsU B w u1 lh) (s1 : Sep lh) (hf : ∀ b, FootHd u1 lh b → b < m) (h2 : ItsU m w u2 li) (s2 : Sep li) :
    Calls Tryz.prog 43 #[.agg #[u1, u2], .int .i64 1] w (RetM (fun b => FootHd u1 lh b ∨ FootIt u2 li b) (.int .i64 (1 + (cHds (lh.map Prod.fst) : Nat) + (cIts (li.map Prod.fst) : Nat))) (fun _ => True) w) := by
  have H1 := Lib.hid h1; have H2 := Lib.hid h2; have S1 := Lib.hid s1; have S2 := Lib.hid s2; have HF := Lib.hid hf
  have cx := h1.cost; have cg := h2.cost'
  obtain ⟨A, c, rfl, -⟩ := h1
  obtain ⟨A2, c2, rfl, -⟩ := h2
  have e0 : Ext w (w.alloc (.cells #[.slice A lh.length c, .slice A2 li.length c2] 66)) := (Ext.refl w).alloc _
  have hbk := Blk.new w 66 #[.slice A lh.length c, .slice A2 li.length c2]
  have hlt : Hid (∀ b, FootHd (.slice A lh.length c) lh b → b < w.heap.size) := Lib.hid fun b hb => (H1.out.foot hb).2
  have Ch := markHdS_c (k := 1) _ (H1.out.ext e0) S1.out (by omega) (by omega)
  have Hft : Hid (∀ b, FootIt (.slice A2 li.length c2) li b → b < w.heap.size) := Lib.hid fun b hb => (H2.out.foot hb).2
  clear s1 s2 hf
  generalize (cHds (lh.map Prod.fst) : Nat) = nh at *
  have hci : ∃ ni, cIts (li.map Prod.fst) = ni := ⟨_, rfl⟩
  obtain ⟨ni, hni⟩ := hci
  rw [hni] at cg ⊢
  have Hni := Lib.hid hni
  clear hni
  go_enter Tryz.func43, Tryz.ntmps43
  go_wp2_with fail
  refine Ch.mono ?_
  rintro e w1 ⟨rfl, -, hM1⟩
  have b1 := hM1.blk hbk fun hb => by have := hlt.out _ hb; omega
  have q0 := b1.cell 0; have q1 := b1.cell 1
  simp at q0 q1
  have hI := (H2.out.ext e0).keep (Nat.le_refl _) (hM1.keeps HF.out)
  have Ci := markItemS_c (k := 1 + nh) w1 hI S2.out (by omega) (by rw [Hni.out]; omega)
  rw [Hni.out] at Ci
  have HM1 := Lib.hid hM1
  clear Ch hM1 hbk b1 hI
  go_wp2_with (go_at_call 75; refine Ci.mono ?_; rintro e w2 ⟨rfl, -, hM2⟩)
  go_ret
  exact ⟨rfl, trivial, (e0.mod _).trans ((HM1.out.mono fun b hb => .inl hb).trans (hM2.mono fun b hb => .inr hb))⟩
end Go.Sf
