/- A volume is marked, and what was marked is found. -/
import Derived.Test.YtneabdoianmfhaaGreatDoorGU
import Derived.Test.YtneabdoianmfhaaGreatDoorGS
import Derived.Test.YtneabdoianmfhaaGreatDoorGL
namespace Go.Sf
open Go Go.RowKit Go.Proofs
theorem mkHdsU_from : ∀ (k : Int) (l : List (Hd × Value)) (q : Hd × Value), q ∈ mkHdsU k l → ∃ q', q' ∈ l ∧ q.2 = q'.2 ∧ (q.1.bytes ≠ [] → q'.1.bytes ≠ [])
  | _, [], q, h => by cases h
  | k, x :: r, q, h => by
    rcases List.mem_cons.1 h with rfl | h
    · refine ⟨x, by simp, rfl, fun hne hx => hne ?_⟩
      have : (mkHd k x.1).bytes.length = x.1.bytes.length := by show (mkInts (k + 1) x.1.bytes.length).length = _; exact mkInts_len _ _
      rw [hx] at this
      exact List.length_eq_zero_iff.1 this
    · obtain ⟨q', h1, h2⟩ := mkHdsU_from _ r q h
      exact ⟨q', by simp [h1], h2⟩
theorem FootHd.mk {v : Value} {k : Int} {l : List (Hd × Value)} {b : Nat} (h : FootHd v (mkHdsU k l) b) : FootHd v l b := by
  rcases h with ⟨h1, h2⟩ | ⟨q, hq, h1, h2⟩
  · exact .inl ⟨h1, fun e => h2 (by rw [e]; rfl)⟩
  · obtain ⟨q', g1, g2, g3⟩ := mkHdsU_from _ _ _ hq
    exact .inr ⟨q', g1, by rw [← g2]; exact h1, g3 h2⟩
theorem HdsU.mod {B : Nat} {S : Nat → Prop} {w w' : World} {v : Value} {l : List (Hd × Value)} (h : HdsU B w v l) (hm : Mod S w w') (hs : ∀ b, FootHd v l b → ¬ S b) : HdsU B w' v l := by
  obtain ⟨A, c, rfl, h⟩ := h
  refine ⟨A, c, rfl, ?_⟩
  cases l with
  | nil => exact ⟨h.1, h.2.1, h.2.2.1, fun k x hx => by simp at hx⟩
  | cons y ys =>
    exact SlIn.mod h hm (fun b o e => hs b (.inl ⟨by rw [e]; rfl, by simp⟩)) fun k x cs p hx ⟨y0, g0, y1, y2, g2, hI⟩ =>
      ⟨y0, g0, y1, y2, g2, hI.mod hm fun b hb => hs b (.inr ⟨x, List.mem_of_getElem? hx, hb⟩)⟩
set_option maxRecDepth 4000 in
set_option maxHeartbeats 1000000 in
theorem markVolumeU_c {B m : Nat} {u1 u2 : Value} {lh : List (Hd × Value)} {li : List (It × Value)} (w : World) (h1 : HdsU B w u1 lh) (s1 : Sep lh) (hf : ∀ b, FootHd u1 lh b → b < m) (h2 : ItsU m w u2 li) (s2 : Sep li) :
    Calls Tryz.prog 43 #[.agg #[u1, u2], .int .i64 1] w (RetM (fun b => FootHd u1 lh b ∨ FootIt u2 li b) (.int .i64 (1 + (cHds (lh.map Prod.fst) : Nat) + (cIts (li.map Prod.fst) : Nat)))
      (fun w' => Hds B w' u1 (mkHds 1 (lh.map Prod.fst)) ∧ Its m w' u2 (mkIts (1 + (cHds (lh.map Prod.fst) : Nat)) (li.map Prod.fst))) w) := by
  have H1 := Lib.hid h1; have H2 := Lib.hid h2; have S1 := Lib.hid s1; have S2 := Lib.hid s2; have HF := Lib.hid hf
  have cx := h1.cost; have cg := h2.cost'
  obtain ⟨A, c, rfl, -⟩ := h1
  obtain ⟨A2, c2, rfl, -⟩ := h2
  have e0 : Ext w (w.alloc (.cells #[.slice A lh.length c, .slice A2 li.length c2] 66)) := (Ext.refl w).alloc _
  have hbk := Blk.new w 66 #[.slice A lh.length c, .slice A2 li.length c2]
  have hlt : Hid (∀ b, FootHd (.slice A lh.length c) lh b → b < w.heap.size) := Lib.hid fun b hb => (H1.out.foot hb).2
  have Ch := markHdS_c (k := 1) _ (H1.out.ext e0) S1.out (by omega) (by omega)
  have Hft : Hid (∀ b, FootIt (.slice A2 li.length c2) li b → m ≤ b ∧ b < w.heap.size) := Lib.hid fun b hb => H2.out.foot hb
  clear s1 s2 hf
  generalize (cHds (lh.map Prod.fst) : Nat) = nh at *
  have hci : ∃ ni, cIts (li.map Prod.fst) = ni := ⟨_, rfl⟩
  obtain ⟨ni, hni⟩ := hci
  rw [hni] at cg ⊢
  have Hni := Lib.hid hni
  have Hmk : Hid (mkHds 1 (lh.map Prod.fst) = (mkHdsU 1 lh).map Prod.fst ∧ mkIts (1 + (nh : Int)) (li.map Prod.fst) = (mkItsU (1 + (nh : Int)) li).map Prod.fst) := Lib.hid ⟨(mkHdsU_fst _ _).symm, (mkItsU_fst _ _).symm⟩
  clear hni
  go_enter Tryz.func43, Tryz.ntmps43
  go_wp2_with fail
  refine Ch.mono ?_
  rintro e w1 ⟨rfl, hU1, hM1⟩
  have b1 := hM1.blk hbk fun hb => by have := hlt.out _ hb; omega
  have q0 := b1.cell 0; have q1 := b1.cell 1
  simp at q0 q1
  have hI := (H2.out.ext e0).keep (Nat.le_refl _) (hM1.keeps HF.out)
  have Ci := markItemS_c (k := 1 + nh) w1 hI S2.out (by omega) (by rw [Hni.out]; omega)
  rw [Hni.out] at Ci
  have HM1 := Lib.hid hM1
  have HU1 := Lib.hid hU1
  clear Ch hM1 hbk b1 hI hU1
  go_wp2_with (go_at_call 75; refine Ci.mono ?_; rintro e w2 ⟨rfl, hU2, hM2⟩; have HM2 := Lib.hid hM2; have HU2 := Lib.hid hU2; clear hM2 hU2)
  go_ret
  refine ⟨rfl, ⟨?_, ?_⟩, (e0.mod _).trans ((HM1.out.mono fun b hb => .inl hb).trans (HM2.out.mono fun b hb => .inr hb))⟩
  · rw [Hmk.out.1]
    exact (HU1.out.mod HM2.out fun b hb hi => by have h1 := HF.out b hb.mk; have h2 := (Hft.out b hi).1; omega).plain
  · rw [Hmk.out.2]; exact HU2.out.its
set_option maxRecDepth 4000 in
set_option maxHeartbeats 1000000 in
theorem heldVolume_c {B m : Nat} {u1 u2 : Value} {S : List Hd} {T : List It} {n : Int} (w : World) (h1 : Hds B w u1 (mkHds 1 S)) (h2 : Its m w u2 (mkIts (1 + (cHds S : Nat)) T)) (c1 : cHds S ≤ 100000000000000) (c2 : cIts T ≤ 100000000000000)
    (hn : n = 1 + (cHds S : Nat) + (cIts T : Nat)) : Calls Tryz.prog 44 #[.agg #[u1, u2], .int .i64 1] w (Ret (.int .i64 n) w) := by
  have H1 := Lib.hid h1; have H2 := Lib.hid h2
  obtain ⟨A, c, rfl, -⟩ := h1
  obtain ⟨A2, c2', rfl, -⟩ := h2
  have e0 : Ext w (w.alloc (.cells #[.slice A (mkHds 1 S).length c, .slice A2 (mkIts (1 + (cHds S : Nat)) T).length c2'] 66)) := (Ext.refl w).alloc _
  have hbk := Blk.new w 66 #[.slice A (mkHds 1 S).length c, .slice A2 (mkIts (1 + (cHds S : Nat)) T).length c2']
  have d1 := fun W (e : Ext _ W) => hbk.at_ (i := 1) (u := .slice A2 (mkIts (1 + (cHds S : Nat)) T).length c2') rfl W e
  have Ch := heldHdS_c (k := 1) (l := S) _ (H1.out.ext e0) (by omega) (by omega)
  have Ci := fun W (e : Ext w W) => heldItS_c (k := 1 + (cHds S : Nat)) (l := T) W (H2.out.ext e) (by omega) (by omega)
  clear hbk
  subst hn
  have k1 : ¬ (1 : Int) + (cHds S : Nat) < 0 := by omega
  have k2 : ¬ (1 : Int) + (cHds S : Nat) + (cIts T : Nat) < 0 := by omega
  generalize (mkIts (1 + (cHds S : Nat)) T).length = n2 at *
  generalize (mkHds 1 S).length = n1 at *
  generalize (1 : Int) + (cHds S : Nat) + (cIts T : Nat) = q2 at *
  generalize (1 : Int) + (cHds S : Nat) = q1 at *
  go_enter Tryz.func44, Tryz.ntmps44
  go_wp2_with (first | (go_at_call 102; refine Ch.mono ?_; rintro e w1 ⟨rfl, he1⟩; have x1 := d1 w1 he1) | (go_at_call 103; refine (Ci _ (e0.trans he1)).mono ?_; rintro e w2 ⟨rfl, he2⟩))
  go_ret
  exact ⟨rfl, (e0.trans he1).trans he2⟩
theorem dropAll_len : ∀ (ids : List Int) (l l' : List Hd), dropAll l ids = some l' → l'.length ≤ l.length
  | [], l, l', h => by injection h with h; subst h; exact Nat.le_refl _
  | i :: r, l, l', h => by
    cases hd : dropId l i with
    | none => rw [dropAll, hd] at h; cases h
    | some l1 =>
      rw [dropAll, hd] at h
      exact Nat.le_trans (dropAll_len r l1 l' h) (dropId_len hd)
theorem volOk_len {s : List Hd} {t : List It} (h : volOk s t = true) : s.length ≤ 16 := by
  unfold volOk at h
  simp only [Bool.and_eq_true] at h
  exact (storeOk_iff.1 h.1).1
theorem volDrop_len {s : List Hd} {t : List It} {p : ByteArray} : ((volDrop s t p).elim [] (·.1)).length ≤ lim := by
  unfold volDrop lim
  split
  · next hv =>
    have h16 := volOk_len hv
    cases treeDrop t p with
    | none => simp
    | some t' =>
      simp only [Option.map_some, Option.elim_some]
      unfold freeAll
      split
      · cases hd : dropAll s (idsAt t p) with
        | none => simp
        | some l => have := dropAll_len _ _ _ hd; simp only [Option.getD_some]; omega
      · simp
  · simp
theorem volPut_len {s : List Hd} {t : List It} {p : ByteArray} : ((volPut s t (dirIt p)).elim [] (·.1)).length ≤ lim := by
  unfold volPut lim
  split
  · next hv =>
    have h16 := volOk_len hv
    cases treePut t (dirIt p) with
    | none => simp
    | some t' => simp only [Option.map_some, Option.elim_some]; omega
  · simp
end Go.Sf
