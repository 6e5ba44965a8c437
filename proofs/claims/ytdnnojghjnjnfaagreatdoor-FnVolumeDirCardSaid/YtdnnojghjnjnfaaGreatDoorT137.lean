/- The program's VolumeDir. -/
import Derived.Test.YtdnnojghjnjnfaaGreatDoorGV
import Derived.Test.YtdnnojghjnjnfaaGreatDoorT132
namespace Go.Sf
open Go Go.RowKit Go.Proofs
theorem vol_tree {s : List Hd} {t : List It} (h : volOk s t = true) : treeOk t = true := by unfold volOk at h; simp only [Bool.and_eq_true] at h; exact h.2.1
theorem vol_store {s : List Hd} {t : List It} (h : volOk s t = true) : StoreOk s := by unfold volOk at h; simp only [Bool.and_eq_true] at h; exact storeOk_iff.1 h.1
/-- what making a directory leaves -/
def MakeDV (w0 w : World) (b : Nat) (s : List Hd) (t : List It) (p : ByteArray) (r : Nat) (e : Ending) (w' : World) : Prop :=
  e = .returned (.bool (treePut t (dirIt p)).isSome) ∧ Ext w0 w' ∧ KeepsN w w' ∧ ∀ t', treePut t (dirIt p) = some t' → treeOk t' = true ∧ ∃ adr' kv', StoreAt w0.heap.size b 16 s w' ∧ TreeAt w0.heap.size w' t' adr' kv' ∧ adr' [] = r
section
variable {w0 w : World} {s : List Hd} {t : List It} {adr : Key → Nat} {kv : Key → Value}
set_option maxRecDepth 4000 in
set_option maxHeartbeats 2000000 in
theorem makeDir_c {b : Nat} {p : ByteArray} (ht : treeOk t = true) (hSt : StoreAt w0.heap.size b 16 s w) (hTr : TreeAt w0.heap.size w t adr kv) (_hb : w0.heap.size ≤ b) (h0 : Ext w0 w) (hp : p.size < lim) (hm : ML w) :
    Calls Tryz.prog 52 #[.agg #[.map (some b), .pointer (some ⟨adr [], 0, none⟩)], .string p] w (MakeDV w0 w b s t p (adr [])) := by
  have e0 : Ext w (w.alloc (.cells #[.map (some b), .pointer (some ⟨adr [], 0, none⟩)] 86)) := (Ext.refl w).alloc _
  have hbk := Blk.new w 86 #[.map (some b), .pointer (some ⟨adr [], 0, none⟩)]
  have d1 := fun W (e : Ext _ W) => hbk.at_ (i := 1) (u := .pointer (some ⟨adr [], 0, none⟩)) rfl W e
  have Cp := PathValid_c p _ hp (hm.ext e0)
  have H0 := Lib.hid h0; have HSt := Lib.hid hSt
  cases hpo : pathOk p with
  | false =>
    rw [hpo] at Cp
    have Hr : Hid (treePut t (dirIt p) = none) := Lib.hid (treePut_bad hpo)
    clear hpo hbk h0 hSt hTr hm
    go_enter Tryz.func52, Tryz.ntmps52
    go_wp2_with (go_at_call 88; refine Cp.mono ?_; rintro e w2 ⟨rfl, he2⟩)
    go_ret
    exact ⟨by rw [Hr.out]; rfl, H0.out.trans (e0.trans he2), (e0.trans he2).keepsC.n, fun t' h => by rw [Hr.out] at h; cases h⟩
  | true =>
    rw [hpo] at Cp
    have Ci := fun W (e : Ext w W) => putDir_c (w0 := w0) (hTr.ext e) ht hpo hp (hm.ext e) (h0.trans e)
    clear hpo hbk h0 hSt hTr hm
    go_enter Tryz.func52, Tryz.ntmps52
    go_wp2_with (first | (go_at_call 88; refine Cp.mono ?_; rintro e w2 ⟨rfl, he2⟩; have q1 := d1 _ he2) | (go_at_call 96; refine (Ci _ (e0.trans he2)).mono ?_; rintro e w3 ⟨rfl, he3, hKN, hKO, hsome⟩; have HK := Lib.hid (And.intro hKN hKO); have HSome := Lib.hid hsome; clear hKN hKO hsome))
    go_ret
    refine ⟨rfl, he3, (e0.trans he2).keepsC.n.trans HK.out.1, fun t' h => ?_⟩
    obtain ⟨g1, adr', kv', g2, g3⟩ := HSome.out t' h
    exact ⟨g1, adr', kv', (HSt.out.ext (e0.trans he2)).keepN HK.out.1 HK.out.2, g2, g3⟩
end
set_option maxRecDepth 4000 in
set_option maxHeartbeats 2000000 in
theorem VolumeDir_c {B B' : Nat} {vs vt : Value} {s : List Hd} {t : List It} {p : ByteArray} (w : World) (hs : Hds B w vs s) (ht : Its B' w vt t) (hp : p.size < lim) (hm : ML w) :
    Calls Tryz.prog 16 #[.agg #[vs, vt], .string p] w (RetP (OutVol w.heap.size (volPut s t (dirIt p))) w) := by
  have HS := Lib.hid hs; have HT := Lib.hid ht; have HM := Lib.hid hm
  obtain ⟨A, c, rfl, -⟩ := hs
  obtain ⟨A2, c2, rfl, -⟩ := ht
  have e0 : Ext w ((w.alloc (.cells #[.slice A s.length c, .slice A2 t.length c2] 26)).alloc (.cells #[.slice none 0 0, .slice none 0 0] 26)) := ((Ext.refl w).alloc _).alloc _
  have hbr : Blk ((w.alloc (.cells #[.slice A s.length c, .slice A2 t.length c2] 26)).alloc (.cells #[.slice none 0 0, .slice none 0 0] 26)) (w.heap.size + 1) 26 #[.slice none 0 0, .slice none 0 0] := by
    have := Blk.new (w.alloc (.cells #[.slice A s.length c, .slice A2 t.length c2] 26)) 26 #[.slice none 0 0, .slice none 0 0]
    simpa using this
  have Hbr := Lib.hid hbr
  have Cn := openVol_c _ (HS.out.ext e0) (HT.out.ext e0) (HM.out.ext e0)
  clear hm hbr
  go_enter Tryz.func16, Tryz.ntmps16
  go_wp2_with fail
  refine Cn.mono ?_
  rintro e w1 ⟨he1, ⟨hv, rfl⟩ | ⟨hv, b, adr, kv, rfl, hSt, hTr, hbB⟩⟩
  · have b3 := (Hbr.out.ext he1).alloc (.cells #[.map none, .pointer none] 86)
    have c0 := b3.cell 0; have c1 := b3.cell 1; have f0 := b3.frozen 0; have f1 := b3.frozen 1
    simp at c0 c1 f0 f1
    have Hr : Hid (volPut s t (dirIt p) = none) := Lib.hid (by unfold volPut; rw [hv]; rfl)
    have Hb3 := Lib.hid b3
    clear hv b3 Cn
    go_wp2
    obtain ⟨p1, -, p3, -⟩ := put_two (a := .slice none 0 0) (b := .slice none 0 0) Hb3.out
    have z0 := p1.cell 0; have z1 := p1.cell 1
    simp at z0 z1
    exact bodyPost_ret (v := .tuple #[.agg #[.slice none 0 0, .slice none 0 0], .bool false]) (by simp [results, Tryz.results16, go_sem, z0, z1]) rfl ⟨_, rfl, OutVol.none_ Hr.out, p3 w ((e0.trans he1).alloc _) (by omega)⟩
  · have E1 := e0.trans he1
    have e4 : Ext w1 (w1.alloc (.cells #[.map (some b), .pointer (some ⟨adr [], 0, none⟩)] 86)) := (Ext.refl w1).alloc _
    have bo := Blk.new w1 86 #[.map (some b), .pointer (some ⟨adr [], 0, none⟩)]
    have q0 := bo.cell 0; have q1 := bo.cell 1
    simp at q0 q1
    have Cr := makeDir_c (w := w1.alloc (.cells #[.map (some b), .pointer (some ⟨adr [], 0, none⟩)] 86)) (s := s) (vol_tree hv) (hSt.ext e4) (hTr.ext e4) hbB (he1.trans e4) hp (HM.out.ext (E1.trans e4))
    have Hbo := Lib.hid bo
    clear Cn hSt hTr bo
    go_wp2_with fail
    refine Cr.mono ?_
    rintro e w2 ⟨rfl, he2, hKN, hsome⟩
    have E2 := e0.trans he2
    have b3 := Hbr.out.ext he2
    have c0 := b3.cell 0; have c1 := b3.cell 1; have f0 := b3.frozen 0; have f1 := b3.frozen 1
    simp at c0 c1 f0 f1
    have bo2 := hKN _ _ _ (by decide) (by decide) Hbo.out
    have r0 := bo2.cell 0; have r1 := bo2.cell 1
    simp at r0 r1
    have Hb3 := Lib.hid b3
    clear b3 bo2 hKN Cr q0 q1
    cases hd : treePut t (dirIt p) with
    | none =>
      have Hr : Hid (volPut s t (dirIt p) = none) := Lib.hid (by unfold volPut; rw [hv, hd]; rfl)
      clear hd hsome hv
      simp only [Option.isSome_none] at *
      go_wp2
      obtain ⟨p1, -, p3, -⟩ := put_two (a := .slice none 0 0) (b := .slice none 0 0) Hb3.out
      have z0 := p1.cell 0; have z1 := p1.cell 1
      simp at z0 z1
      exact bodyPost_ret (v := .tuple #[.agg #[.slice none 0 0, .slice none 0 0], .bool false]) (by simp [results, Tryz.results16, go_sem, z0, z1]) rfl ⟨_, rfl, OutVol.none_ Hr.out, p3 w E2 (by omega)⟩
    | some t' =>
      obtain ⟨ht', adr', kv', hSt', hTr', har⟩ := hsome t' hd
      have Hr : Hid (volPut s t (dirIt p) = some (s, t')) := Lib.hid (by unfold volPut; rw [hv, hd]; rfl)
      have Cv := volume_c w2 (vol_store hv) ht' hSt' hTr'
      rw [har] at Cv
      clear hsome hv hd ht' hSt' hTr' har
      simp only [Option.isSome_some]
      go_wp2_with (go_at_call 53; refine Cv.mono ?_; rintro e w4 ⟨vv, rfl, hV, he4⟩; obtain ⟨u1, u2, lh, li, mm, rfl, -, hh1, -, -, -, hh2, -, -⟩ := id hV; obtain ⟨A1, c1, rfl, -⟩ := hh1; obtain ⟨A3, c3, rfl, -⟩ := hh2; have b4 := Hb3.out.ext he4; have k0 := b4.cell 0; have k1 := b4.cell 1; have g0 := b4.frozen 0; have g1 := b4.frozen 1; simp at k0 k1 g0 g1; have HV := Lib.hid hV; clear hV)
      obtain ⟨p1, p2, p3, -⟩ := put_two (a := .slice A1 lh.length c1) (b := .slice A3 li.length c3) b4
      have z0 := p1.cell 0; have z1 := p1.cell 1
      simp at z0 z1
      refine bodyPost_ret (v := .tuple #[.agg #[.slice A1 lh.length c1, .slice A3 li.length c3], .bool true]) (by simp [results, Tryz.results16, go_sem, z0, z1]) rfl ⟨_, rfl, ?_, p3 w (E2.trans he4) (by omega)⟩
      rw [Hr.out]
      exact ⟨_, rfl, (HV.out.low E2.size).keepT p2 (by decide) (by decide) (by decide)⟩
end Go.Sf
