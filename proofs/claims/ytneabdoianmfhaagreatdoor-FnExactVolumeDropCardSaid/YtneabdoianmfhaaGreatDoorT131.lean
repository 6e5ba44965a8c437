/- The program's VolumeDrop. -/
import Derived.Test.YtneabdoianmfhaaGreatDoorT130
namespace Go.Sf
open Go Go.RowKit Go.Proofs
/-- a volume of the call's own, to be marked, and whether there is one -/
def OutVol (B : Nat) (o : Option (List Hd × List It)) (r : Value) (w : World) : Prop := ∃ vv, r = .tuple #[vv, .bool o.isSome] ∧ VolU B w vv (o.elim [] (·.1)) (o.elim [] (·.2))
theorem VolU.nil (B : Nat) (w : World) : VolU B w (.agg #[.slice none 0 0, .slice none 0 0]) [] [] :=
  ⟨_, _, [], [], B, rfl, rfl, SlOf.nil _ _ _ _ _, List.Pairwise.nil, (fun b h => by
    rcases h with ⟨h, -⟩ | ⟨q, hq, -⟩
    · cases h
    · cases hq), rfl, SlOf.nil _ _ _ _ _, List.Pairwise.nil, Nat.le_refl _⟩
theorem OutVol.none_ {B : Nat} {w : World} {o : Option (List Hd × List It)} (h : o = none) : OutVol B o (.tuple #[.agg #[.slice none 0 0, .slice none 0 0], .bool false]) w := by
  subst h; exact ⟨_, rfl, VolU.nil _ _⟩
theorem VolU.low {B B' : Nat} {w : World} {r : Value} {s : List Hd} {t : List It} (h : VolU B w r s t) (hB : B' ≤ B) : VolU B' w r s t :=
  let ⟨u1, u2, lh, li, m, a1, a2, a3, a4, a5, a6, a7, a8, a9⟩ := h; ⟨u1, u2, lh, li, m, a1, a2, a3.keep hB (fun _ _ _ => rfl), a4, a5, a6, a7, a8, Nat.le_trans hB a9⟩
theorem VolU.keepT {B : Nat} {w w' : World} {r : Value} {s : List Hd} {t : List It} {ty : TypeId} (h : VolU B w r s t) (hk : KeepsT ty w w') (h1 : 84 ≠ ty) (h2 : 100 ≠ ty) (h3 : 3 ≠ ty) : VolU B w' r s t :=
  let ⟨u1, u2, lh, li, m, a1, a2, a3, a4, a5, a6, a7, a8, a9⟩ := h; ⟨u1, u2, lh, li, m, a1, a2, a3.keepT hk h1 h3, a4, a5, a6, a7.keepT hk h2 h3, a8, a9⟩
set_option maxRecDepth 4000 in
set_option maxHeartbeats 2000000 in
theorem VolumeDrop_c {B B' : Nat} {vs vt : Value} {s : List Hd} {t : List It} {p : ByteArray} (w : World) (hs : Hds B w vs s) (ht : Its B' w vt t) (hp : p.size < lim) (hm : ML w) :
    Calls Tryz.prog 46 #[.agg #[vs, vt], .string p] w (RetP (OutVol w.heap.size (volDrop s t p)) w) := by
  have HS := Lib.hid hs; have HT := Lib.hid ht; have HM := Lib.hid hm
  obtain ⟨A, c, rfl, -⟩ := hs
  obtain ⟨A2, c2, rfl, -⟩ := ht
  have e0 : Ext w ((w.alloc (.cells #[.slice A s.length c, .slice A2 t.length c2] 66)).alloc (.cells #[.slice none 0 0, .slice none 0 0] 66)) := ((Ext.refl w).alloc _).alloc _
  have hbr : Blk ((w.alloc (.cells #[.slice A s.length c, .slice A2 t.length c2] 66)).alloc (.cells #[.slice none 0 0, .slice none 0 0] 66)) (w.heap.size + 1) 66 #[.slice none 0 0, .slice none 0 0] := by
    have := Blk.new (w.alloc (.cells #[.slice A s.length c, .slice A2 t.length c2] 66)) 66 #[.slice none 0 0, .slice none 0 0]
    simpa using this
  have Hbr := Lib.hid hbr
  have Cn := openVol_c _ (HS.out.ext e0) (HT.out.ext e0) (HM.out.ext e0)
  clear hm hbr
  go_enter Tryz.func46, Tryz.ntmps46
  go_wp2_with fail
  refine Cn.mono ?_
  rintro e w1 ⟨he1, ⟨hv, rfl⟩ | ⟨hv, b, adr, kv, rfl, hSt, hTr, hbB⟩⟩
  · have b3 := (Hbr.out.ext he1).alloc (.cells #[.map none, .pointer none] 111)
    have c0 := b3.cell 0; have c1 := b3.cell 1; have f0 := b3.frozen 0; have f1 := b3.frozen 1
    simp at c0 c1 f0 f1
    have Hr : Hid (volDrop s t p = none) := Lib.hid (by unfold volDrop; rw [hv]; rfl)
    have Hb3 := Lib.hid b3
    clear hv b3 Cn
    go_wp2
    obtain ⟨p1, -, p3, -⟩ := put_two (a := .slice none 0 0) (b := .slice none 0 0) Hb3.out
    have z0 := p1.cell 0; have z1 := p1.cell 1
    simp at z0 z1
    exact bodyPost_ret (v := .tuple #[.agg #[.slice none 0 0, .slice none 0 0], .bool false]) (by simp [results, Tryz.results46, go_sem, z0, z1]) rfl ⟨_, rfl, OutVol.none_ Hr.out, p3 w ((e0.trans he1).alloc _) (by omega)⟩
  · have E1 := e0.trans he1
    have e4 : Ext w1 (w1.alloc (.cells #[.map (some b), .pointer (some ⟨adr [], 0, none⟩)] 111)) := (Ext.refl w1).alloc _
    have bo := Blk.new w1 111 #[.map (some b), .pointer (some ⟨adr [], 0, none⟩)]
    have q0 := bo.cell 0; have q1 := bo.cell 1
    simp at q0 q1
    have Cr := remove_c (w := w1.alloc (.cells #[.map (some b), .pointer (some ⟨adr [], 0, none⟩)] 111)) hv (hSt.ext e4) (hTr.ext e4) hbB (he1.trans e4) hp (HM.out.ext (E1.trans e4))
    have Hbo := Lib.hid bo
    clear Cn hSt hTr bo
    go_wp2_with fail
    refine Cr.mono ?_
    rintro e w2 ⟨rfl, he2, hKN, hsome⟩
    have E2 := e0.trans he2
    have b3 := Hbr.out.ext he2
    have c0 := b3.cell 0; have c1 := b3.cell 1; have f0 := b3.frozen 0; have f1 := b3.frozen 1
    simp at c0 c1 f0 f1
    have bo2 := hKN _ _ _ (by decide) (by decide) Hbo.out
    have r0 := bo2.cell 0; have r1 := bo2.cell 1
    simp at r0 r1
    have Hb3 := Lib.hid b3
    clear b3 bo2 hKN Cr q0 q1
    cases hd : treeDrop t p with
    | none =>
      have Hr : Hid (volDrop s t p = none) := Lib.hid (by unfold volDrop; rw [hv, hd]; rfl)
      clear hd hsome hv
      simp only [Option.isSome_none] at *
      go_wp2
      obtain ⟨p1, -, p3, -⟩ := put_two (a := .slice none 0 0) (b := .slice none 0 0) Hb3.out
      have z0 := p1.cell 0; have z1 := p1.cell 1
      simp at z0 z1
      exact bodyPost_ret (v := .tuple #[.agg #[.slice none 0 0, .slice none 0 0], .bool false]) (by simp [results, Tryz.results46, go_sem, z0, z1]) rfl ⟨_, rfl, OutVol.none_ Hr.out, p3 w E2 (by omega)⟩
    | some t' =>
      obtain ⟨ht', s', kv', hs', hso', hSt', hTr'⟩ := hsome t' hd
      have Hr : Hid (volDrop s t p = some (s', t')) := Lib.hid (by unfold volDrop; rw [hv, hd, hs']; rfl)
      have Cv := volume_c w2 hso' ht' hSt' hTr'
      clear hsome hv hd hs' hso' ht' hSt' hTr'
      simp only [Option.isSome_some]
      go_wp2_with (go_at_call 101; refine Cv.mono ?_; rintro e w4 ⟨vv, rfl, hV, he4⟩; obtain ⟨u1, u2, lh, li, mm, rfl, -, hh1, -, -, -, hh2, -, -⟩ := id hV; obtain ⟨A1, c1, rfl, -⟩ := hh1; obtain ⟨A3, c3, rfl, -⟩ := hh2; have b4 := Hb3.out.ext he4; have k0 := b4.cell 0; have k1 := b4.cell 1; have g0 := b4.frozen 0; have g1 := b4.frozen 1; simp at k0 k1 g0 g1; have HV := Lib.hid hV; clear hV)
      obtain ⟨p1, p2, p3, -⟩ := put_two (a := .slice A1 lh.length c1) (b := .slice A3 li.length c3) b4
      have z0 := p1.cell 0; have z1 := p1.cell 1
      simp at z0 z1
      refine bodyPost_ret (v := .tuple #[.agg #[.slice A1 lh.length c1, .slice A3 li.length c3], .bool true]) (by simp [results, Tryz.results46, go_sem, z0, z1]) rfl ⟨_, rfl, ?_, p3 w (E2.trans he4) (by omega)⟩
      rw [Hr.out]
      exact ⟨_, rfl, (HV.out.low E2.size).keepT p2 (by decide) (by decide) (by decide)⟩
end Go.Sf
