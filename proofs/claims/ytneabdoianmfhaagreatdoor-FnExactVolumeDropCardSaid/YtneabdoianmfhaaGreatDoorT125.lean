/- The reference drops an item of a volume. -/
import Derived.Test.YtneabdoianmfhaaGreatDoorT124
namespace Go.Sf
open Go Go.RowKit Go.Proofs
def idsAt (t : List It) (p : ByteArray) : List Int := (findIt t p).elim [] (·.ids)
/-- a volume with an item less -/
noncomputable def volDrop (s : List Hd) (t : List It) (p : ByteArray) : Option (List Hd × List It) := if volOk s t = true then (treeDrop t p).map fun t' => ((freeAll s (idsAt t p)).getD [], t') else none
theorem treeDrop_find {t t' : List It} {p : ByteArray} (h : treeDrop t p = some t') : ∃ (i : Nat) (x : It), t[i]? = some x ∧ findIt t p = some x ∧ atPath t p = (i : Int) ∧ t' = t.eraseIdx i ∧ treeOk t = true ∧ treeOk t' = true := by
  unfold treeDrop at h
  split at h
  · next hc =>
    injection h with h
    rcases atG_find (pathIs p) t 0 with ⟨h1, h2⟩ | ⟨i, x, h1, h2, h3, h4, -⟩
    · have := hc.2.1
      rw [atPath, h2] at this
      omega
    · have hat : atPath t p = (i : Int) := by rw [atPath, h4]; simp
      have hn : (atPath t p).toNat = i := by rw [hat]; simp
      rw [hn] at h
      have h5 := hc.2.2
      rw [hn, h] at h5
      exact ⟨i, x, h1, h3, hat, h.symm, hc.1, h5⟩
  · cases h
set_option maxRecDepth 4000 in
set_option maxHeartbeats 2000000 in
theorem specVolumeDrop_c {B B' : Nat} {vs vt : Value} {s : List Hd} {t : List It} {p : ByteArray} (w : World) (hs : Hds B w vs s) (ht : Its B' w vt t) :
    Calls Tryz.prog 45 #[.agg #[vs, vt], .string p] w (RetP (OptVol w.heap.size (volDrop s t p)) w) := by
  have HS := Lib.hid hs; have HT := Lib.hid ht
  obtain ⟨A, c, rfl, -⟩ := hs
  obtain ⟨A2, c2, rfl, hA2⟩ := ht
  have HA2 := Lib.hid hA2
  clear hA2
  have hbk := Lib.hid ((Blk.new w 66 #[.slice A s.length c, .slice A2 t.length c2]).alloc (.cells #[.slice none 0 0, .slice none 0 0] 66))
  have hbr : Hid (Blk ((w.alloc (.cells #[.slice A s.length c, .slice A2 t.length c2] 66)).alloc (.cells #[.slice none 0 0, .slice none 0 0] 66)) (w.heap.size + 1) 66 #[.slice none 0 0, .slice none 0 0]) := Lib.hid (by
    have := Blk.new (w.alloc (.cells #[.slice A s.length c, .slice A2 t.length c2] 66)) 66 #[.slice none 0 0, .slice none 0 0]
    simpa using this)
  have e0 : Ext w ((w.alloc (.cells #[.slice A s.length c, .slice A2 t.length c2] 66)).alloc (.cells #[.slice none 0 0, .slice none 0 0] 66)) := ((Ext.refl w).alloc _).alloc _
  have d0 := hbk.out.cell 0; have d1 := hbk.out.cell 1
  simp at d0 d1
  have C1 := specTreeDrop_c p _ (HT.out.ext e0)
  go_enter Tryz.func45, Tryz.ntmps45
  go_wp2_with fail
  refine C1.mono ?_
  rintro e w1 ⟨u1, rfl, ⟨vt', rfl, hI⟩, he1⟩
  have E1 := e0.trans he1
  have C2 := specVolumeValid_c w1 (HS.out.ext E1) (HT.out.ext E1)
  have b1 := hbk.out.ext he1; have b2 := hbr.out.ext he1
  have HI := Lib.hid hI
  clear d0 d1 C1 hI
  have d0 := b1.cell 0; have d1 := b1.cell 1
  simp at d0 d1
  have Hb1 := Lib.hid b1; have Hb2 := Lib.hid b2
  clear b1 b2
  cases hv : volOk s t with
  | false =>
    rw [hv] at C2
    have Hr : Hid (volDrop s t p = none) := Lib.hid (by unfold volDrop; rw [hv]; rfl)
    clear hv
    go_wp2_with (go_at_call 97; refine C2.mono ?_; rintro e w2 ⟨rfl, he2⟩; have b3 := Hb2.out.ext he2; have c0 := b3.cell 0; have c1 := b3.cell 1; have f0 := b3.frozen 0; have f1 := b3.frozen 1; simp at c0 c1)
    obtain ⟨p1, -, p3, -⟩ := put_two (a := .slice none 0 0) (b := .slice none 0 0) b3
    have z0 := p1.cell 0; have z1 := p1.cell 1
    simp at z0 z1
    exact bodyPost_ret (v := .tuple #[.agg #[.slice none 0 0, .slice none 0 0], .bool false]) (by simp [results, Tryz.results45, go_sem, z0, z1]) rfl ⟨_, rfl, OptVol.none_ Hr.out, p3 w (E1.trans he2) (by omega)⟩
  | true =>
    rw [hv] at C2
    cases ho : treeDrop t p with
    | none =>
      have Hr : Hid (volDrop s t p = none) := Lib.hid (by unfold volDrop; rw [hv, ho]; rfl)
      clear hv ho
      simp only [Option.isSome_none] at *
      go_wp2_with (go_at_call 97; refine C2.mono ?_; rintro e w2 ⟨rfl, he2⟩; have b3 := Hb2.out.ext he2; have c0 := b3.cell 0; have c1 := b3.cell 1; have f0 := b3.frozen 0; have f1 := b3.frozen 1; simp at c0 c1)
      obtain ⟨p1, -, p3, -⟩ := put_two (a := .slice none 0 0) (b := .slice none 0 0) b3
      have z0 := p1.cell 0; have z1 := p1.cell 1
      simp at z0 z1
      exact bodyPost_ret (v := .tuple #[.agg #[.slice none 0 0, .slice none 0 0], .bool false]) (by simp [results, Tryz.results45, go_sem, z0, z1]) rfl ⟨_, rfl, OptVol.none_ Hr.out, p3 w (E1.trans he2) (by omega)⟩
    | some t' =>
      rw [ho] at HI
      obtain ⟨i, x, h1, h2, h3, -, -, -⟩ := treeDrop_find ho
      have hil := lt_of_get h1
      have Hr : Hid (volDrop s t p = some ((freeAll s x.ids).getD [], t')) := Lib.hid (by unfold volDrop idsAt; rw [hv, ho, h2]; rfl)
      have Ca : ∀ W, Ext w W → Calls Tryz.prog 106 #[.slice A2 t.length c2, .string p] W (Ret (.int .i64 (i : Int)) W) := fun W e => by rw [← h3]; exact l5At_c p W (HT.out.ext e)
      obtain ⟨b, o, u, rfl, -, -, -, hu, -, -, hc2⟩ := Its.at_ HA2.out h1
      have HU := Lib.hid hu
      obtain ⟨Ax, cx, rfl, -⟩ := hu
      clear hv ho h1 h2 h3
      simp only [Option.isSome_some, Option.getD_some] at *
      obtain ⟨A5, c5, e5, -⟩ := id HI.out
      subst e5
      go_wp2_with (go_at_call 97; refine C2.mono ?_; rintro e w2 ⟨rfl, he2⟩)
      have b3 := Hb1.out.ext he2
      have E2 := E1.trans he2
      have q0 := fun W (e : Ext w2 W) => b3.at_ (i := 0) (u := .slice A s.length c) rfl W e
      have q1 := fun W (e : Ext w2 W) => b3.at_ (i := 1) (u := .slice (some ⟨b, o, none⟩) t.length c2) rfl W e
      have q2 := fun W (e : Ext w2 W) => hc2 W (E2.trans e)
      refine wp_region_hold (fun W => W.cell? ⟨w.heap.size, 0, none⟩ = some (.slice A s.length c) ∧ W.cell? ⟨w.heap.size, 1, none⟩ = some (.slice (some ⟨b, o, none⟩) t.length c2) ∧ W.cell? ⟨b, o + i * 3 + 2, none⟩ = some (.slice Ax x.ids.length cx)) 16 [(0, true), (1, true), (2, true), (3, true), (4, true), (5, true), (6, true), (7, false), (8, true), (9, true), (10, true), (11, false), (12, true), (13, true), (14, true), (15, true)] (by kernel_rfl) (by kernel_rfl) ?_ ?_
      · exact ⟨q0 _ (Ext.refl _).drew, q1 _ (Ext.refl _).drew, q2 _ (Ext.refl _).drew⟩
      (repeat (first | (apply hw_read (by rfl) (by rfl); (· (intro W hW; (try dsimp only at hW); go_simp; (first | done | rfl | (rw [if_pos] <;> first | omega | rfl)))); (try simp only [Act.put, List.setIfInBounds_toArray, List.set_cons_zero, List.set_cons_succ])) | (refine hw_skip (by rfl) (by rfl) ?_; (try simp only [Act.put, List.setIfInBounds_toArray, List.set_cons_zero, List.set_cons_succ]))))
      refine hw_step (by rfl) ?_
      go_wp2_with (go_at_call 106; refine (Ca _ (E2.trans (Ext.refl _).drew)).mono ?_; rintro e w3 ⟨rfl, he3⟩)
      have e3 := (Ext.refl w2).drew.trans he3
      refine ⟨⟨q0 _ e3, q1 _ e3, q2 _ e3⟩, ?_⟩
      (repeat (first | (apply hw_read (by rfl) (by rfl); (· (intro W hW; (try dsimp only at hW); go_simp; (first | done | rfl | (rw [if_pos] <;> first | omega | rfl)))); (try simp only [Act.put, List.setIfInBounds_toArray, List.set_cons_zero, List.set_cons_succ])) | (refine hw_skip (by rfl) (by rfl) ?_; (try simp only [Act.put, List.setIfInBounds_toArray, List.set_cons_zero, List.set_cons_succ]))))
      refine hw_step (by rfl) ?_
      go_wp2_with (go_at_call 105; refine (FileFree_c _ (HS.out.ext (E2.trans e3)) (HU.out.ext (E2.trans e3))).mono ?_; rintro e w4 ⟨us, rfl, ⟨vs', rfl, hO⟩, he4⟩)
      have e4 := e3.trans he4
      have E3 := E2.trans e3
      have HO := Lib.hid (hO.weak E3.size fun _ _ _ gg => gg.keep E3.size (fun _ _ _ => rfl))
      obtain ⟨A6, c6, rfl⟩ := hO.form
      clear hO
      refine ⟨⟨q0 _ e4, q1 _ e4, q2 _ e4⟩, ?_⟩
      (repeat (first | (apply hw_read (by rfl) (by rfl); (· (intro W hW; (try dsimp only at hW); go_simp; (first | done | rfl | (rw [if_pos] <;> first | omega | rfl)))); (try simp only [Act.put, List.setIfInBounds_toArray, List.set_cons_zero, List.set_cons_succ])) | (refine hw_skip (by rfl) (by rfl) ?_; (try simp only [Act.put, List.setIfInBounds_toArray, List.set_cons_zero, List.set_cons_succ]))))
      (refine hw_nil ?_; (try simp only [List.drop_succ_cons, List.drop_zero]))
      have b4 := Hb2.out.ext (he2.trans e4)
      have c0 := b4.cell 0; have c1 := b4.cell 1; have f0 := b4.frozen 0; have f1 := b4.frozen 1
      simp at c0 c1
      have Hb4 := Lib.hid b4
      clear b4
      go_wp2
      refine NoPanic.normal ?_
      (try dsimp only [Exit.then])
      go_wp2
      obtain ⟨p1, p2, p3, -⟩ := put_two (a := .slice A6 ((freeAll s x.ids).getD []).length c6) (b := .slice A5 t'.length c5) Hb4.out
      have z0 := p1.cell 0; have z1 := p1.cell 1
      simp at z0 z1
      refine bodyPost_ret (v := .tuple #[.agg #[.slice A6 ((freeAll s x.ids).getD []).length c6, .slice A5 t'.length c5], .bool true]) (by simp [results, Tryz.results45, go_sem, z0, z1]) rfl ⟨_, rfl, ?_, p3 w (E2.trans e4) (by omega)⟩
      rw [Hr.out]
      refine ⟨_, _, rfl, ?_, ?_⟩
      · exact HO.out.hd (Nat.le_refl _) p2 (by decide) (by decide)
      · exact Its.keepT ((HI.out.ext (he2.trans e4)).keep e0.size (fun _ _ _ => rfl)) p2 (by decide) (by decide)
end Go.Sf
