/- The program removes an item of an open volume. -/
import Derived.Test.YtneabdoianmfhaaGreatDoorT127
import Derived.Test.YtneabdoianmfhaaGreatDoorT128
namespace Go.Sf
open Go Go.RowKit Go.Proofs Go.Maps
theorem Ints.keepN {B : Nat} {w w' : World} {u : Value} {ids : List Int} (h : Ints B w u ids) (hk : KeepsN w w') : Ints B w' u ids := by
  obtain ⟨A, c, hv, a1, a2, a3, a4⟩ := h
  refine ⟨A, c, hv, a1, a2, a3, fun j y hy => ?_⟩
  obtain ⟨b, o, cs, e1, e2, e3, e4⟩ := a4 j y hy
  exact ⟨b, o, cs, e1, e2, hk b _ cs (by decide) (by decide) e3, e4⟩
theorem KeepsC.n {w w' : World} (h : KeepsC w w') : KeepsN w w' := fun b t cs _ _ hb => h b t cs hb
theorem KeepsN.trans {w w' w'' : World} (h : KeepsN w w') (k : KeepsN w' w'') : KeepsN w w'' := fun b t cs h1 h2 hb => k b t cs h1 h2 (h b t cs h1 h2 hb)
theorem StoreAt.keepN {B b n : Nat} {w w' : World} {l : List Hd} (h : StoreAt B b n l w) (hk : KeepsN w w') (ho : KeepsO w w') : StoreAt B b n l w' := by
  have hno : ∀ t cs, ¬ Blk w b t cs := fun t cs hb => store_ne h hb rfl
  obtain ⟨M, h1, h2⟩ := h
  have hlt : b < w.heap.size := by
    obtain ⟨D, ⟨es, cl, hb, -⟩, -⟩ := h1
    rcases Nat.lt_or_ge b w.heap.size with hlt | hge
    · exact hlt
    · rw [Array.getElem?_eq_none hge] at hb; cases hb
  exact ⟨M, h1.block (ho b hlt hno), fun i => ⟨(h2 i).1, fun y hy => let ⟨u, r1, r2⟩ := (h2 i).2 y hy; ⟨u, r1, r2.keepN hk⟩⟩⟩
theorem treeDrop_ok {t : List It} (ht : treeOk t = true) {p : ByteArray} {i : Nat} {x : It} (hx : t[i]? = some x) (hp : x.path = p) : treeDrop t p = if treeOk (t.eraseIdx i) = true then some (t.eraseIdx i) else none := by
  have hat : atPath t p = (i : Int) := by
    rcases atG_find (pathIs p) t 0 with ⟨h1, -⟩ | ⟨j, y, h1, h2, -, h4, -⟩
    · exact absurd (List.find?_eq_none.1 h1 x (List.mem_of_getElem? hx)) (by simp [pathIs, hp, eqb_true])
    · have he : y.path = x.path := by rw [hp]; simpa [pathIs, eqb_iff] using h2
      have hg := (treeOk_iff'.1 ht).2
      have hij : j = i := by
        rcases Nat.lt_trichotomy j i with hij | hij | hij
        · have := hg.lt h1 hx hij; rw [he, lt8_irrefl] at this; cases this
        · exact hij
        · have := hg.lt hx h1 hij; rw [he, lt8_irrefl] at this; cases this
      subst hij
      rw [atPath, h4]; simp
  unfold treeDrop
  rw [hat]
  simp [ht]
theorem treeDrop_none {t : List It} {p : ByteArray} (h : findIt t p = none) : treeDrop t p = none := by
  unfold treeDrop
  rw [if_neg]
  rintro ⟨-, h2, -⟩
  rcases atG_find (pathIs p) t 0 with ⟨-, h1⟩ | ⟨j, y, -, -, h3, -, -⟩
  · rw [atPath, h1] at h2; omega
  · unfold findIt at h; rw [h] at h3; cases h3
/-- what removing leaves -/
def RemoveV (w0 w : World) (b : Nat) (s : List Hd) (t : List It) (p : ByteArray) (adr : Key → Nat) (e : Ending) (w' : World) : Prop :=
  e = .returned (.bool (treeDrop t p).isSome) ∧ Ext w0 w' ∧ KeepsN w w' ∧ ∀ t', treeDrop t p = some t' → treeOk t' = true ∧ ∃ s' kv', freeAll s (idsAt t p) = some s' ∧ StoreOk s' ∧ StoreAt w0.heap.size b 20 s' w' ∧ TreeAt w0.heap.size w' t' adr kv'
section
variable {w0 w : World} {s : List Hd} {t : List It} {adr : Key → Nat} {kv : Key → Value}
set_option maxRecDepth 4000 in
set_option maxHeartbeats 2000000 in
theorem remove_c {b : Nat} {p : ByteArray} (hv : volOk s t = true) (hSt : StoreAt w0.heap.size b 16 s w) (hTr : TreeAt w0.heap.size w t adr kv) (hb : w0.heap.size ≤ b) (h0 : Ext w0 w) (hp : p.size < lim) (hm : ML w) :
    Calls Tryz.prog 107 #[.agg #[.map (some b), .pointer (some ⟨adr [], 0, none⟩)], .string p] w (RemoveV w0 w b s t p adr) := by
  have ht : treeOk t = true := by unfold volOk at hv; simp only [Bool.and_eq_true] at hv; exact hv.2.1
  have hg := (treeOk_iff'.1 ht).2
  have hll : t.length ≤ lim := by have := (treeOk_iff'.1 ht).1; unfold lim; omega
  have e0 : Ext w (w.alloc (.cells #[.map (some b), .pointer (some ⟨adr [], 0, none⟩)] 111)) := (Ext.refl w).alloc _
  have hbk := Blk.new w 111 #[.map (some b), .pointer (some ⟨adr [], 0, none⟩)]
  have d0 := fun W (e : Ext _ W) => hbk.at_ (i := 0) (u := .map (some b)) rfl W e
  have d1 := fun W (e : Ext _ W) => hbk.at_ (i := 1) (u := .pointer (some ⟨adr [], 0, none⟩)) rfl W e
  have Cf := nodeFind_c (hTr.ext e0) hg hll p hp (hm.ext e0)
  unfold findV at Cf
  have q1 := d1 _ (Ext.refl _)
  cases hf : findIt t p with
  | none =>
    rw [hf] at Cf
    have Hd : Hid (treeDrop t p = none) := Lib.hid (treeDrop_none hf)
    have H0 := Lib.hid h0
    clear hf hTr hSt hv hm
    go_enter Tryz.func107, Tryz.ntmps107
    go_wp2_with (go_at_call 139; refine Cf.mono ?_; rintro e w2 ⟨rfl, he2⟩)
    refine wp_region_hold (fun W => Ext w2 W) 15 [(0, true), (1, true), (2, true), (3, true), (4, true), (5, true), (6, false), (7, true), (8, true), (9, true), (10, true), (11, true), (12, true), (13, true), (14, true)] (by kernel_rfl) (by kernel_rfl) ?_ ?_
    · exact (Ext.refl _).drew
    (repeat (first | (apply hw_read (by rfl) (by rfl); (· (intro W hW; (try dsimp only at hW); go_simp; (first | done | rfl | (rw [if_pos] <;> first | omega | rfl)))); (try simp only [Act.put, List.setIfInBounds_toArray, List.set_cons_zero, List.set_cons_succ])) | (refine hw_skip (by rfl) (by rfl) ?_; (try simp only [Act.put, List.setIfInBounds_toArray, List.set_cons_zero, List.set_cons_succ]))))
    refine hw_step (by rfl) ?_
    go_wp2
    refine ⟨(Ext.refl _).drew, ?_⟩
    (repeat (first | (apply hw_read (by rfl) (by rfl); (· (intro W hW; (try dsimp only at hW); go_simp; (first | done | rfl | (rw [if_pos] <;> first | omega | rfl)))); (try simp only [Act.put, List.setIfInBounds_toArray, List.set_cons_zero, List.set_cons_succ])) | (refine hw_skip (by rfl) (by rfl) ?_; (try simp only [Act.put, List.setIfInBounds_toArray, List.set_cons_zero, List.set_cons_succ]))))
    (refine hw_nil ?_; (try simp only [List.drop_succ_cons, List.drop_zero]))
    go_wp2
    refine NoPanic.normal ?_
    (try dsimp only [Exit.then])
    go_wp2
    go_ret
    exact ⟨by rw [Hd.out]; rfl, H0.out.trans (e0.trans (he2.trans (Ext.refl _).drew)), (e0.trans (he2.trans (Ext.refl _).drew)).keepsC.n, fun t' h => by rw [Hd.out] at h; cases h⟩
  | some x =>
    rw [hf] at Cf
    obtain ⟨hxm, hxp⟩ := findIt_some hf
    obtain ⟨i, hi⟩ := List.mem_iff_getElem?.1 hxm
    have hd := treeDrop_ok ht hi hxp
    have hco := cut_ok ht hi
    obtain ⟨hus, hfit, hso, -⟩ := vol_uses hv hxm
    have hids : idsAt t p = x.ids := by unfold idsAt; rw [hf]; rfl
    have hfa : freeAll s x.ids = dropAll s x.ids := by unfold freeAll; rw [if_pos ⟨storeOk_iff.2 hso, hfit⟩]
    have hps : x.path.size < lim := by rw [hxp]; exact hp
    obtain ⟨-, -, ux, hbx, hux⟩ := hTr.nodes x hxm
    have hi4 := (idsFit_iff.1 hfit).1
    have Cd := fun W (e : Ext w W) => drop_c (w0 := w0) (hTr.ext e) ht hi hps (hm.ext e) (h0.trans e)
    rw [hxp] at Cd
    obtain ⟨Ax, cx, rfl, hAx⟩ := hux
    have HUx : Hid (Ints w0.heap.size w (.slice Ax x.ids.length cx) x.ids) := Lib.hid ⟨_, _, rfl, hAx⟩
    have HD := Lib.hid hd; have HC := Lib.hid hco; have HCd := Lib.hid Cd; have HBx := Lib.hid hbx
    have HF := Lib.hid (And.intro hus (And.intro hfit hso))
    have HSt := Lib.hid hSt; have H0 := Lib.hid h0
    have Hids := Lib.hid (And.intro hids hfa)
    clear hd hco Cd hbx hus hfit hso hSt h0 hids hfa hTr hv hm hf hAx hg
    go_enter Tryz.func107, Tryz.ntmps107
    go_wp2_with (go_at_call 139; refine Cf.mono ?_; rintro e w2 ⟨rfl, he2⟩)
    have hE2 := e0.trans he2
    have bx2 := HBx.out.ext hE2
    have r0 := fun W (e : Ext w2 W) => d0 W (he2.trans e)
    have r1 := fun W (e : Ext w2 W) => d1 W (he2.trans e)
    have r2 := fun W (e : Ext w2 W) => bx2.at_ (i := 2) (u := .slice Ax x.ids.length cx) rfl W e
    refine wp_region_hold (fun W => W.cell? ⟨w.heap.size, 0, none⟩ = some (.map (some b)) ∧ W.cell? ⟨w.heap.size, 1, none⟩ = some (.pointer (some ⟨adr [], 0, none⟩)) ∧ W.cell? ⟨adr (key x), 2, none⟩ = some (.slice Ax x.ids.length cx)) 15 [(0, true), (1, true), (2, true), (3, true), (4, true), (5, true), (6, false), (7, true), (8, true), (9, true), (10, true), (11, true), (12, true), (13, true), (14, true)] (by kernel_rfl) (by kernel_rfl) ?_ ?_
    · exact ⟨r0 _ (Ext.refl _).drew, r1 _ (Ext.refl _).drew, r2 _ (Ext.refl _).drew⟩
    (repeat (first | (apply hw_read (by rfl) (by rfl); (· (intro W hW; (try dsimp only at hW); go_simp; (first | done | rfl | (rw [if_pos] <;> first | omega | rfl)))); (try simp only [Act.put, List.setIfInBounds_toArray, List.set_cons_zero, List.set_cons_succ])) | (refine hw_skip (by rfl) (by rfl) ?_; (try simp only [Act.put, List.setIfInBounds_toArray, List.set_cons_zero, List.set_cons_succ]))))
    refine hw_step (by rfl) ?_
    go_wp2_with fail
    refine (HCd.out _ (hE2.trans (Ext.refl _).drew)).mono ?_
    have hE3 := hE2.trans (Ext.refl w2).drew
    have hbV := (hbk.ext (he2.trans (Ext.refl w2).drew))
    rintro e w3 (⟨hk0, rfl, he3⟩ | ⟨hk0, rfl, he3, hKN, hKO, hKx, kv', hT3⟩)
    · have hc : treeOk (t.eraseIdx i) ≠ true := fun h => hk0 (HC.out.1 h)
      have Hd : Hid (treeDrop t p = none) := Lib.hid (by rw [HD.out, if_neg hc])
      have e3 := (Ext.refl w2).drew.trans he3
      clear hk0 hc
      go_wp2
      refine ⟨⟨r0 _ e3, r1 _ e3, r2 _ e3⟩, ?_⟩
      (repeat (first | (apply hw_read (by rfl) (by rfl); (· (intro W hW; (try dsimp only at hW); go_simp; (first | done | rfl | (rw [if_pos] <;> first | omega | rfl)))); (try simp only [Act.put, List.setIfInBounds_toArray, List.set_cons_zero, List.set_cons_succ])) | (refine hw_skip (by rfl) (by rfl) ?_; (try simp only [Act.put, List.setIfInBounds_toArray, List.set_cons_zero, List.set_cons_succ]))))
      (refine hw_nil ?_; (try simp only [List.drop_succ_cons, List.drop_zero]))
      go_wp2
      refine NoPanic.normal ?_
      (try dsimp only [Exit.then])
      go_wp2
      go_ret
      exact ⟨by rw [Hd.out]; rfl, H0.out.trans (hE2.trans e3), (hE2.trans e3).keepsC.n, fun t' h => by rw [Hd.out] at h; cases h⟩
    · have hc := HC.out.2 hk0
      have Hd : Hid (treeDrop t p = some (t.eraseIdx i)) := Lib.hid (by rw [HD.out, if_pos hc])
      have Hc := Lib.hid hc
      have bV3 := hKN _ _ _ (by decide) (by decide) hbV
      have bx3 := hKx _ (HBx.out.ext hE3)
      have s0 := bV3.cell 0; have s1 := bV3.cell 1; have s2 := bx3.cell 2
      simp at s0 s1 s2
      have hSt3 := (HSt.out.ext hE3).keepN hKN hKO
      have Cff := freeFile_c (w0 := w0) HF.out.2.2 hSt3 ((HUx.out.ext hE3).keepN hKN) HF.out.2.1 HF.out.1 (by unfold maxLen; omega) he3 hb
      have HT3 := Lib.hid hT3
      have HKN := Lib.hid hKN
      clear hk0 hc hKN hKO hKx hT3 bV3 bx3 hSt3
      go_wp2
      refine ⟨⟨s0, s1, s2⟩, ?_⟩
      (repeat (first | (apply hw_read (by rfl) (by rfl); (· (intro W hW; (try dsimp only at hW); go_simp; (first | done | rfl | (rw [if_pos] <;> first | omega | rfl)))); (try simp only [Act.put, List.setIfInBounds_toArray, List.set_cons_zero, List.set_cons_succ])) | (refine hw_skip (by rfl) (by rfl) ?_; (try simp only [Act.put, List.setIfInBounds_toArray, List.set_cons_zero, List.set_cons_succ]))))
      (refine hw_nil ?_; (try simp only [List.drop_succ_cons, List.drop_zero]))
      go_wp2_with (go_at_call 162; refine Cff.mono ?_; rintro e w4 ⟨rfl, he4, hKC, s', hs', hso', hSt4⟩; have HT4 := Lib.hid (HT3.out.keepT (hKC.t 9) (by decide) (by decide) (by decide)); have HS4 := Lib.hid (And.intro hs' (And.intro hso' hSt4)); have HK4 := Lib.hid (hE3.keepsC.n.trans (HKN.out.trans hKC.n)); clear hKC hs' hso' hSt4)
      refine NoPanic.normal ?_
      (try dsimp only [Exit.then])
      go_wp2
      go_ret
      refine ⟨by rw [Hd.out]; rfl, he4, HK4.out, fun t' h => ?_⟩
      rw [Hd.out] at h
      injection h with h
      subst h
      obtain ⟨g1, g2, g3⟩ := HS4.out
      exact ⟨Hc.out, s', kv', by rw [Hids.out.1, Hids.out.2]; exact g1, g2, g3.mono (by omega), HT4.out⟩
end
end Go.Sf
