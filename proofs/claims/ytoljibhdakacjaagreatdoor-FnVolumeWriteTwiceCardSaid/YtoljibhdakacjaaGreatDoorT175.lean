/- The program writes a file into a volume. -/
import Derived.Test.YtoljibhdakacjaaGreatDoorT174
import Derived.Test.YtoljibhdakacjaaGreatDoorT173
import Derived.Test.YtoljibhdakacjaaGreatDoorGU
import Derived.Test.YtoljibhdakacjaaGreatDoorP36
namespace Go.Sf
open Go Go.RowKit Go.Proofs
theorem volWrite_none1 {s : List Hd} {t : List It} {p : ByteArray} {bs : List Int} (hv : volOk s t = true) (hf : fileOk bs = true) (h : putBs s (cutB bs) = none) : volWrite s t p bs = none := by
  unfold volWrite writeT fileStore
  rw [if_pos ⟨hv, hf⟩, if_pos ⟨(volOk_iff.1 hv).1, hf⟩, h]
  rfl
theorem volWrite_none2 {s s' : List Hd} {t : List It} {p : ByteArray} {bs ids : List Int} (hv : volOk s t = true) (hf : fileOk bs = true) (h : putBs s (cutB bs) = some (s', ids)) (ht : treePut t ⟨p, false, ids⟩ = none) : volWrite s t p bs = none := by
  unfold volWrite writeT fileStore
  rw [if_pos ⟨hv, hf⟩, if_pos ⟨(volOk_iff.1 hv).1, hf⟩, h]
  show (some (s', ids)).bind _ = none
  rw [Option.bind_some]
  dsimp only
  rw [ht]
  rfl
theorem volWrite_bad {s : List Hd} {t : List It} {p : ByteArray} {bs : List Int} (h : pathOk p = false) : volWrite s t p bs = none := by
  cases hw : volWrite s t p bs with
  | none => rfl
  | some x =>
    obtain ⟨s2, t2⟩ := x
    obtain ⟨-, -, ids, s', -, -, -, -, -, htp, -⟩ := write_parts hw
    obtain ⟨-, hio, -⟩ := put_some htp
    have := itemOk_path hio
    rw [show (⟨p, false, ids⟩ : It).path = p from rfl, h] at this
    cases this
/-- what a write frees, and leaves -/
theorem write_go {s s' : List Hd} {t t2 : List It} {p : ByteArray} {bs ids : List Int} (hv : volOk s t = true) (hf : fileOk bs = true) (h : putBs s (cutB bs) = some (s', ids)) (ht : treePut t ⟨p, false, ids⟩ = some t2) :
    StoreOk s' ∧ idsFit s' (idsAt t p) = true ∧ HasUses s' (idsAt t p) ∧ volWrite s t p bs = (dropAll s' (idsAt t p)).map fun x => (x, t2) := by
  have hs := storeOk_iff.1 (volOk_iff.1 hv).1
  obtain ⟨hs', -, g3, g4, -, -⟩ := putBs_find _ hs h
  have hua := uses_all hv
  have hw : volWrite s t p bs = some ((fileOf t p).elim s' fun x => (freeAll s' x.ids).getD [], t2) := by
    unfold volWrite writeT fileStore
    rw [if_pos ⟨hv, hf⟩, if_pos ⟨(volOk_iff.1 hv).1, hf⟩, h]
    show (some (s', ids)).bind _ = _
    rw [Option.bind_some]
    dsimp only
    rw [ht]
    rfl
  obtain ⟨hto, -, hmp, -, -⟩ := put_some ht
  cases hfi : findIt t p with
  | none =>
    have hia : idsAt t p = [] := by unfold idsAt; rw [hfi]; rfl
    have hfn : fileOf t p = none := by unfold fileOf; rw [hfi]; rfl
    rw [hia, hw, hfn]
    refine ⟨hs', idsFit_iff.2 ⟨by simp, fun k i hk => by simp at hk⟩, fun i hi => (by cases hi), rfl⟩
  | some y =>
    have hia : idsAt t p = y.ids := by unfold idsAt; rw [hfi]; rfl
    obtain ⟨hym, hyp⟩ := findIt_some hfi
    have hyd : y.dir = false := by
      unfold mayPut at hmp
      rw [show findIt t (⟨p, false, ids⟩ : It).path = findIt t p from rfl, hfi] at hmp
      simpa using hmp
    have hfy : fileOf t p = some y := by unfold fileOf; rw [hfi, Option.bind_some, hyd]; rfl
    obtain ⟨a, b, hta, -, -⟩ := put_over (x := ⟨p, false, ids⟩) hto hfi
    have hfit := filesFit_iff.1 (volOk_iff.1 hv).2.2.1 y hym
    have hc1 : ∀ i, cntT i t = cntI i y.ids + cntT i (a ++ b) := fun i => by
      rw [hta, cntT_app, cntT_cons, cntT_app]; omega
    have hin : HasUses s' y.ids := fun i hi => by
      obtain ⟨k, hk⟩ := List.mem_iff_getElem?.1 hi
      obtain ⟨z, hz, -⟩ := hfit.2 k i hk
      obtain ⟨z', hz', -⟩ := g4 i z hz
      refine ⟨z', hz', ?_⟩
      have h1 := g3 i
      rw [hua i, hc1 i] at h1
      unfold usesO at h1
      rw [hz'] at h1
      simp only [Option.elim_some] at h1
      omega
    have hfit' : IdsFit s' y.ids := ⟨hfit.1, fun k i hk => by
      obtain ⟨z, hz, hz8⟩ := hfit.2 k i hk
      obtain ⟨z', hz', hb⟩ := g4 i z hz
      exact ⟨z', hz', by rw [hb]; exact hz8⟩⟩
    obtain ⟨s3, hd, -⟩ := dropAll_find y.ids hs' hin
    have hfa : freeAll s' y.ids = some s3 := by unfold freeAll; rw [if_pos ⟨storeOk_iff.2 hs', idsFit_iff.2 hfit'⟩, hd]
    rw [hia, hw, hfy]
    refine ⟨hs', idsFit_iff.2 hfit', hin, ?_⟩
    rw [hd]
    simp only [Option.elim_some, hfa, Option.getD_some, Option.map_some]
/-- ids of blocks of a store are those of an item -/
theorem ids_item {s s' : List Hd} {p : ByteArray} {bs ids : List Int} (hs : StoreOk s) (hf : fileOk bs = true) (hp : pathOk p = true) (h : putBs s (cutB bs) = some (s', ids)) : itemOk ⟨p, false, ids⟩ = true := by
  obtain ⟨hs', -, -, -, g5, -⟩ := putBs_find _ hs h
  have h4 : ids.length ≤ 4 := (fileStore_ok (s := s) (bs := bs) (by unfold fileStore; rw [if_pos ⟨storeOk_iff.2 hs, hf⟩]; exact h)).2.1
  unfold itemOk idsOk
  rw [Bool.and_eq_true, Bool.and_eq_true, List.all_eq_true, decide_eq_true_eq]
  refine ⟨fun i hi => ?_, hp, h4⟩
  obtain ⟨k, hk⟩ := List.mem_iff_getElem?.1 hi
  obtain ⟨y, b, -, hy, -⟩ := g5 k i hk
  obtain ⟨q1, q2⟩ := findH_some hy
  obtain ⟨j, hj⟩ := List.mem_iff_getElem?.1 q1
  have hid := (hd_ok (hs'.2 j y hj).1).1
  rw [q2] at hid
  simp [inB_iff]
  omega
/-- what writing a file leaves -/
def WriteV (w0 w : World) (b : Nat) (s : List Hd) (t : List It) (p : ByteArray) (bs : List Int) (r : Nat) (e : Ending) (w' : World) : Prop :=
  e = .returned (.bool (volWrite s t p bs).isSome) ∧ Ext w0 w' ∧ KeepsN w w' ∧ ∀ s' t', volWrite s t p bs = some (s', t') → StoreOk s' ∧ treeOk t' = true ∧ ∃ adr' kv', StoreAt w0.heap.size b 24 s' w' ∧ TreeAt w0.heap.size w' t' adr' kv' ∧ adr' [] = r
theorem writeV_none {w0 w w' : World} {b r : Nat} {s : List Hd} {t : List It} {p : ByteArray} {bs : List Int} {v : Value} (h : volWrite s t p bs = none) (hv : v = .bool false) (he : Ext w0 w') (hk : KeepsN w w') : WriteV w0 w b s t p bs r (.returned v) w' := by
  subst hv
  exact ⟨by rw [h]; rfl, he, hk, fun _ _ h' => by rw [h] at h'; cases h'⟩
section
variable {w0 w : World} {s : List Hd} {t : List It} {adr : Key → Nat} {kv : Key → Value}
set_option maxRecDepth 4000 in
set_option maxHeartbeats 4000000 in
theorem write_c {b B' : Nat} {p : ByteArray} {bs : List Int} {vb : Value} (hv : volOk s t = true) (hf : fileOk bs = true) (hSt : StoreAt w0.heap.size b 16 s w) (hTr : TreeAt w0.heap.size w t adr kv) (hbs : Ints B' w vb bs) (hb : w0.heap.size ≤ b) (h0 : Ext w0 w) (hp : p.size < lim) (hm0 : ML w0) :
    Calls Tryz.prog 78 #[.agg #[.map (some b), .pointer (some ⟨adr [], 0, none⟩)], .string p, vb] w (WriteV w0 w b s t p bs (adr [])) := by
  have hm : ML w := hm0.ext h0
  have ht : treeOk t = true := vol_tree hv
  have hso : StoreOk s := vol_store hv
  have hg := (treeOk_iff'.1 ht).2
  have hll : t.length ≤ lim := by have := (treeOk_iff'.1 ht).1; unfold lim; omega
  have HBs := Lib.hid hbs
  obtain ⟨Ab, cb, rfl, -⟩ := hbs
  obtain ⟨nb, hnb⟩ : ∃ n, bs.length = n := ⟨_, rfl⟩
  rw [hnb] at HBs ⊢
  have e0 : Ext w (w.alloc (.cells #[.map (some b), .pointer (some ⟨adr [], 0, none⟩)] 83)) := (Ext.refl w).alloc _
  have hbk := Blk.new w 83 #[.map (some b), .pointer (some ⟨adr [], 0, none⟩)]
  have d0 := fun W (e : Ext _ W) => hbk.at_ (i := 0) (u := .map (some b)) rfl W e
  have d1 := fun W (e : Ext _ W) => hbk.at_ (i := 1) (u := .pointer (some ⟨adr [], 0, none⟩)) rfl W e
  have Cp := PathValid_c p _ hp (hm.ext e0)
  have H0 := Lib.hid h0; have HSt := Lib.hid hSt; have HTr := Lib.hid hTr; have HM := Lib.hid hm; have HBk := Lib.hid hbk; have HNb := Lib.hid hnb
  cases hpo : pathOk p with
  | false =>
    rw [hpo] at Cp
    have Hr : Hid (volWrite s t p bs = none) := Lib.hid (volWrite_bad hpo)
    clear hpo hbk h0 hSt hTr hm hv hf hso ht hg hnb
    go_enter Tryz.func78, Tryz.ntmps78
    go_wp2_with (go_at_call 61; refine Cp.mono ?_; rintro e w2 ⟨rfl, he2⟩)
    go_ret
    exact writeV_none Hr.out rfl (H0.out.trans (e0.trans he2)) (e0.trans he2).keepsC.n
  | true =>
    rw [hpo] at Cp
    obtain ⟨M, hMV⟩ := hSt
    have Cs := fun W (e : Ext w W) => storeFile_c (w0 := w0) (n := 16) hso (StoreM.ext hMV e) (HBs.out.ext e) hf (by unfold maxLen; omega) (H0.out.trans e) hb (H0.out.trans e).size
    (try rw [hnb] at Cs)
    have Hpo := Lib.hid hpo; have Hvf := Lib.hid (And.intro hv hf); have Hso := Lib.hid hso; have Htr := Lib.hid (And.intro ht (And.intro hg hll))
    clear hpo hbk h0 hTr hm hv hf hso ht hg hll hMV hnb
    go_enter Tryz.func78, Tryz.ntmps78
    go_wp2_with (go_at_call 61; refine Cp.mono ?_; rintro e w2 ⟨rfl, he2⟩; have q0 := d0 _ he2)
    have E2 := e0.trans he2
    have HB2 := Lib.hid (HBk.out.ext he2)
    refine (Cs _ E2).mono ?_
    rintro e w3 ⟨he3, hKC, ⟨hnone, rfl⟩ | ⟨s', ids, v, hsome, rfl, hSt3, hO3⟩⟩
    · have Hr : Hid (volWrite s t p bs = none) := Lib.hid (volWrite_none1 Hvf.out.1 Hvf.out.2 hnone)
      have HK := Lib.hid (E2.keepsC.trans hKC)
      clear hKC hnone Cs Cp
      go_wp2
      go_ret
      exact writeV_none Hr.out rfl he3 HK.out.n
    · have Hsome := Lib.hid hsome; have HSt3 := Lib.hid hSt3
      have h4 : ids.length ≤ 4 := (fileStore_ok (s := s) (bs := bs) (by unfold fileStore; rw [if_pos ⟨storeOk_iff.2 Hso.out, Hvf.out.2⟩]; exact hsome)).2.1
      have hio := ids_item Hso.out Hvf.out.2 Hpo.out hsome
      have hI3 : Ints w0.heap.size w3 v ids := hO3.sl eint_ok (H0.out.trans E2).size (by unfold lim; omega)
      have HI3 := Lib.hid hI3
      have hTr3 : TreeAt w0.heap.size w3 t adr kv := (HTr.out.ext E2).keepT (hKC.t 9) (by decide) (by decide) (by decide)
      have HTr3 := Lib.hid hTr3
      have HK3 := Lib.hid (E2.keepsC.trans hKC)
      have b3 := hKC _ _ _ HB2.out
      have HB3 := Lib.hid b3
      have r1 := fun W (e : Ext w3 W) => b3.at_ (i := 1) (u := .pointer (some ⟨adr [], 0, none⟩)) rfl W e
      have m3 : ML w3 := hm0.ext he3
      have HM3 := Lib.hid m3
      have Cf := nodeFind_c HTr3.out Htr.out.2.1 Htr.out.2.2 p hp m3
      have Cput := fun W (e : Ext w3 W) => putFile_c (w0 := w0) (HTr3.out.ext e) Htr.out.1 (HI3.out.ext e) hio hp (m3.ext e) (he3.trans e)
      obtain ⟨Ai, ci, rfl⟩ := hO3.form
      have Hgo := Lib.hid fun t2 => write_go (t2 := t2) (p := p) Hvf.out.1 Hvf.out.2 hsome
      have Hno2 := Lib.hid (volWrite_none2 (t := t) (p := p) Hvf.out.1 Hvf.out.2 hsome)
      have Hids4 := Lib.hid h4
      generalize hmi : ids.length = mi at *
      clear hKC hsome hSt3 hO3 hI3 hTr3 b3 Cs Cp hio m3 h4 q0
      have HCput := Lib.hid Cput
      clear Cput
      go_wp2_with fail
      cases hf : findIt t p with
      | none =>
        have hia : idsAt t p = [] := by unfold idsAt; rw [hf]; rfl
        have Hia := Lib.hid hia
        unfold findV at Cf
        rw [hf] at Cf
        clear hia hf
        refine Cf.mono ?_
        rintro e w4 ⟨rfl, he4⟩
        have x1 := r1 _ he4
        go_wp2_with fail
        refine (HCput.out _ he4).mono ?_
        rintro e w5 ⟨rfl, he5, hKN, hKO, hsm⟩
        have HK5 := Lib.hid (HK3.out.n.trans (he4.keepsC.n.trans hKN))
        have b5 := hKN _ _ _ (by decide) (by decide) (HB3.out.ext he4)
        have y0 := b5.cell 0
        simp at y0
        cases htp : treePut t ⟨p, false, ids⟩ with
        | none =>
          have Hr := Lib.hid (Hno2.out htp)
          clear hKN hKO hsm htp b5 Cf
          simp only [Option.isSome_none]
          go_wp2
          go_ret
          exact writeV_none Hr.out rfl he5 HK5.out
        | some t2 =>
          obtain ⟨htok, adr', kv', hT5, hr5⟩ := hsm t2 htp
          obtain ⟨g1, g2, g3, g4⟩ := Hgo.out t2 htp
          have hSt5 := (HSt3.out.ext he4).keepN hKN hKO
          rw [Hia.out] at g2 g3 g4
          have Cff := freeFile_c (w0 := w0) (B' := 0) (v := .slice none 0 0) (ids := []) g1 hSt5 (ints_nil (by unfold maxLen; omega) (fun _ => rfl)) g2 g3 (by unfold maxLen; simp) he5 hb
          have HG4 := Lib.hid g4; have HT5 := Lib.hid (And.intro htok (And.intro hT5 hr5))
          clear hKN hKO hsm htp b5 Cf g1 g2 g3 g4 hT5 hr5 htok hSt5
          simp only [Option.isSome_some]
          go_wp2_with fail
          refine Cff.mono ?_
          rintro e w6 ⟨rfl, he6, hKC6, s2, hs2, hso2, hSt6⟩
          have HT6 := Lib.hid (HT5.out.2.1.keepT (hKC6.t 9) (by decide) (by decide) (by decide))
          have Hr : Hid (volWrite s t p bs = some (s2, t2)) := Lib.hid (by rw [HG4.out, hs2]; rfl)
          have HK6 := Lib.hid (HK5.out.trans hKC6.n)
          have HS6 := Lib.hid (And.intro hso2 hSt6)
          clear hKC6 hs2 hso2 hSt6 Cff
          go_wp2
          go_ret
          refine ⟨by rw [Hr.out]; rfl, he6, HK6.out, fun a b h => ?_⟩
          rw [Hr.out] at h
          cases h
          exact ⟨HS6.out.1, HT5.out.1, adr', kv', HS6.out.2.mono (by simp), HT6.out, HT5.out.2.2⟩
      | some y =>
        have hia : idsAt t p = y.ids := by unfold idsAt; rw [hf]; rfl
        have Hia := Lib.hid hia
        unfold findV at Cf
        rw [hf] at Cf
        obtain ⟨hym, hyp⟩ := findIt_some hf
        obtain ⟨-, -, uy, hby, huy⟩ := HTr3.out.nodes y hym
        have HU := Lib.hid huy
        obtain ⟨Ay, cy, rfl, -⟩ := huy
        have y2 := fun W (e : Ext w3 W) => hby.at_ (i := 2) (u := .slice Ay y.ids.length cy) rfl W e
        obtain ⟨ny, hny⟩ : ∃ n, y.ids.length = n := ⟨_, rfl⟩
        rw [hny] at y2 HU
        have Hny := Lib.hid hny
        clear hia hf hym hyp hby hny
        refine Cf.mono ?_
        rintro e w4 ⟨rfl, he4⟩
        have x1 := r1 _ he4; have z2 := y2 _ he4
        go_wp2_with fail
        refine (HCput.out _ he4).mono ?_
        rintro e w5 ⟨rfl, he5, hKN, hKO, hsm⟩
        have HK5 := Lib.hid (HK3.out.n.trans (he4.keepsC.n.trans hKN))
        have b5 := hKN _ _ _ (by decide) (by decide) (HB3.out.ext he4)
        have y0 := b5.cell 0
        simp at y0
        cases htp : treePut t ⟨p, false, ids⟩ with
        | none =>
          have Hr := Lib.hid (Hno2.out htp)
          clear hKN hKO hsm htp b5 Cf
          simp only [Option.isSome_none]
          go_wp2
          go_ret
          exact writeV_none Hr.out rfl he5 HK5.out
        | some t2 =>
          obtain ⟨htok, adr', kv', hT5, hr5⟩ := hsm t2 htp
          obtain ⟨g1, g2, g3, g4⟩ := Hgo.out t2 htp
          have hSt5 := (HSt3.out.ext he4).keepN hKN hKO
          rw [Hia.out] at g2 g3 g4
          have hy4 := (idsFit_iff.1 g2).1
          have Cff := freeFile_c (w0 := w0) g1 hSt5 ((HU.out.ext he4).keepN hKN) g2 g3 (by unfold maxLen; omega) he5 hb
          have HG4 := Lib.hid g4; have HT5 := Lib.hid (And.intro htok (And.intro hT5 hr5)); have Hy4 := Lib.hid hy4
          clear hKN hKO hsm htp b5 Cf g1 g2 g3 g4 hT5 hr5 htok hSt5 hy4
          simp only [Option.isSome_some]
          go_wp2_with fail
          refine Cff.mono ?_
          rintro e w6 ⟨rfl, he6, hKC6, s2, hs2, hso2, hSt6⟩
          have HT6 := Lib.hid (HT5.out.2.1.keepT (hKC6.t 9) (by decide) (by decide) (by decide))
          have Hr : Hid (volWrite s t p bs = some (s2, t2)) := Lib.hid (by rw [HG4.out, hs2]; rfl)
          have HK6 := Lib.hid (HK5.out.trans hKC6.n)
          have HS6 := Lib.hid (And.intro hso2 hSt6)
          clear hKC6 hs2 hso2 hSt6 Cff
          go_wp2
          go_ret
          refine ⟨by rw [Hr.out]; rfl, he6, HK6.out, fun a b h => ?_⟩
          rw [Hr.out] at h
          cases h
          exact ⟨HS6.out.1, HT5.out.1, adr', kv', HS6.out.2.mono (by have := Hy4.out; omega), HT6.out, HT5.out.2.2⟩
end
/-- FileValid of the program, whatever the bytes -/
theorem FileValid_c {B : Nat} {v : Value} {bs : List Int} (w : World) (h : Ints B w v bs) : Calls Tryz.prog 77 #[v] w (Ret (.bool (fileOk bs)) w) := by
  have C := bytesValid_c w h
  have hl9 := h.len
  have hfo : fileOk bs = (bs.all byteOk && decide (bs.length ≤ 32)) := rfl
  obtain ⟨A, c, rfl, -⟩ := h
  by_cases hl : bs.length ≤ 32
  · have hl2 : (bs.length : Int) ≤ 32 := by omega
    rw [show fileOk bs = bs.all byteOk by rw [hfo, decide_eq_true hl, Bool.and_true]]
    generalize bs.all byteOk = q at *
    generalize bs.length = n at *
    clear hfo
    go_enter Tryz.func77, Tryz.ntmps77
    go_wp2_with (go_at_call 120; refine C.mono ?_; rintro e w1 ⟨rfl, he1⟩)
    go_ret
    exact ⟨rfl, he1⟩
  · have hl2 : ¬ (bs.length : Int) ≤ 32 := by omega
    rw [show fileOk bs = false by rw [hfo, decide_eq_false hl, Bool.and_false]]
    generalize bs.length = n at *
    clear hfo C
    go_enter Tryz.func77, Tryz.ntmps77
    go_wp2
    go_ret
    exact ⟨rfl, Ext.refl _⟩
set_option maxRecDepth 4000 in
set_option maxHeartbeats 4000000 in
theorem VolumeWrite_c {B B' B2 : Nat} {vs vt vb : Value} {s : List Hd} {t : List It} {p : ByteArray} {bs : List Int} (w : World) (hs : Hds B w vs s) (ht : Its B' w vt t) (hp : p.size < lim) (hbs : Ints B2 w vb bs) (hm : ML w) :
    Calls Tryz.prog 33 #[.agg #[vs, vt], .string p, vb] w (RetP (OutVol w.heap.size (volWrite s t p bs)) w) := by
  have HS := Lib.hid hs; have HT := Lib.hid ht; have HM := Lib.hid hm; have HBs := Lib.hid hbs
  obtain ⟨A, c, rfl, -⟩ := hs
  obtain ⟨A2, c2, rfl, -⟩ := ht
  obtain ⟨Ab, cb, rfl, -⟩ := hbs
  obtain ⟨nb, hnb⟩ : ∃ n, bs.length = n := ⟨_, rfl⟩
  rw [hnb] at HBs ⊢
  have e0 : Ext w ((w.alloc (.cells #[.slice A s.length c, .slice A2 t.length c2] 61)).alloc (.cells #[.slice none 0 0, .slice none 0 0] 61)) := ((Ext.refl w).alloc _).alloc _
  have hbr : Blk ((w.alloc (.cells #[.slice A s.length c, .slice A2 t.length c2] 61)).alloc (.cells #[.slice none 0 0, .slice none 0 0] 61)) (w.heap.size + 1) 61 #[.slice none 0 0, .slice none 0 0] := by
    have := Blk.new (w.alloc (.cells #[.slice A s.length c, .slice A2 t.length c2] 61)) 61 #[.slice none 0 0, .slice none 0 0]
    simpa using this
  have Hbr := Lib.hid hbr
  have Cn := openVol_c _ (HS.out.ext e0) (HT.out.ext e0) (HM.out.ext e0)
  have Hnb := Lib.hid hnb
  clear hm hbr hnb
  go_enter Tryz.func33, Tryz.ntmps33
  go_wp2_with fail
  refine Cn.mono ?_
  rintro e w1 ⟨he1, ⟨hv, rfl⟩ | ⟨hv, b, adr, kv, rfl, hSt, hTr, hbB⟩⟩
  · have b3 := (Hbr.out.ext he1).alloc (.cells #[.map none, .pointer none] 83)
    have c0 := b3.cell 0; have c1 := b3.cell 1; have f0 := b3.frozen 0; have f1 := b3.frozen 1
    simp at c0 c1 f0 f1
    have Hr : Hid (volWrite s t p bs = none) := Lib.hid (by unfold volWrite; rw [hv]; rfl)
    have Hb3 := Lib.hid b3
    clear hv b3 Cn
    go_wp2
    obtain ⟨p1, -, p3, -⟩ := put_two (a := .slice none 0 0) (b := .slice none 0 0) Hb3.out
    have z0 := p1.cell 0; have z1 := p1.cell 1
    simp at z0 z1
    exact bodyPost_ret (v := .tuple #[.agg #[.slice none 0 0, .slice none 0 0], .bool false]) (by simp [results, Tryz.results33, go_sem, z0, z1]) rfl ⟨_, rfl, OutVol.none_ Hr.out, p3 w ((e0.trans he1).alloc _) (by omega)⟩
  · have E1 := e0.trans he1
    have e4 : Ext w1 (w1.alloc (.cells #[.map (some b), .pointer (some ⟨adr [], 0, none⟩)] 83)) := (Ext.refl w1).alloc _
    have bo := Blk.new w1 83 #[.map (some b), .pointer (some ⟨adr [], 0, none⟩)]
    have q0 := bo.cell 0; have q1 := bo.cell 1
    simp at q0 q1
    have E14 := E1.trans e4
    have CV := FileValid_c _ (HBs.out.ext E14)
    (try rw [Hnb.out] at CV)
    have Hbo := Lib.hid bo
    have Hv := Lib.hid hv; have HSt := Lib.hid hSt; have HTr := Lib.hid hTr
    clear Cn hSt hTr bo hv
    cases hf : fileOk bs with
    | false =>
      rw [hf] at CV
      have Hr : Hid (volWrite s t p bs = none) := Lib.hid (by unfold volWrite; rw [if_neg]; rintro ⟨-, h⟩; rw [hf] at h; cases h)
      clear hf
      go_wp2_with fail
      refine CV.mono ?_
      rintro e w2 ⟨rfl, he2⟩
      have E2 := E14.trans he2
      have b3 := Hbr.out.ext (he1.trans (e4.trans he2))
      have c0 := b3.cell 0; have c1 := b3.cell 1; have f0 := b3.frozen 0; have f1 := b3.frozen 1
      simp at c0 c1 f0 f1
      have Hb3 := Lib.hid b3
      clear b3 CV q0 q1
      go_wp2
      obtain ⟨p1, -, p3, -⟩ := put_two (a := .slice none 0 0) (b := .slice none 0 0) Hb3.out
      have z0 := p1.cell 0; have z1 := p1.cell 1
      simp at z0 z1
      exact bodyPost_ret (v := .tuple #[.agg #[.slice none 0 0, .slice none 0 0], .bool false]) (by simp [results, Tryz.results33, go_sem, z0, z1]) rfl ⟨_, rfl, OutVol.none_ Hr.out, p3 w E2 (by omega)⟩
    | true =>
      rw [hf] at CV
      have Cw := fun W (e : Ext (w1.alloc (.cells #[.map (some b), .pointer (some ⟨adr [], 0, none⟩)] 83)) W) => write_c Hv.out hf (HSt.out.ext (e4.trans e)) (HTr.out.ext (e4.trans e)) (HBs.out.ext (E14.trans e)) hbB (he1.trans (e4.trans e)) hp (HM.out.ext e0)
      (try rw [Hnb.out] at Cw)
      have HCw := Lib.hid Cw
      clear hf Cw
      go_wp2_with fail
      refine CV.mono ?_
      rintro e w2 ⟨rfl, he2⟩
      have bo2 := Hbo.out.ext he2
      have r0 := bo2.cell 0; have r1 := bo2.cell 1
      simp at r0 r1
      have Hbo2 := Lib.hid bo2
      have CW2 := HCw.out _ he2
      clear CV q0 q1 bo2
      go_wp2_with fail
      refine CW2.mono ?_
      rintro e w3 ⟨rfl, he3, hKN, hsome⟩
      have E3 := e0.trans he3
      have b3 := Hbr.out.ext he3
      have c0 := b3.cell 0; have c1 := b3.cell 1; have f0 := b3.frozen 0; have f1 := b3.frozen 1
      simp at c0 c1 f0 f1
      have bo3 := hKN _ _ _ (by decide) (by decide) Hbo2.out
      have s0 := bo3.cell 0; have s1 := bo3.cell 1
      simp at s0 s1
      have Hb3 := Lib.hid b3
      clear b3 bo3 hKN CW2 r0 r1
      cases hd : volWrite s t p bs with
      | none =>
        have Hr := Lib.hid hd
        clear hd hsome
        simp only [Option.isSome_none] at *
        go_wp2
        obtain ⟨p1, -, p3, -⟩ := put_two (a := .slice none 0 0) (b := .slice none 0 0) Hb3.out
        have z0 := p1.cell 0; have z1 := p1.cell 1
        simp at z0 z1
        exact bodyPost_ret (v := .tuple #[.agg #[.slice none 0 0, .slice none 0 0], .bool false]) (by simp [results, Tryz.results33, go_sem, z0, z1]) rfl ⟨_, rfl, OutVol.none_ Hr.out, p3 w E3 (by omega)⟩
      | some x =>
        obtain ⟨s', t'⟩ := x
        obtain ⟨hso', ht', adr', kv', hSt', hTr', har⟩ := hsome s' t' hd
        have Cv := volume_c w3 hso' ht' hSt' hTr'
        rw [har] at Cv
        have Hd9 := Lib.hid hd
        clear hsome hd hso' ht' hSt' hTr' har
        simp only [Option.isSome_some]
        go_wp2_with (go_at_call 79; refine Cv.mono ?_; rintro e w4 ⟨vv, rfl, hV, he4⟩; obtain ⟨u1, u2, lh, li, mm, rfl, -, hh1, -, -, -, hh2, -, -⟩ := id hV; obtain ⟨A1, c1, rfl, -⟩ := hh1; obtain ⟨A3, c3, rfl, -⟩ := hh2; have b4 := Hb3.out.ext he4; have k0 := b4.cell 0; have k1 := b4.cell 1; have g0 := b4.frozen 0; have g1 := b4.frozen 1; simp at k0 k1 g0 g1; have HV := Lib.hid hV; clear hV)
        obtain ⟨p1, p2, p3, -⟩ := put_two (a := .slice A1 lh.length c1) (b := .slice A3 li.length c3) b4
        have z0 := p1.cell 0; have z1 := p1.cell 1
        simp at z0 z1
        refine bodyPost_ret (v := .tuple #[.agg #[.slice A1 lh.length c1, .slice A3 li.length c3], .bool true]) (by simp [results, Tryz.results33, go_sem, z0, z1]) rfl ⟨_, rfl, ?_, p3 w (E3.trans he4) (by omega)⟩
        rw [Hd9.out]
        exact ⟨_, rfl, (HV.out.low E3.size).keepT p2 (by decide) (by decide) (by decide)⟩
end Go.Sf
