/- The program puts a file into a tree. -/
import Derived.Test.YtoljibhdakacjaaGreatDoorGV
import Derived.Test.YtoljibhdakacjaaGreatDoorW23
namespace Go.Sf
open Go Go.RowKit Go.Proofs
theorem treePut_file {l : List It} {x : It} (ht : treeOk l = true) (hio : itemOk x = true) (hd : x.dir = false) :
    treePut l x = match findIt l x.path with | some y => (if y.dir = true then none else some (putIt x l)) | none => if treeOk (putIt x l) = true then some (putIt x l) else none := by
  unfold treePut mayPut
  cases hf : findIt l x.path with
  | some y =>
    cases hyd : y.dir with
    | true => rw [if_neg] <;> simp [hd, hyd]
    | false =>
      have := over_ok ht hio hf hyd
      rw [if_pos ⟨ht, hio, by simp [hd, hyd], this⟩]; simp [hyd]
  | none => simp [ht, hio]
section
variable {w0 w : World} {l : List It} {adr : Key → Nat} {kv : Key → Value}
set_option maxRecDepth 4000 in
set_option maxHeartbeats 4000000 in
theorem putFile_c (h : TreeAt w0.heap.size w l adr kv) (ht : treeOk l = true) {p : ByteArray} {ids : List Int} {B' : Nat} {ui : Value} (hi : Ints B' w ui ids) (hio : itemOk ⟨p, false, ids⟩ = true) (hp : p.size < lim) (hm : ML w) (h0 : Ext w0 w) :
    Calls Tryz.prog 122 #[.pointer (some ⟨adr [], 0, none⟩), .agg #[.string p, .bool false, ui]] w (PutDV w0 w l ⟨p, false, ids⟩ (adr [])) := by
  have hg := (treeOk_iff'.1 ht).2
  have h12 := (treeOk_iff'.1 ht).1
  have hll : l.length ≤ lim := by unfold lim; omega
  have hpo : pathOk p = true := itemOk_path hio
  have hpd := treePut_file ht hio rfl
  have hitv : ItV B' w (.agg #[.string p, .bool false, ui]) ⟨p, false, ids⟩ := ⟨_, rfl, hp, hi⟩
  have HI := Lib.hid hi; have HItv := Lib.hid hitv
  obtain ⟨Ai, ci, rfl, -⟩ := hi
  have e0 : Ext w (w.alloc (.cells #[.string p, .bool false, .slice Ai ids.length ci] 57)) := (Ext.refl w).alloc _
  have hbk := Blk.new w 57 #[.string p, .bool false, .slice Ai ids.length ci]
  have d0 := fun W (e : Ext _ W) => hbk.at_ (i := 0) (u := .string p) rfl W e
  have d1 := fun W (e : Ext _ W) => hbk.at_ (i := 1) (u := .bool false) rfl W e
  have d2 := fun W (e : Ext _ W) => hbk.at_ (i := 2) (u := .slice Ai ids.length ci) rfl W e
  have Cf := nodeFind_c (h.ext e0) hg hll p hp (hm.ext e0)
  unfold findV at Cf
  have q0 := d0 _ (Ext.refl _)
  cases hf : findIt l p with
  | some y =>
    have hf' : findIt l (⟨p, false, ids⟩ : It).path = some y := hf
    rw [hf] at Cf
    rw [hf'] at hpd
    obtain ⟨hym, hyp⟩ := findIt_some hf
    obtain ⟨hyB, -, uy, hby, -⟩ := (h.ext e0).nodes y hym
    have y1 := fun W (e : Ext _ W) => hby.at_ (i := 1) (u := .bool y.dir) rfl W e
    have H0 := Lib.hid h0; have HBy := Lib.hid hby; have HT := Lib.hid h
    cases hyd : y.dir with
    | true =>
      rw [hyd] at y1
      have Hr : Hid (treePut l ⟨p, false, ids⟩ = none) := Lib.hid (by rw [hpd]; simp [hyd])
      clear hf hf' hpd h hm hby hbk hym hyp hitv
      go_enter Tryz.func122, Tryz.ntmps122
      go_wp2_with (go_at_call 40; refine Cf.mono ?_; rintro e w2 ⟨rfl, he2⟩; have z1 := y1 _ he2; have z2 := d1 _ he2)
      go_ret
      exact ⟨by rw [Hr.out]; rfl, H0.out.trans (e0.trans he2), (e0.trans he2).keepsC.n, (e0.trans he2).keepsO, fun l' hl' => by rw [Hr.out] at hl'; cases hl'⟩
    | false =>
      rw [hyd] at y1
      have hok := over_ok (x := ⟨p, false, ids⟩) ht hio hf hyd
      obtain ⟨a, b, e1, e2, hr⟩ := put_over (x := ⟨p, false, ids⟩) ht hf
      have Hr : Hid (treePut l ⟨p, false, ids⟩ = some (a ++ ⟨p, false, ids⟩ :: b)) := Lib.hid (by rw [hpd, ← e2]; simp [hyd])
      have Hab : Hid (l = a ++ y :: b ∧ treeOk (a ++ ⟨p, false, ids⟩ :: b) = true ∧ ∀ z, z ∈ a ++ b → z.path ≠ y.path) := Lib.hid ⟨e1, by rw [← e2]; exact hok, fun z hz => by rw [hyp]; exact ((hr z).1 hz).2⟩
      have CC := fun W (e : Ext w W) => Clone_int_c W (HI.out.ext e)
      have Hyp := Lib.hid hyp; have Hyd := Lib.hid hyd
      obtain ⟨m, hm9⟩ : ∃ m, ids.length = m := ⟨_, rfl⟩
      have Hm9 := Lib.hid hm9
      rw [hm9] at CC d2 hbk e0 ⊢
      rw [hm9] at Cf y1 q0 d0 d1 HBy
      clear hf hf' hpd h hm hby hbk hym hitv hok e1 e2 hr hyp hm9
      go_enter Tryz.func122, Tryz.ntmps122
      go_wp2_with (first | (go_at_call 40; refine Cf.mono ?_; rintro e w2 ⟨rfl, he2⟩; have z1 := y1 _ he2; have z2 := d1 _ he2; have z3 := d2 _ he2) | (go_at_call 115; refine (CC _ (e0.trans he2)).mono ?_; rintro e w4 ⟨u4, rfl, hu4, he4⟩; have bk4 := HBy.out.ext (he2.trans he4); have k2 := bk4.cell 2; have f2 := bk4.frozen 2; simp at k2; have HU4 := Lib.hid hu4; obtain ⟨A4, c4, rfl, -⟩ := hu4))
      go_ret
      have E4 := (e0.trans he2).trans he4
      have hw04 : w0.heap.size ≤ w2.heap.size := by have := H0.out.size; have := (e0.trans he2).size; omega
      have hU : Ints w0.heap.size w4 (.slice A4 ids.length c4) ids := by
        have := HU4.out
        exact Ints.keep this hw04 (fun _ _ _ => rfl)
      (try rw [Hm9.out])
      refine ⟨by rw [Hr.out]; rfl, (H0.out.trans E4).setCell (p := ⟨adr (key y), 2, none⟩) hyB _, fun b t cs h1 h2 hb => KeepsT.set (i := 2) bk4 _ rfl b t cs h1 (E4.keepsC b t cs hb), fun b hb hno => ?_, fun l' hl' => ?_⟩
      · refine (RowKit.Below.heap_setCell _ _ _ _ fun e => ?_).trans (E4.block hb)
        have e' : b = adr (key y) := e
        subst e'
        refine hno 92 #[.string (nameOf (key y)), .bool y.dir, uy, kv (key y)] ?_
        unfold Blk at bk4 ⊢
        rw [← E4.block hb]; exact bk4
      · rw [Hr.out] at hl'
        injection hl' with hl'
        subst hl'
        have hU2 : Ints w0.heap.size w4 (.slice A4 m c4) ids := by rw [← Hm9.out]; exact hU
        exact ⟨Hab.out.2.1, adr, kv, TreeAt.setIds (x := ⟨p, false, ids⟩) (HT.out.ext E4) Hab.out.1 Hyp.out.symm Hyd.out.symm hU2 Hab.out.2.2, rfl⟩
  | none =>
    have hf' : findIt l (⟨p, false, ids⟩ : It).path = none := hf
    rw [hf] at Cf
    rw [hf'] at hpd
    have hn0 : ∀ y, y ∈ l → y.path ≠ (⟨p, false, ids⟩ : It).path := fun y hy e => findIt_none hf y hy e
    have hput := put_new ht (hio) hn0
    have Cc := fun W (e : Ext w W) => count_c (h.ext e) hg h12
    have H := Lib.hid h; have H0 := Lib.hid h0; have HM := Lib.hid hm; have HPut := Lib.hid hput; have HPd := Lib.hid hpd
    have hitw : ∀ W, Ext w W → ItV B' W (.agg #[.string p, .bool false, .slice Ai ids.length ci]) ⟨p, false, ids⟩ := fun W e => HItv.out.ext e
    clear h hm h0 hput hpd hbk hf' hitv
    by_cases hlt : l.length < 12
    · have hlt' : (l.length : Int) < 12 := by omega
      by_cases hin : inDir l p
      · have hok : treeOk (putIt ⟨p, false, ids⟩ l) = true := HPut.out.2 ⟨hlt, hin.2⟩
        have Hr : Hid (treePut l ⟨p, false, ids⟩ = some (putIt ⟨p, false, ids⟩ l)) := Lib.hid (by rw [HPd.out]; simp [hok])
        have Hok := Lib.hid hok
        have Ci := fun W (e : Ext w W) => insertM_c (w0 := w0) (H.out.ext e) ht (hitw W e) (HM.out.ext e) hf hin (H0.out.trans e)
        clear hf hin hok
        go_enter Tryz.func122, Tryz.ntmps122
        go_wp2_with (first | (go_at_call 40; refine Cf.mono ?_; rintro e w2 ⟨rfl, he2⟩) | (go_at_call 155; refine (Cc _ (e0.trans he2)).mono ?_; rintro e w3 ⟨rfl, he3⟩; have he4 := he2.trans he3; have z0 := d0 _ he4; have z1 := d1 _ he4; have z2 := d2 _ he4) | (go_at_call 131; refine (Ci _ (e0.trans he4)).mono ?_; rintro e w5 ⟨rfl, he5, hK5, hO5, adr', kv', hT5, hr5⟩))
        go_ret
        exact ⟨by rw [Hr.out]; rfl, he5, (e0.trans he4).keepsC.n.trans hK5, fun b hb hno => by
          have e4 := e0.trans he4
          rw [hO5 b (Nat.lt_of_lt_of_le hb e4.size) (fun t cs hbb => hno t cs (by
            unfold Blk at hbb ⊢
            rw [← e4.block hb]; exact hbb)), e4.block hb], fun l' hl' => by
          rw [Hr.out] at hl'
          injection hl' with hl'
          subst hl'
          exact ⟨Hok.out, adr', kv', hT5, hr5⟩⟩
      · have hok : ¬ treeOk (putIt ⟨p, false, ids⟩ l) = true := fun hh => hin ⟨hpo, (HPut.out.1 hh).2⟩
        have Hr : Hid (treePut l ⟨p, false, ids⟩ = none) := Lib.hid (by rw [HPd.out]; simp [hok])
        have Ci := fun W (e : Ext w W) => insert_no_c (w0 := w0) (H.out.ext e) hg hll (hitw W e) (HM.out.ext e) hin
        clear hf hin hok
        go_enter Tryz.func122, Tryz.ntmps122
        go_wp2_with (first | (go_at_call 40; refine Cf.mono ?_; rintro e w2 ⟨rfl, he2⟩) | (go_at_call 155; refine (Cc _ (e0.trans he2)).mono ?_; rintro e w3 ⟨rfl, he3⟩; have he4 := he2.trans he3; have z0 := d0 _ he4; have z1 := d1 _ he4; have z2 := d2 _ he4) | (go_at_call 131; refine (Ci _ (e0.trans he4)).mono ?_; rintro e w5 ⟨rfl, he5⟩))
        go_ret
        have e5 := (e0.trans he4).trans he5
        exact ⟨by rw [Hr.out]; rfl, H0.out.trans e5, e5.keepsC.n, e5.keepsO, fun l' hl' => by rw [Hr.out] at hl'; cases hl'⟩
    · have hlt' : ¬ (l.length : Int) < 12 := by omega
      have hok : ¬ treeOk (putIt ⟨p, false, ids⟩ l) = true := fun hh => hlt (HPut.out.1 hh).1
      have Hr : Hid (treePut l ⟨p, false, ids⟩ = none) := Lib.hid (by rw [HPd.out]; simp [hok])
      clear hf hok
      go_enter Tryz.func122, Tryz.ntmps122
      go_wp2_with (first | (go_at_call 40; refine Cf.mono ?_; rintro e w2 ⟨rfl, he2⟩) | (go_at_call 155; refine (Cc _ (e0.trans he2)).mono ?_; rintro e w3 ⟨rfl, he3⟩))
      go_ret
      have e5 := (e0.trans he2).trans he3
      exact ⟨by rw [Hr.out]; rfl, H0.out.trans e5, e5.keepsC.n, e5.keepsO, fun l' hl' => by rw [Hr.out] at hl'; cases hl'⟩
end
end Go.Sf
