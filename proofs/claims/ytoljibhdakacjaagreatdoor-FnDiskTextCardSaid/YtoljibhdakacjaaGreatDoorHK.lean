/- A file of a snapshot is read: the reference and the program. -/
import Derived.Test.YtoljibhdakacjaaGreatDoorHI
import Derived.Test.YtoljibhdakacjaaGreatDoorGS
import Derived.Test.YtoljibhdakacjaaGreatDoorHE
import Derived.Test.YtoljibhdakacjaaGreatDoorGI
import Derived.Test.YtoljibhdakacjaaGreatDoorGG
import Derived.Test.YtoljibhdakacjaaGreatDoorHC
import Derived.Test.YtoljibhdakacjaaGreatDoorGW
/-! A file of a snapshot is read: the reference and the program. -/
namespace Go.Sf
open Go Go.RowKit Go.Proofs Go.Maps
theorem readSn_bad {s : List Hd} {t : List It} {l : List Sn} {n p : ByteArray} (h : diskOk s t l = false) : readSn s t l n p = none := by unfold readSn; rw [h]; rfl
theorem readSn_no {s : List Hd} {t : List It} {l : List Sn} {n p : ByteArray} (h : l.find? (snIs n) = none) : readSn s t l n p = none := by unfold readSn; rw [h]; split <;> rfl
theorem readSn_at {s : List Hd} {t : List It} {l : List Sn} {n p : ByteArray} {y : Sn} (hd : diskOk s t l = true) (h : l.find? (snIs n) = some y) : readSn s t l n p = (fileOf y.tree p).map fun x => loadOf s x.ids := by unfold readSn; rw [if_pos hd, h]; rfl
theorem snAt_find (l : List Sn) (n : ByteArray) : (l.find? (snIs n) = none ∧ snAt l n = -1) ∨ ∃ (i : Nat) (y : Sn), l[i]? = some y ∧ snAt l n = (i : Int) ∧ l.find? (snIs n) = some y := by
  rcases atG_find (snIs n) l 0 with ⟨f1, f2⟩ | ⟨i, y, f1, f2, f3, f4, f5⟩
  · exact .inl ⟨f1, f2⟩
  · exact .inr ⟨i, y, f1, by unfold snAt; rw [f4, Nat.zero_add], f3⟩
theorem fileOf_mem {t : List It} {p : ByteArray} {x : It} (h : fileOf t p = some x) : x ∈ t := by
  unfold fileOf at h
  cases hf : findIt t p with
  | none => rw [hf] at h; cases h
  | some z =>
    rw [hf] at h
    simp only [Option.bind_some] at h
    split at h
    · cases h
    · cases h; exact (findIt_some hf).1
theorem read_sn {s : List Hd} {t : List It} (hf : ∀ x, x ∈ t → IdsFit s x.ids) (p : ByteArray) : ((fileOf t p).bind fun x => loadIf s x.ids) = (fileOf t p).map fun x => loadOf s x.ids := by
  cases h : fileOf t p with
  | none => rfl
  | some x => simp [loadIf, idsFit_iff.2 (hf x (fileOf_mem h))]
/-- a cell is written, and in the end written back -/
theorem Ext.back {w w5 : World} {g i : Nat} {t : TypeId} {cs : Array Value} {x y : Value} (hb : Blk w g t cs) (hy : cs[i]? = some y) (e : Ext (w.setCell ⟨g, i, none⟩ x) w5) : Ext w (w5.setCell ⟨g, i, none⟩ y) := by
  have hb1 := hb.set_ i x
  have hb5 : Blk w5 g t (cs.setIfInBounds i x) := hb1.ext e
  have hb6 := hb5.set_ i y
  have hcs : (cs.setIfInBounds i x).setIfInBounds i y = cs := by
    apply Array.ext_getElem?
    intro j
    simp only [Array.getElem?_setIfInBounds, Array.size_setIfInBounds]
    split
    · rename_i hj
      subst hj
      have hlt : i < cs.size := by
        rcases Nat.lt_or_ge i cs.size with h | h
        · exact h
        · rw [Array.getElem?_eq_none h] at hy; cases hy
      rw [if_pos hlt, hy]
    · rfl
  rw [hcs] at hb6
  have hsz : w.heap.size ≤ (w5.setCell ⟨g, i, none⟩ y).heap.size := by
    have := e.size
    simp at this ⊢
    exact this
  have f5 : Below 0 w5 (w5.setCell ⟨g, i, none⟩ y) := (Below.refl 0 w5).setCell (Nat.zero_le _) y
  have f1 : Below 0 w (w.setCell ⟨g, i, none⟩ x) := (Below.refl 0 w).setCell (Nat.zero_le _) x
  refine ⟨(Below.os f5).trans ((Below.os e).trans (Below.os f1)), (Below.tape f5).trans ((Below.tape e).trans (Below.tape f1)), (Below.output f5).trans ((Below.output e).trans (Below.output f1)), hsz, fun k hk => ?_⟩
  · by_cases hkg : k = g
    · subst hkg
      exact hb6.trans hb.symm
    · rw [Below.heap_setCell w5 ⟨g, i, none⟩ y k hkg]
      rw [Below.block e k (by simpa using hk)]
      exact Below.heap_setCell w ⟨g, i, none⟩ x k hkg
theorem ML.set {w : World} {g : Nat} {t : TypeId} {cs : Array Value} {x : Value} (h : ML w) (hb : Blk w g t cs) (h0 : cs[0]? = some (.int .i32 0)) : ML (w.setCell ⟨g, 0, none⟩ x) := by
  obtain ⟨m, hm⟩ := h
  refine ⟨m, (World.cell?_setCell_other _ ⟨g, 0, none⟩ _ _ ?_).trans hm⟩
  intro e
  rw [← e, hb.cell 0, h0] at hm
  injection hm with hm
  injection hm with hm _
  cases hm
theorem esp_keepT {B : Nat} {w w' : World} {v : Value} {aq : List (ByteArray × Nat)} {t : TypeId} (h : SlOf B 88 2 ESP w v aq) (hk : KeepsT t w w') (ht : 88 ≠ t) : SlOf B 88 2 ESP w' v aq := SlOf.keepT h hk ht (fun _ _ _ e => e)
set_option maxRecDepth 8000 in
set_option maxHeartbeats 2000000 in
theorem readSnap_c {B b g n0 : Nat} {v : Value} {rt : Nat} {s : List Hd} {t : List It} {l : List Sn} {aq : List (ByteArray × Nat)} (n p : ByteArray) (w : World) (hv : diskOk s t l = true) (hD : Blk w g 86 #[.int .i32 0, .int .u32 0, .map (some b), .pointer (some ⟨rt, 0, none⟩), v]) (hst : StoreAt B b n0 s w)
    (hO : SlOf B 88 2 ESP w v aq) (hSn : SnapsIn B w l aq none) (hp : p.size < lim) (hm : ML w) :
    Calls Tryz.prog 42 #[.pointer (some ⟨g, 0, none⟩), .string n, .string p] w (RetP (OptInts w.heap.size (readSn s t l n p)) w) := by
  have hm1 : ML (w.setCell ⟨g, 0, none⟩ (.int .i32 1)) := hm.set hD rfl
  have hk1 : Keep1 86 w (w.setCell ⟨g, 0, none⟩ (.int .i32 1)) := Keep1.set hD _
  have hD1 : Blk (w.setCell ⟨g, 0, none⟩ (.int .i32 1)) g 86 #[.int .i32 1, .int .u32 0, .map (some b), .pointer (some ⟨rt, 0, none⟩), v] := hD.set_ 0 _
  have hSt1 := hst.keep1 hk1 (by decide)
  have hO1 := esp_keepT hO hk1.keepsT (by decide)
  have hSn1 := hSn.keep1 hk1 (by decide) (by decide) (by decide)
  have hsp : spAt aq n = snAt l n := spAt_sn hSn.names n
  have Ca := snapAt_c (g := g) (v := v) n _ (hD1.cell 4) hO1
  rw [hsp] at Ca
  have c0 : w.cell? ⟨g, 0, none⟩ = some (.int .i32 0) := hD.cell 0
  have f0 : w.frozen? ⟨g, 0, none⟩ = false := Lib.frozen_of_heap hD 0
  have Cl := lock_c ⟨g, 0, none⟩ w c0 f0
  obtain ⟨hso, -, -, h6, hsn⟩ := disk_parts hv
  have HSz : Hid ((w.setCell ⟨g, 0, none⟩ (.int .i32 1)).heap.size = w.heap.size) := Lib.hid (by simp)
  -- the lock is let go
  have Hend : Hid (∀ (X : Option (List Int)) (w5 : World) (r : Value), Ext (w.setCell ⟨g, 0, none⟩ (.int .i32 1)) w5 → OptInts w.heap.size X r w5 → (w5.cell? ⟨g, 0, none⟩ = some (.int .i32 1) ∧ w5.frozen? ⟨g, 0, none⟩ = false) ∧ OptInts w.heap.size X r (w5.setCell ⟨g, 0, none⟩ (.int .i32 0)) ∧ Ext w (w5.setCell ⟨g, 0, none⟩ (.int .i32 0))) := Lib.hid (by
    intro X w5 r e ⟨u, hr, hu⟩
    have hb5 := hD1.ext e
    refine ⟨⟨hb5.cell 0, Lib.frozen_of_heap hb5 0⟩, ⟨u, hr, hu.keep (Nat.le_refl _) fun k hk _ => Below.heap_setCell w5 ⟨g, 0, none⟩ _ k ?_⟩, Ext.back hD rfl e⟩
    have := hD.lt
    show k ≠ g
    omega)
  clear c0 f0 hD hst hO hSn hk1 hm hsp
  rcases snAt_find l n with ⟨hf, hi⟩ | ⟨k, y, hy, hi, hf⟩
  · have Hr : Hid (readSn s t l n p = none) := Lib.hid (readSn_no hf)
    rw [hi] at Ca
    clear hf hi hv hso hsn hm1 hD1 hSt1 hO1 hSn1
    go_enter_defers Tryz.func42, Tryz.ntmps42
    go_wp2_with (first | (go_at_call 93; refine Cl.mono ?_; rintro e w' ⟨rfl, rfl⟩) | (go_at_call 88; refine Ca.mono ?_; rintro e w2 ⟨rfl, he2⟩))
    refine leaves_cons (f := 94) (args := #[.pointer (some ⟨g, 0, none⟩)]) (by simp) (by simp [go_sem]) ?_
    obtain ⟨⟨c1, f1⟩, hI, hE⟩ := Hend.out none w2 _ he2 (OptInts.nil_ rfl)
    refine (unlock_d ⟨g, 0, none⟩ .returning _ c1 f1).mono ?_
    rintro e u' w'' ⟨rfl, rfl, rfl⟩
    exact ⟨_, results_tmp2 rfl _ _ _, _, rfl, by rw [Hr.out]; exact hI, hE⟩
  · have Hr : Hid (readSn s t l n p = (fileOf y.tree p).map fun x => loadOf s x.ids) := Lib.hid (readSn_at hv hf)
    have hfit := (hsn y (List.mem_of_getElem? hy)).2.2
    obtain ⟨hns, hok, adr2, kv2, has, hT2, -⟩ := hSn1.2 k y hy
    have hkl := lt_of_get hy
    have hal := hSn1.1
    obtain ⟨A8, c8, rfl, hA8⟩ := hO1
    rw [hal] at hD1
    obtain ⟨b8, o8, rfl, -, hc0, hc1⟩ := Sps.at_ hA8 has
    simp only at hc0 hc1
    have d2 := fun W (e : Ext _ W) => hD1.at_ (i := 2) (u := .map (some b)) rfl W e
    have d4 := fun W (e : Ext _ W) => hD1.at_ (i := 4) (u := .slice (some ⟨b8, o8, none⟩) l.length c8) rfl W e
    have Cr := fun W (e : Ext (w.setCell ⟨g, 0, none⟩ (.int .i32 1)) W) => read_c p W hso (hSt1.ext e) hok (hT2.ext e) hp (hm1.ext e)
    rw [read_sn hfit p, ← Hr.out] at Cr
    rw [hi] at Ca
    have hk0 : ¬ ((k : Int) < 0) := by omega
    clear hf hi hv hso hsn hm1 hD1 hSt1 hSn1 hA8 has hT2 hfit hns hok hal hc0 hy
    generalize readSn s t l n p = X at *
    generalize l.length = nl at *
    go_enter_defers Tryz.func42, Tryz.ntmps42
    go_wp2_with (first | (go_at_call 93; refine Cl.mono ?_; rintro e w' ⟨rfl, rfl⟩) | (go_at_call 88; refine Ca.mono ?_; rintro e w2 ⟨rfl, he2⟩))
    refine wp_region_hold (fun W => W.cell? ⟨g, 2, none⟩ = some (.map (some b)) ∧ W.cell? ⟨g, 4, none⟩ = some (.slice (some ⟨b8, o8, none⟩) nl c8) ∧ W.cell? ⟨b8, o8 + k * 2 + 1, none⟩ = some (.pointer (some ⟨adr2 [], 0, none⟩))) 17 [(0, true), (1, true), (2, true), (3, true), (4, true), (5, true), (6, true), (7, true), (8, true), (9, true), (10, true), (11, true), (12, true), (13, true), (14, false), (15, true), (16, true)] (by kernel_rfl) (by kernel_rfl) ?_ ?_
    · exact ⟨d2 _ he2.drew, d4 _ he2.drew, hc1 _ he2.drew⟩
    (repeat (first | (apply hw_read (by rfl) (by rfl); (· (intro W hW; (try dsimp only at hW); go_simp; (first | done | rfl | (rw [if_pos] <;> first | omega | rfl)))); (try simp only [Act.put, List.setIfInBounds_toArray, List.set_cons_zero, List.set_cons_succ])) | (refine hw_skip (by rfl) (by rfl) ?_; (try simp only [Act.put, List.setIfInBounds_toArray, List.set_cons_zero, List.set_cons_succ]))))
    refine hw_step (by rfl) ?_
    go_wp2_with (go_at_call 85; refine (Cr _ he2.drew).mono ?_; rintro e w4 ⟨r4, rfl, ⟨u4, rfl, hI4⟩, he4⟩)
    have he5 := he2.drew.trans he4
    refine ⟨⟨d2 _ he5, d4 _ he5, hc1 _ he5⟩, ?_⟩
    (try (repeat (first | (apply hw_read (by rfl) (by rfl); (· (intro W hW; (try dsimp only at hW); go_simp; (first | done | rfl | (rw [if_pos] <;> first | omega | rfl)))); (try simp only [Act.put, List.setIfInBounds_toArray, List.set_cons_zero, List.set_cons_succ])) | (refine hw_skip (by rfl) (by rfl) ?_; (try simp only [Act.put, List.setIfInBounds_toArray, List.set_cons_zero, List.set_cons_succ])))))
    (refine hw_nil ?_; (try simp only [List.drop_succ_cons, List.drop_zero]))
    go_wp2
    refine NoPanic.normal ?_
    (try dsimp only [Exit.then])
    (try go_wp2)
    refine leaves_cons (f := 94) (args := #[.pointer (some ⟨g, 0, none⟩)]) (by simp) (by simp [go_sem]) ?_
    have hle : w.heap.size ≤ w2.drew.heap.size := by
      have := he2.drew.size
      rw [HSz.out] at this
      exact this
    obtain ⟨⟨c1, f1⟩, hI, hE⟩ := Hend.out X w4 (.tuple #[u4, .bool X.isSome]) he5 ⟨u4, rfl, hI4.keep hle (fun _ _ _ => rfl)⟩
    refine (unlock_d ⟨g, 0, none⟩ .returning _ c1 f1).mono ?_
    rintro e u' w'' ⟨rfl, rfl, rfl⟩
    refine ⟨_, results_tmp2 rfl _ _ _, _, rfl, ?_, hE⟩
    exact hI
set_option maxRecDepth 8000 in
set_option maxHeartbeats 2000000 in
theorem SnapRead_c {B B' B2 : Nat} {vs vt vn : Value} {s : List Hd} {t : List It} {l : List Sn} (n p : ByteArray) (w : World) (hs : Hds B w vs s) (ht : Its B' w vt t) (hn : Sns B2 w vn l) (hp : p.size < lim) (hm : ML w) :
    Calls Tryz.prog 14 #[.agg #[vs, vt, vn], .string n, .string p] w (RetP (OptInts w.heap.size (readSn s t l n p)) w) := by
  have HS := Lib.hid hs; have HT := Lib.hid ht; have HN := Lib.hid hn; have HM := Lib.hid hm
  obtain ⟨A, c, rfl, -⟩ := hs
  obtain ⟨A2, c2, rfl, -⟩ := ht
  obtain ⟨A3, c3, rfl, -⟩ := hn
  have e0 : Ext w (w.alloc (.cells #[.slice A s.length c, .slice A2 t.length c2, .slice A3 l.length c3] 27)) := (Ext.refl w).alloc _
  have Cn := newDisk_c _ (HS.out.ext e0) (HT.out.ext e0) (HN.out.ext e0) (HM.out.ext e0)
  clear hm
  go_enter Tryz.func14, Tryz.ntmps14
  go_wp2_with fail
  refine Cn.mono ?_
  rintro e w1 ⟨he1, ⟨hv, rfl⟩ | ⟨hv, g, rfl, b, adr, kv, v, aq, -, hD, hSt, hT, hO, hSn⟩⟩
  · have Hr : Hid (readSn s t l n p = none) := Lib.hid (readSn_bad hv)
    clear hv Cn
    go_wp2
    go_ret2
    exact ⟨_, rfl, OptInts.nil_ Hr.out, e0.trans he1⟩
  have h6 := (disk_parts hv).2.2.2.1
  have hsl := hO.sl esp_ok (Nat.le_refl _) (by rw [hSn.1]; unfold lim; omega)
  have Cr := readSnap_c n p w1 hv hD hSt hsl hSn hp (HM.out.ext (e0.trans he1))
  have E1 := Lib.hid (e0.trans he1)
  clear hv Cn hSt hT hO hSn hD hsl h6 e0 he1
  go_wp2_with (go_at_call 42; refine Cr.mono ?_; rintro e w2 ⟨r2, rfl, ⟨u2, rfl, hI⟩, he2⟩)
  go_ret2
  exact ⟨_, rfl, ⟨_, rfl, hI.keep E1.out.size (fun _ _ _ => rfl)⟩, E1.out.trans he2⟩
end Go.Sf

/-! The changes between two trees, made in the first one, give the second one. -/
namespace Go.Sf
/-! ### the changes between two trees, made in the first one, give the second one -/
theorem putIt_at {x a : It} (e : a.path = x.path) : ∀ {bd r : List It}, (∀ y, y ∈ bd → blt y.path x.path = true) → (∀ z, z ∈ r → blt x.path z.path = true) → putIt x (bd ++ a :: r) = bd ++ x :: r := by
  intro bd
  induction bd with
  | nil =>
    intro r _ h
    rw [List.nil_append, putIt, if_neg (by rw [e, blt_irr]; simp), List.filter_cons_of_neg (by rw [eqb_true.2 e]; simp), filter_same fun y hy e => by
      have := h y hy; rw [e, blt_irr] at this; cases this]
    rfl
  | cons y bd ih =>
    intro r h1 h2
    rw [List.cons_append, putIt, if_pos (h1 y (by simp)), ih (fun z hz => h1 z (by simp [hz])) h2]; rfl
end Go.Sf

/-! What holds of valid disks and of what is sent: plain. -/
namespace Go.Sf
open Go Go.RowKit
end Go.Sf
