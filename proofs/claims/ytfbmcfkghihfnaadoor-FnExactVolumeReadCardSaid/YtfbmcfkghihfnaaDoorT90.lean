/- Files of volumes are read: the reference and the program. -/
import Derived.Test.YtfbmcfkghihfnaaDoorT89
import Derived.Test.YtfbmcfkghihfnaaDoorT28
import Derived.Test.YtfbmcfkghihfnaaDoorGA
namespace Go.Sf
open Go Go.RowKit Go.Proofs Go.Maps
/-- some ints and whether there are some -/
def OptInts (B : Nat) (o : Option (List Int)) (r : Value) (w : World) : Prop := ∃ u, r = .tuple #[u, .bool o.isSome] ∧ Ints B w u (o.getD [])
theorem OptInts.nil_ {B : Nat} {w : World} {o : Option (List Int)} (h : o = none) : OptInts B o (.tuple #[.slice none 0 0, .bool false]) w := by
  subst h; exact ⟨_, rfl, SlOf.nil _ _ _ _ _⟩
theorem OptInts.none_ {B g : Nat} {w : World} {o : Option (List Int)} (h : o = none) : OptInts B o (.tuple #[.slice (some ⟨g, 0, none⟩) 0 0, .bool false]) w := by
  subst h; exact ⟨_, rfl, SlOf.empty _ _ _ _ _ _ _ (Nat.zero_le _) (fun _ => rfl)⟩
theorem OptInts.some_ {B : Nat} {w : World} {o : Option (List Int)} {L : List Int} {v : Value} (h : o = some L) (hs : Ints B w v L) : OptInts B o (.tuple #[v, .bool true]) w := by
  subst h; exact ⟨_, rfl, hs⟩
theorem vol_parts {s : List Hd} {t : List It} (h : volOk s t = true) : StoreOk s ∧ treeOk t = true ∧ ∀ x, x ∈ t → IdsFit s x.ids := by
  unfold volOk at h
  simp only [Bool.and_eq_true] at h
  refine ⟨storeOk_iff.1 h.1, h.2.1, fun x hx => idsFit_iff.1 ?_⟩
  have := h.2.2.1
  unfold filesFit at this
  exact List.all_eq_true.1 this x hx
set_option maxRecDepth 8000 in
set_option maxHeartbeats 2000000 in
theorem specVolumeRead_c {B B' : Nat} {vs vt : Value} {s : List Hd} {t : List It} (p : ByteArray) (w : World) (hs : Hds B w vs s) (ht : Its B' w vt t) :
    Calls Tryd.prog 11 #[.agg #[vs, vt], .string p] w (RetP (OptInts w.heap.size (readOf s t p)) w) := by
  have HS := Lib.hid hs; have HT := Lib.hid ht
  obtain ⟨A, c, rfl, -⟩ := hs
  obtain ⟨A2, c2, rfl, -⟩ := ht
  have e0 : Ext w (w.alloc (.cells #[.slice A s.length c, .slice A2 t.length c2] 31)) := (Ext.refl w).alloc _
  have hbk := Blk.new w 31 #[.slice A s.length c, .slice A2 t.length c2]
  have d0 := fun W (e : Ext _ W) => hbk.at_ (i := 0) (u := .slice A s.length c) rfl W e
  have d1 := fun W (e : Ext _ W) => hbk.at_ (i := 1) (u := .slice A2 t.length c2) rfl W e
  have Ci := l11Ids_c p _ (HT.out.ext e0)
  clear hbk
  go_enter Tryd.func11, Tryd.ntmps11
  go_wp2_with fail
  refine Ci.mono ?_
  rintro e w1 ⟨r1, rfl, hR1, he1⟩
  have E1 := Lib.hid (e0.trans he1)
  have q0 := d0 w1 he1; have q1 := d1 w1 he1
  have Cv := specVolumeValid_c w1 (HS.out.ext E1.out) (HT.out.ext E1.out)
  have HR1 := Lib.hid hR1
  clear Ci
  cases hv : volOk s t with
  | false =>
    rw [hv] at Cv
    have Hr : Hid (readOf s t p = none) := Lib.hid (by unfold readOf; rw [hv]; rfl)
    clear hv hR1
    go_wp2_with (go_at_call 7; refine Cv.mono ?_; rintro e w2 ⟨rfl, he2⟩)
    go_ret2
    exact ⟨_, rfl, OptInts.none_ Hr.out, (E1.out.trans he2).alloc _⟩
  | true =>
  rw [hv] at Cv
  have Hp := Lib.hid (vol_parts hv)
  have Hrd : Hid (readOf s t p = (fileOf t p).map fun x => loadOf s x.ids) := Lib.hid (by unfold readOf; rw [if_pos hv])
  clear hv
  cases hfo : fileOf t p with
  | none =>
    rw [hfo] at hR1
    obtain ⟨A3, c3, rfl, -⟩ := hR1
    have Hr : Hid (readOf s t p = none) := Lib.hid (by rw [Hrd.out, hfo]; rfl)
    clear hfo HR1
    simp only [Option.toList_none, List.length_nil] at *
    go_wp2_with (go_at_call 7; refine Cv.mono ?_; rintro e w2 ⟨rfl, he2⟩)
    go_ret2
    exact ⟨_, rfl, OptInts.none_ Hr.out, (E1.out.trans he2).alloc _⟩
  | some x =>
    rw [hfo] at hR1
    have Hr : Hid (readOf s t p = some (loadOf s x.ids)) := Lib.hid (by rw [Hrd.out, hfo]; rfl)
    have Hx : Hid (IdsFit s x.ids) := Lib.hid (by
      unfold fileOf at hfo
      cases hf : findIt t p with
      | none => rw [hf] at hfo; cases hfo
      | some z =>
        rw [hf] at hfo
        simp only [Option.bind_some] at hfo
        split at hfo
        · cases hfo
        · cases hfo
          exact Hp.out.2.2 _ (findIt_some hf).1)
    simp only [Option.toList_some] at hR1
    obtain ⟨A3, c3, rfl, hA3⟩ := hR1
    obtain ⟨b, o, u, rfl, -, -, -, hu, -, -, hc2⟩ := Its.at_ hA3 (k := 0) (x := x) rfl
    simp only [Nat.zero_mul, Nat.add_zero] at hc2
    have HU := Lib.hid hu
    obtain ⟨Au, cu, rfl, -⟩ := hu
    have q2 := hc2 w1 (Ext.refl _)
    clear hfo HR1 hA3
    simp only [List.length_singleton] at *
    go_wp2_with (go_at_call 7; refine Cv.mono ?_; rintro e w2 ⟨rfl, he2⟩)
    have x0 := fun W (e : Ext w2 W) => d0 W (he1.trans (he2.trans e))
    have x2 := fun W (e : Ext w2 W) => hc2 W (he2.trans e)
    have E2 := E1.out.trans he2
    have Cl := fun W (e : Ext w2 W) => l4Load_c W Hp.out.1 Hx.out (HS.out.ext (E2.trans e)) (HU.out.ext (he2.trans e))
    refine wp_region_hold (fun W => W.cell? ⟨w.heap.size, 0, none⟩ = some (.slice A s.length c) ∧ W.cell? ⟨b, o + 2, none⟩ = some (.slice Au x.ids.length cu)) 6 [(0, true), (1, true), (2, true), (3, true), (4, true), (5, true)] (by kernel_rfl) (by kernel_rfl) ?_ ?_
    · exact ⟨x0 _ (Ext.refl _).drew, x2 _ (Ext.refl _).drew⟩
    (repeat (first | (apply hw_read (by rfl) (by rfl); (· (intro W hW; (try dsimp only at hW); go_simp; (first | done | rfl | (rw [if_pos] <;> first | omega | rfl)))); (try simp only [Act.put, List.setIfInBounds_toArray, List.set_cons_zero, List.set_cons_succ])) | (refine hw_skip (by rfl) (by rfl) ?_; (try simp only [Act.put, List.setIfInBounds_toArray, List.set_cons_zero, List.set_cons_succ]))))
    (refine hw_nil ?_; simp only [List.drop_succ_cons, List.drop_zero])
    go_wp2_with (go_at_call 34; refine (Cl _ (Ext.refl _).drew).mono ?_; rintro e w3 ⟨r3, rfl, hL, he3⟩)
    refine NoPanic.normal ?_
    (try dsimp only [Exit.then])
    go_wp2
    go_ret2
    exact ⟨_, rfl, OptInts.some_ Hr.out (hL.keep (Nat.le_trans E2.size (Ext.refl w2).drew.size) (fun _ _ _ => rfl)), E2.trans ((Ext.refl w2).drew.trans he3)⟩
end Go.Sf
