/- How many bytes the files of a directory have: the reference and the program. -/
import Derived.Test.YtdnnojghjnjnfaaGreatDoorHI
import Derived.Test.YtdnnojghjnjnfaaGreatDoorGJ
import Derived.Test.YtdnnojghjnjnfaaGreatDoorGK
import Derived.Test.YtdnnojghjnjnfaaGreatDoorGS
import Derived.Test.YtdnnojghjnjnfaaGreatDoorGC
import Derived.Test.YtdnnojghjnjnfaaGreatDoorGE
import Derived.Test.YtdnnojghjnjnfaaGreatDoorHE
import Derived.Test.YtdnnojghjnjnfaaGreatDoorHG
import Derived.RangeFuncNested
import Derived.RangeFuncBox
import Derived.RangeFuncBound
import Derived.RangeFuncCalls
import Derived.RangeFuncLeaves
import Derived.Shelf.Abstract
import Derived.Shelf.RegionOpen
import Derived.WalkKit
import Derived.OwnWalkIn
import Derived.TacticsInMore
import Derived.LoopNIn
import Derived.LoopIn
import Derived.Maps.AppendAt
set_option linter.all false
/-! How many bytes the files of a directory have: the reference and the program. -/
namespace Go.Sf
open Go Go.RowKit Go.Proofs Go.Maps
def dirOk (d : ByteArray) : Bool := eqb d ⟨#[]⟩ || pathOk d
noncomputable def useOf (s : List Hd) (d : ByteArray) (x : It) : Nat := if within x.path d = true then (loadOf s x.ids).length else 0
noncomputable def useBut (s : List Hd) (d but : ByteArray) (x : It) : Nat := if x.path = but then 0 else useOf s d x
noncomputable def usedBut (s : List Hd) (t : List It) (d but : ByteArray) : Nat := (t.map (useBut s d but)).sum
noncomputable def usedT (s : List Hd) (t : List It) (d : ByteArray) : Nat := (t.map (useOf s d)).sum
noncomputable def quotaU (s : List Hd) (t : List It) (l : List Sn) (d : ByteArray) : Int := if diskOk s t l = true ∧ dirOk d = true then (usedT s t d : Nat) else -1
theorem sum_take {α : Type} (f : α → Nat) {l : List α} {k : Nat} {x : α} (h : l[k]? = some x) : ((l.take (k + 1)).map f).sum = ((l.take k).map f).sum + f x := by
  rw [List.take_add_one, h]; simp
theorem load32 {s : List Hd} (hs : StoreOk s) {ids : List Int} (h : IdsFit s ids) : (loadOf s ids).length ≤ 32 := by
  have := loadOf_len hs ids
  have := h.1
  omega
theorem use_le {s : List Hd} (hs : StoreOk s) {d : ByteArray} {x : It} (h : IdsFit s x.ids) : useOf s d x ≤ 32 := by
  unfold useOf; split
  · exact load32 hs h
  · omega
theorem sum_le2 {α : Type} (f : α → Nat) (b : Nat) (l : List α) (h : ∀ x, x ∈ l → f x ≤ b) : (l.map f).sum ≤ l.length * b := by
  induction l with
  | nil => simp
  | cons a l ih =>
    have h1 := h a (by simp)
    have h2 := ih fun x hx => h x (by simp [hx])
    rw [List.map_cons, List.sum_cons, List.length_cons, Nat.add_mul, Nat.one_mul]
    omega
theorem used_take_le {s : List Hd} (hs : StoreOk s) {t : List It} (hf : ∀ x, x ∈ t → IdsFit s x.ids) (h12 : t.length ≤ 12) (d : ByteArray) (k : Nat) : ((t.take k).map (useOf s d)).sum ≤ 384 := by
  have h1 := sum_le2 (useOf s d) 32 (t.take k) fun x hx => use_le hs (hf x (List.mem_of_mem_take hx))
  have h2 : (t.take k).length ≤ 12 := Nat.le_trans (List.length_take_le' _ _) h12
  omega
theorem usedb_take_le {s : List Hd} (hs : StoreOk s) {t : List It} (hf : ∀ x, x ∈ t → IdsFit s x.ids) (h12 : t.length ≤ 12) (d but : ByteArray) (k : Nat) : ((t.take k).map (useBut s d but)).sum ≤ 384 := by
  have h1 := sum_le2 (useBut s d but) 32 (t.take k) fun x hx => by
    unfold useBut; split
    · omega
    · exact use_le hs (hf x (List.mem_of_mem_take hx))
  have h2 : (t.take k).length ≤ 12 := Nat.le_trans (List.length_take_le' _ _) h12
  omega
theorem path_ne {p : ByteArray} (h : pathOk p = true) : p ≠ ⟨#[]⟩ := by
  rintro rfl
  exact absurd h (by decide)
theorem used_none {s : List Hd} {t : List It} (ht : treeOk t = true) (d : ByteArray) : usedBut s t d ⟨#[]⟩ = usedT s t d := by
  unfold usedBut usedT
  congr 1
  refine List.map_congr_left fun x hx => ?_
  unfold useBut
  rw [if_neg (path_ne (itemOk_path ((treeOk_iff'.1 ht).2.fits hx).1))]
set_option maxHeartbeats 1000000 in
theorem l1Dir_c (d : ByteArray) (w : World) (hd : d.size < lim) : Calls Tryz.prog 85 #[.string d] w (Ret (.bool (dirOk d)) w) := by
  have Cp := fun W => specPathValid_c d W hd
  by_cases h : d = ⟨#[]⟩
  · subst h
    clear Cp
    go_enter Tryz.func85, Tryz.ntmps85
    go_wp2
    go_ret
    exact ⟨ret_b (by simp [dirOk, eqb_iff]), Ext.refl w⟩
  · have hb : (d.toList == (⟨#[]⟩ : ByteArray).toList) = false := by rw [bytes_ne_iff, decide_eq_false_iff_not]; exact h
    have Hr : Hid (pathOk d = dirOk d) := Lib.hid (by unfold dirOk; rw [eqb_false.2 h, Bool.false_or])
    have hb2 : d.toList.isEmpty = false := emp_false fun e => h (bl_inj (e.trans (by decide)))
    go_enter Tryz.func85, Tryz.ntmps85
    go_wp2_with (go_at_call 45; refine (Cp _).mono ?_; rintro e w2 ⟨rfl, he2⟩)
    go_ret
    exact ⟨ret_b Hr.out, he2⟩
set_option maxHeartbeats 1000000 in
theorem dirValid_c (d : ByteArray) (w : World) (hd : d.size < lim) (hm : ML w) : Calls Tryz.prog 83 #[.string d] w (Ret (.bool (dirOk d)) w) := by
  have Cp := PathValid_c d w hd hm
  by_cases h : d = ⟨#[]⟩
  · subst h
    clear Cp hm
    go_enter Tryz.func83, Tryz.ntmps83
    go_wp2
    go_ret
    exact ⟨ret_b (by simp [dirOk, eqb_iff]), Ext.refl w⟩
  · have hb : (d.toList == (⟨#[]⟩ : ByteArray).toList) = false := by rw [bytes_ne_iff, decide_eq_false_iff_not]; exact h
    have Hr : Hid (pathOk d = dirOk d) := Lib.hid (by unfold dirOk; rw [eqb_false.2 h, Bool.false_or])
    have hb2 : d.toList.isEmpty = false := emp_false fun e => h (bl_inj (e.trans (by decide)))
    have HM := Lib.hid hm
    clear hm
    go_enter Tryz.func83, Tryz.ntmps83
    go_wp2_with (go_at_call 88; refine Cp.mono ?_; rintro e w2 ⟨rfl, he2⟩)
    go_ret
    exact ⟨ret_b Hr.out, he2⟩
set_option maxRecDepth 8000 in
set_option maxHeartbeats 2000000 in
theorem l15Used_c {B B' B2 : Nat} {vs vt vn : Value} {s : List Hd} {t : List It} {l : List Sn} (d but : ByteArray) (w : World) (hs : Hds B w vs s) (ht : Its B' w vt t) (hn : Sns B2 w vn l) (hS : StoreOk s) (hf : ∀ x, x ∈ t → IdsFit s x.ids) (h12 : t.length ≤ 12) (hd : d.size < lim) :
    Calls Tryz.prog 86 #[.agg #[vs, vt, vn], .string d, .string but] w (Ret (.int .i64 (usedBut s t d but : Nat)) w) := by
  have HS := Lib.hid hs
  have HF := Lib.hid hf; have HO := Lib.hid hS
  obtain ⟨A, c, rfl, -⟩ := hs
  obtain ⟨A2, c2, rfl, hA⟩ := ht
  obtain ⟨A3, c3, rfl, -⟩ := hn
  have e0 : Ext w (w.alloc (.cells #[.slice A s.length c, .slice A2 t.length c2, .slice A3 l.length c3] 40)) := (Ext.refl w).alloc _
  have hbk := Blk.new w 40 #[.slice A s.length c, .slice A2 t.length c2, .slice A3 l.length c3]
  have d0 := fun W (e : Ext _ W) => hbk.at_ (i := 0) (u := .slice A s.length c) rfl W e
  have d1 := fun W (e : Ext _ W) => hbk.at_ (i := 1) (u := .slice A2 t.length c2) rfl W e
  have HA := Lib.hid hA
  have hbd := Lib.hid (usedb_take_le hS hf h12 d but)
  clear hbk hA hS hf
  generalize hnn : t.length = n at *
  have Hn := Lib.hid hnn; clear hnn
  go_enter Tryz.func86, Tryz.ntmps86
  go_wp2
  go_loopw [7, 8] (fun o i wr => ∃ k : Nat, k ≤ n ∧ i = .int .i64 k ∧ o = .int .i64 (((t.take k).map (useBut s d but)).sum : Nat) ∧ Ext (w.alloc (.cells #[.slice A s.length c, .slice A2 n c2, .slice A3 l.length c3] 40)) wr) (fun _ i _ => n - (RowKit.intOf i).toNat)
  case atStart => exact ⟨0, by omega, rfl, rfl, Ext.refl _⟩
  case round =>
    obtain ⟨k, hk, rfl, rfl, he⟩ := hrel
    have q1 := d1 wr he
    by_cases hlt : k < n
    · obtain ⟨x, hx⟩ := get_of_lt (l := t) (k := k) (by rw [Hn.out]; exact hlt)
      obtain ⟨b, o, u, rfl, -, -, hps, hu, hc0, -, hc2⟩ := Its.at_ HA.out hx
      have HU := Lib.hid hu
      have hfit := HF.out x (List.mem_of_getElem? hx)
      have h32 := load32 HO.out hfit
      have a0 := fun W (e : Ext wr W) => hc0 W ((e0.trans he).trans e)
      have a2 := fun W (e : Ext wr W) => hc2 W ((e0.trans he).trans e)
      obtain ⟨Au, cu, rfl, -⟩ := hu
      have D0 := fun W (e : Ext wr W) => d0 W (he.trans e)
      have D1 := fun W (e : Ext wr W) => d1 W (he.trans e)
      have Cw := fun W => l1Within_c x.path d W hps hd
      have Cl := fun W (e : Ext wr W) => l4Load_c W HO.out hfit (HS.out.ext ((e0.trans he).trans e)) (HU.out.ext ((e0.trans he).trans e))
      have hst := sum_take (useBut s d but) hx
      have hb0 := hbd.out k
      generalize ((t.take k).map (useBut s d but)).sum = acc at *
      have aa0 := a0 wr (Ext.refl _)
      cases hwi : within x.path d with
      | false =>
        rw [hwi] at Cw
        have hst2 : useBut s d but x = 0 := by
          unfold useBut useOf; rw [hwi]; simp
        have hst := hst.trans (by rw [hst2]; rfl : _ = acc)
        have Hst := Lib.hid hst
        clear hst hst2 hx hc0 hc2 hwi Cl
        go_wp2_with (go_at_call 128; refine (Cw _).mono ?_; rintro e w2 ⟨rfl, he2⟩)
        go_roundw
        case rel => exact ⟨k + 1, by omega, by go_num, by rw [Hst.out], he.trans he2⟩
        case measure => simp [RowKit.intOf]; omega
      | true =>
        rw [hwi] at Cw
        by_cases hpb : x.path = but
        · have hst2 : useBut s d but x = 0 := by
            unfold useBut; rw [if_pos hpb]
          have hb : (x.path.toList != but.toList) = false := by rw [hpb]; simp
          have hb1 : (x.path.toList == but.toList) = true := by rw [hpb]; simp
          have hst := hst.trans (by rw [hst2]; rfl : _ = acc)
          have Hst := Lib.hid hst
          clear hst hst2 hx hc0 hc2 hwi Cl hpb
          go_wp2_with (go_at_call 128; refine (Cw _).mono ?_; rintro e w2 ⟨rfl, he2⟩; have r1 := D1 w2 he2; have r2 := a0 w2 he2)
          go_roundw
          case rel => exact ⟨k + 1, by omega, by go_num, by rw [Hst.out], he.trans he2⟩
          case measure => simp [RowKit.intOf]; omega
        · have hst2 : useBut s d but x = (loadOf s x.ids).length := by
            unfold useBut useOf; rw [if_neg hpb, if_pos hwi]
          have hb1 : (x.path.toList == but.toList) = false := by rw [bytes_ne_iff, decide_eq_false_iff_not]; exact hpb
          have hb : (x.path.toList != but.toList) = true := by simp [bne, hb1]
          rw [hst2] at hst
          have Hst := Lib.hid hst
          clear hst hst2 hx hc0 hc2 hwi hpb
          generalize hll : (loadOf s x.ids).length = ll at *
          go_wp2_with (go_at_call 128; refine (Cw _).mono ?_; rintro e w2 ⟨rfl, he2⟩; have r1 := D1 w2 he2; have r2 := a0 w2 he2)
          refine wp_region_hold (fun W => W.cell? ⟨w.heap.size, 0, none⟩ = some (.slice A s.length c) ∧ W.cell? ⟨w.heap.size, 1, none⟩ = some (.slice (some ⟨b, o, none⟩) n c2) ∧ W.cell? ⟨b, o + k * 3 + 2, none⟩ = some (.slice Au x.ids.length cu)) 11 [(0, true), (1, true), (2, true), (3, true), (4, true), (5, true), (6, true), (7, true), (8, true), (9, false), (10, true)] (by kernel_rfl) (by kernel_rfl) ?_ ?_
          · exact ⟨D0 _ he2.drew, D1 _ he2.drew, a2 _ he2.drew⟩
          (repeat (first | (apply hw_read (by rfl) (by rfl); (· (intro W hW; (try dsimp only at hW); go_simp; (first | done | rfl | (rw [if_pos] <;> first | omega | rfl)))); (try simp only [Act.put, List.setIfInBounds_toArray, List.set_cons_zero, List.set_cons_succ])) | (refine hw_skip (by rfl) (by rfl) ?_; (try simp only [Act.put, List.setIfInBounds_toArray, List.set_cons_zero, List.set_cons_succ]))))
          refine hw_step (by rfl) ?_
          go_wp2_with (go_at_call 73; refine (Cl _ he2.drew).mono ?_; rintro e w4 ⟨u9, rfl, ⟨A9, c9, rfl, -⟩, he9⟩)
          have he5 := he2.drew.trans he9
          (try rw [hll])
          refine ⟨⟨D0 _ he5, D1 _ he5, a2 _ he5⟩, ?_⟩
          (repeat (first | (apply hw_read (by rfl) (by rfl); (· (intro W hW; (try dsimp only at hW); go_simp; (first | done | rfl | (rw [if_pos] <;> first | omega | rfl)))); (try simp only [Act.put, List.setIfInBounds_toArray, List.set_cons_zero, List.set_cons_succ])) | (refine hw_skip (by rfl) (by rfl) ?_; (try simp only [Act.put, List.setIfInBounds_toArray, List.set_cons_zero, List.set_cons_succ]))))
          (refine hw_nil ?_; (try simp only [List.drop_succ_cons, List.drop_zero]))
          go_wp2
          refine NoPanic.normal ?_
          (try dsimp only [Exit.then])
          (try go_wp2)
          go_roundw
          case rel => exact ⟨k + 1, by omega, by go_num, by rw [Hst.out]; go_num, he.trans he5⟩
          case measure => simp [RowKit.intOf]; omega
    · have hks : k = n := by omega
      subst hks
      have Hf : Hid (((t.take k).map (useBut s d but)).sum = usedBut s t d but) := Lib.hid (by rw [List.take_of_length_le (by rw [Hn.out]; exact Nat.le_refl _)]; rfl)
      generalize ((t.take k).map (useBut s d but)).sum = acc at *
      go_wp2
      go_ret
      exact ⟨by rw [← Hf.out]; rfl, e0.trans he⟩
set_option maxRecDepth 8000 in
set_option maxHeartbeats 2000000 in
theorem specQuotaUsed_c {B B' B2 : Nat} {vs vt vn : Value} {s : List Hd} {t : List It} {l : List Sn} (d : ByteArray) (w : World) (hs : Hds B w vs s) (ht : Its B' w vt t) (hn : Sns B2 w vn l) (hd : d.size < lim) :
    Calls Tryz.prog 38 #[.agg #[vs, vt, vn], .string d] w (Ret (.int .i64 (quotaU s t l d)) w) := by
  have HS := Lib.hid hs; have HT := Lib.hid ht; have HN := Lib.hid hn
  obtain ⟨A, c, rfl, -⟩ := hs
  obtain ⟨A2, c2, rfl, -⟩ := ht
  obtain ⟨A3, c3, rfl, -⟩ := hn
  have e0 : Ext w (w.alloc (.cells #[.slice A s.length c, .slice A2 t.length c2, .slice A3 l.length c3] 40)) := (Ext.refl w).alloc _
  have hbk := Blk.new w 40 #[.slice A s.length c, .slice A2 t.length c2, .slice A3 l.length c3]
  have d0 := fun W (e : Ext _ W) => hbk.at_ (i := 0) (u := .slice A s.length c) rfl W e
  have d1 := fun W (e : Ext _ W) => hbk.at_ (i := 1) (u := .slice A2 t.length c2) rfl W e
  have d2 := fun W (e : Ext _ W) => hbk.at_ (i := 2) (u := .slice A3 l.length c3) rfl W e
  have Cd := specDiskValid_c _ (HS.out.ext e0) (HT.out.ext e0) (HN.out.ext e0)
  have Cp := fun W => l1Dir_c d W hd
  clear hbk
  cases hv : diskOk s t l with
  | false =>
    rw [hv] at Cd
    have Hr : Hid (quotaU s t l d = -1) := Lib.hid (by unfold quotaU; rw [hv]; simp)
    clear hv
    go_enter Tryz.func38, Tryz.ntmps38
    go_wp2_with (go_at_call 24; refine Cd.mono ?_; rintro e w2 ⟨rfl, he2⟩)
    go_ret
    exact ⟨ret_i Hr.out.symm, e0.trans he2⟩
  | true =>
  rw [hv] at Cd
  have Hp := Lib.hid (disk_parts hv)
  cases hdo : dirOk d with
  | false =>
    rw [hdo] at Cp
    have Hr : Hid (quotaU s t l d = -1) := Lib.hid (by unfold quotaU; rw [hdo]; simp)
    clear hv hdo
    go_enter Tryz.func38, Tryz.ntmps38
    go_wp2_with (first | (go_at_call 24; refine Cd.mono ?_; rintro e w2 ⟨rfl, he2⟩) | (go_at_call 85; refine (Cp _).mono ?_; rintro e w3 ⟨rfl, he3⟩))
    go_ret
    exact ⟨ret_i Hr.out.symm, (e0.trans he2).trans he3⟩
  | true =>
    rw [hdo] at Cp
    have Hr : Hid ((usedBut s t d ⟨#[]⟩ : Nat) = quotaU s t l d) := Lib.hid (by unfold quotaU; rw [if_pos ⟨hv, hdo⟩, used_none Hp.out.2.1])
    have Cl := fun W (e : Ext w W) => l15Used_c d ⟨#[]⟩ W (HS.out.ext e) (HT.out.ext e) (HN.out.ext e) Hp.out.1 Hp.out.2.2.1 (treeOk_iff'.1 Hp.out.2.1).1 hd
    rw [Hr.out] at Cl
    clear hv hdo
    go_enter Tryz.func38, Tryz.ntmps38
    go_wp2_with (first | (go_at_call 24; refine Cd.mono ?_; rintro e w2 ⟨rfl, he2⟩) | (go_at_call 85; refine (Cp _).mono ?_; rintro e w3 ⟨rfl, he3⟩; have r0 := d0 w3 (he2.trans he3); have r1 := d1 w3 (he2.trans he3); have r2 := d2 w3 (he2.trans he3)) | (go_at_call 86; refine (Cl _ ((e0.trans he2).trans he3)).mono ?_; rintro e w4 ⟨rfl, he4⟩))
    go_ret
    exact ⟨rfl, ((e0.trans he2).trans he3).trans he4⟩
set_option maxRecDepth 4000 in
set_option maxHeartbeats 2000000 in
theorem sizeOf_c {B B' b n : Nat} {v : Value} {s : List Hd} {ids : List Int} (w : World) (hs : StoreOk s) (h : StoreAt B b n s w) (hi : Ints B' w v ids) (hfit : IdsFit s ids) :
    Calls Tryz.prog 127 #[.map (some b), v] w (Ret (.int .i64 ((loadOf s ids).length : Nat)) w) := by
  obtain ⟨M, hV, hM⟩ := h
  have HV : Hid (∀ W, Ext w W → MapV Tryz.prog 3 b n M W) := Lib.hid fun W e => hV.ext e
  have HMd := Lib.hid hM; have HS := Lib.hid hs; have HFit := Lib.hid hfit
  obtain ⟨A2, c2, rfl, hA2⟩ := hi
  have hn4 : ids.length ≤ 4 := hfit.1
  generalize hn : ids.length = m at *
  have Hn := Lib.hid hn; have HA2 := Lib.hid hA2
  clear hn hA2 hs hV hM hfit
  go_enter Tryz.func127, Tryz.ntmps127
  go_wp2
  go_loopw [5, 10] (fun o i wr => ∃ k : Nat, k ≤ m ∧ i = .int .i64 k ∧ o = .int .i64 ((loadOf s (ids.take k)).length : Nat) ∧ Ext w wr) (fun _ i _ => m - (RowKit.intOf i).toNat)
  case atStart => exact ⟨0, by omega, rfl, rfl, Ext.refl _⟩
  case round =>
    obtain ⟨k, hk, rfl, rfl, he⟩ := hrel
    by_cases hlt : k < m
    · obtain ⟨x, hx⟩ := get_of_lt (l := ids) (k := k) (by rw [Hn.out]; exact hlt)
      obtain ⟨b2, o, rfl, -, -, hxi, hc⟩ := Ints.at_ HA2.out hx
      have a0 := hc wr he
      obtain ⟨y, hfy, -⟩ := HFit.out.2 k x hx
      obtain ⟨u, hr, hu⟩ := (HMd.out x).2 y hfy
      have hy8 := block8 HS.out hfy
      have Ht : Hid ((loadOf s (ids.take (k + 1))).length = (loadOf s (ids.take k)).length + y.bytes.length) := Lib.hid (by rw [loadOf_take hx hfy, List.length_append])
      obtain ⟨Ay, cy, rfl, -⟩ := hu
      obtain ⟨yk, yb, yu⟩ := y
      simp only at hr Ht hy8
      have hkey := keyI hxi
      have hVr := HV.out wr he
      have hlb : (loadOf s (ids.take k)).length ≤ 32 := by
        have := loadOf_len HS.out (ids.take k)
        rw [List.length_take] at this
        omega
      generalize (loadOf s (ids.take k)).length = acc at *
      clear hc hx hfy
      have hfd : ∀ W : World, (Instr.field 45 (.agg #[.int .i64 yk, .slice Ay yb.length cy, .int .i64 yu]) 1).run Tryz.prog W = .ok (.slice Ay yb.length cy) W := fun _ => by kernel_rfl
      go_wp2_with (at_lookup; refine wp_mlook_some rfl _ _ rfl lawI underStore (zeroHd _) rfl hVr _ _ rfl hkey hr ?_)
      go_roundw
      case rel => exact ⟨k + 1, by omega, by go_num, by rw [Ht.out]; go_num, he.trans (by (repeat' (first | exact Ext.refl _ | assumption | refine Ext.alloc ?_ _ | refine Ext.drew ?_ | refine Ext.drewN ?_ _)))⟩
      case measure => simp [RowKit.intOf]; omega
    · have hks : k = m := by omega
      subst hks
      have Hf : Hid ((loadOf s (ids.take k)).length = (loadOf s ids).length) := Lib.hid (by rw [List.take_of_length_le (by rw [Hn.out]; exact Nat.le_refl _)])
      generalize (loadOf s (ids.take k)).length = acc at *
      go_wp2
      go_ret
      exact ⟨by rw [← Hf.out]; rfl, he⟩
set_option maxRecDepth 8000 in
set_option maxHeartbeats 2000000 in
theorem used_c {B b n : Nat} {s : List Hd} {t : List It} {adr : Key → Nat} {kv : Key → Value} (d : ByteArray) (w : World) (hS : StoreOk s) (h : StoreAt B b n s w) (ht : treeOk t = true) (hT : TreeAt B w t adr kv) (hf : ∀ x, x ∈ t → IdsFit s x.ids) (hd : d.size < lim) (hm : ML w) :
    Calls Tryz.prog 84 #[.agg #[.map (some b), .pointer (some ⟨adr [], 0, none⟩)], .string d] w (Ret (.int .i64 (usedT s t d : Nat)) w) := by
  have hg := treeOk_iff'.1 ht
  have h12 := hg.1
  have HSt := Lib.hid h; have HF := Lib.hid hf; have HO := Lib.hid hS; have HM := Lib.hid hm; have HG := Lib.hid hg.2
  have e0 : Ext w (w.alloc (.cells #[.map (some b), .pointer (some ⟨adr [], 0, none⟩)] 86)) := (Ext.refl w).alloc _
  have hbk := Blk.new w 86 #[.map (some b), .pointer (some ⟨adr [], 0, none⟩)]
  have d0 := fun W (e : Ext _ W) => hbk.at_ (i := 0) (u := .map (some b)) rfl W e
  have Cl := list_c (hT.ext e0) hg.2 hg.1
  have hbd := Lib.hid (used_take_le hS hf h12 d)
  clear hbk h hT hf hS hm hg ht
  go_enter Tryz.func84, Tryz.ntmps84
  go_wp2_with fail
  refine Cl.mono ?_
  rintro e w1 ⟨v1, rfl, hI, he1⟩
  obtain ⟨A2, c2, rfl, hA⟩ := hI
  have HA := Lib.hid hA
  generalize hnn : t.length = n2 at *
  have Hn := Lib.hid hnn
  clear hnn hA Cl
  go_wp2
  go_loopw [5, 12] (fun o i wr => ∃ k : Nat, k ≤ n2 ∧ i = .int .i64 k ∧ o = .int .i64 (((t.take k).map (useOf s d)).sum : Nat) ∧ Ext w1 wr) (fun _ i _ => n2 - (RowKit.intOf i).toNat)
  case atStart => exact ⟨0, by omega, rfl, rfl, Ext.refl _⟩
  case round =>
    obtain ⟨k, hk, rfl, rfl, he⟩ := hrel
    by_cases hlt : k < n2
    · obtain ⟨x, hx⟩ := get_of_lt (l := t) (k := k) (by rw [Hn.out]; exact hlt)
      obtain ⟨b2, o, u, rfl, -, -, hps, hu, hc0, hc1, hc2⟩ := Its.at_ HA.out hx
      have HU := Lib.hid (hu.ext he)
      have hxm := List.mem_of_getElem? hx
      have hfit := HF.out x hxm
      have hpok := itemOk_path (HG.out.fits hxm).1
      have h32 := load32 HO.out hfit
      obtain ⟨Au, cu, rfl, -⟩ := hu
      have a0 := hc0 wr he; have a1 := hc1 wr he; have a2 := hc2 wr he
      have hbs := Blk.new wr 47 #[.string x.path, .bool x.dir, .slice Au x.ids.length cu]
      have s2 := fun W (e : Ext _ W) => hbs.at_ (i := 2) (u := .slice Au x.ids.length cu) rfl W e
      have ea : Ext wr (wr.alloc (.cells #[.string x.path, .bool x.dir, .slice Au x.ids.length cu] 47)) := (Ext.refl wr).alloc _
      have Ew := (e0.trans he1).trans he
      have Cw := PathWithin_c x.path d _ hps hd (HM.out.ext (Ew.trans ea))
      rw [hpok, Bool.true_and] at Cw
      have Cz := fun W (e : Ext wr W) => sizeOf_c W HO.out (HSt.out.ext (Ew.trans e)) (HU.out.ext e) hfit
      have hst := sum_take (useOf s d) hx
      have hb0 := hbd.out k
      generalize ((t.take k).map (useOf s d)).sum = acc at *
      cases hwi : within x.path d with
      | false =>
        rw [hwi] at Cw
        have hst2 : useOf s d x = 0 := by unfold useOf; rw [hwi]; simp
        have hst := hst.trans (by rw [hst2]; rfl : _ = acc)
        have Hst := Lib.hid hst
        clear hst hst2 hx hc0 hc1 hc2 hwi Cz hbs
        go_wp2_with (go_at_call 40; refine Cw.mono ?_; rintro e w2 ⟨rfl, he2⟩)
        go_roundw
        case rel => exact ⟨k + 1, by omega, by go_num, by rw [Hst.out], he.trans (ea.trans he2)⟩
        case measure => simp [RowKit.intOf]; omega
      | true =>
        rw [hwi] at Cw
        have hst2 : useOf s d x = (loadOf s x.ids).length := by unfold useOf; rw [if_pos hwi]
        rw [hst2] at hst
        have Hst := Lib.hid hst
        clear hst hst2 hx hc0 hc1 hc2 hwi hbs
        generalize (loadOf s x.ids).length = ll at *
        have D0 := fun W (e : Ext wr W) => d0 W (he1.trans (he.trans e))
        go_wp2_with (first | (go_at_call 40; refine Cw.mono ?_; rintro e w2 ⟨rfl, he2⟩; have z0 := D0 w2 (ea.trans he2); have z2 := s2 w2 he2) | (go_at_call 127; refine (Cz _ (ea.trans he2)).mono ?_; rintro e w3 ⟨rfl, he3⟩))
        go_roundw
        case rel => exact ⟨k + 1, by omega, by go_num, by rw [Hst.out]; go_num, he.trans ((ea.trans he2).trans he3)⟩
        case measure => simp [RowKit.intOf]; omega
    · have hks : k = n2 := by omega
      subst hks
      have Hf : Hid (((t.take k).map (useOf s d)).sum = usedT s t d) := Lib.hid (by rw [List.take_of_length_le (by rw [Hn.out]; exact Nat.le_refl _)]; rfl)
      generalize ((t.take k).map (useOf s d)).sum = acc at *
      go_wp2
      go_ret
      exact ⟨by rw [← Hf.out]; rfl, (e0.trans he1).trans he⟩
set_option maxRecDepth 8000 in
set_option maxHeartbeats 2000000 in
theorem QuotaUsed_c {B B' B2 : Nat} {vs vt vn : Value} {s : List Hd} {t : List It} {l : List Sn} (d : ByteArray) (w : World) (hs : Hds B w vs s) (ht : Its B' w vt t) (hn : Sns B2 w vn l) (hd : d.size < lim) (hm : ML w) :
    Calls Tryz.prog 37 #[.agg #[vs, vt, vn], .string d] w (Ret (.int .i64 (quotaU s t l d)) w) := by
  have HS := Lib.hid hs; have HT := Lib.hid ht; have HN := Lib.hid hn; have HM := Lib.hid hm
  obtain ⟨A, c, rfl, -⟩ := hs
  obtain ⟨A2, c2, rfl, -⟩ := ht
  obtain ⟨A3, c3, rfl, -⟩ := hn
  have e0 : Ext w (w.alloc (.cells #[.slice A s.length c, .slice A2 t.length c2, .slice A3 l.length c3] 40)) := (Ext.refl w).alloc _
  have Cn := newDisk_c _ (HS.out.ext e0) (HT.out.ext e0) (HN.out.ext e0) (HM.out.ext e0)
  clear hm
  go_enter Tryz.func37, Tryz.ntmps37
  go_wp2_with fail
  refine Cn.mono ?_
  rintro e w1 ⟨he1, ⟨hv, rfl⟩ | ⟨hv, g, rfl, b, adr, kv, v, aq, -, hD, hSt, hTr, -, -⟩⟩
  · have Hr : Hid (quotaU s t l d = -1) := Lib.hid (by unfold quotaU; rw [hv]; simp)
    clear hv Cn
    go_wp2
    go_ret
    exact ⟨ret_i Hr.out.symm, e0.trans he1⟩
  have Hp := Lib.hid (disk_parts hv)
  have Cp := dirValid_c d w1 hd (HM.out.ext (e0.trans he1))
  have g2 := fun W (e : Ext w1 W) => hD.at_ (i := 2) (u := .map (some b)) rfl W e
  have g3 := fun W (e : Ext w1 W) => hD.at_ (i := 3) (u := .pointer (some ⟨adr [], 0, none⟩)) rfl W e
  have Cu := fun W (e : Ext w1 W) => used_c d W Hp.out.1 (hSt.ext e) Hp.out.2.1 (hTr.ext e) Hp.out.2.2.1 hd (HM.out.ext ((e0.trans he1).trans e))
  clear hD hSt hTr Cn
  cases hdo : dirOk d with
  | false =>
    rw [hdo] at Cp
    have Hr : Hid (quotaU s t l d = -1) := Lib.hid (by unfold quotaU; rw [hdo]; simp)
    clear hv hdo
    go_wp2_with (go_at_call 83; refine Cp.mono ?_; rintro e w2 ⟨rfl, he2⟩)
    go_ret
    exact ⟨ret_i Hr.out.symm, (e0.trans he1).trans he2⟩
  | true =>
    rw [hdo] at Cp
    have Hr : Hid ((usedT s t d : Nat) = quotaU s t l d) := Lib.hid (by unfold quotaU; rw [if_pos ⟨hv, hdo⟩])
    rw [Hr.out] at Cu
    clear hv hdo
    go_wp2_with (first | (go_at_call 83; refine Cp.mono ?_; rintro e w2 ⟨rfl, he2⟩; have z2 := g2 w2 he2; have z3 := g3 w2 he2) | (go_at_call 84; refine (Cu _ he2).mono ?_; rintro e w3 ⟨rfl, he3⟩))
    go_ret
    exact ⟨rfl, ((e0.trans he1).trans he2).trans he3⟩
end Go.Sf

/-! Quotas and turns are compared. -/
namespace Go.Sf
open Go Go.RowKit Go.Proofs




end Go.Sf

/-! Quotas are checked: the reference and the program. -/
namespace Go.Sf
open Go Go.RowKit Go.Proofs Go.Maps
end Go.Sf

/-! What quotas allow: the reference and the program. -/
namespace Go.Sf
open Go Go.RowKit Go.Proofs Go.Maps
end Go.Sf

/-! Which quotas are over: the reference. -/
namespace Go.Sf
open Go Go.RowKit Go.Proofs Go.Maps
end Go.Sf

/-! The turns of a path: plain, and the reference's way. -/
namespace Go.Sf
open Go Go.RowKit Go.Proofs Go.Maps
/-- how a path changes from one tree to another one -/
def turnK : Option It → Option It → Int
  | none, none => 0
  | none, some _ => 1
  | some _, none => 2
  | some x, some y => if eqb x y = true then 0 else 3
def turnsL (p : ByteArray) : Option It → List Sn → List Tn
  | _, [] => []
  | a, x :: l => (if turnK a (findIt x.tree p) = 0 then [] else [⟨x.name, turnK a (findIt x.tree p)⟩]) ++ turnsL p (findIt x.tree p) l
noncomputable def histOf (s : List Hd) (t : List It) (l : List Sn) (p : ByteArray) : List Tn := if diskOk s t l = true ∧ pathOk p = true then turnsL p none l else []
theorem turnsL_drop (p : ByteArray) (a : Option It) {l : List Sn} {k : Nat} {x : Sn} (h : l[k]? = some x) : turnsL p a (l.drop k) = (if turnK a (findIt x.tree p) = 0 then [] else [⟨x.name, turnK a (findIt x.tree p)⟩]) ++ turnsL p (findIt x.tree p) (l.drop (k + 1)) := by
  rw [drop_cons h]; rfl
theorem turnsL_len (p : ByteArray) : ∀ (l : List Sn) (a : Option It), (turnsL p a l).length ≤ l.length := by
  intro l
  induction l with
  | nil => intro a; exact Nat.le_refl _
  | cons x l ih =>
    intro a
    have := ih (findIt x.tree p)
    unfold turnsL
    rw [List.length_append, List.length_cons]
    split
    · show 0 + _ ≤ _; omega
    · show 1 + _ ≤ _; omega
theorem turnK_bd (a b : Option It) : 0 ≤ turnK a b ∧ turnK a b ≤ 3 := by
  unfold turnK
  split
  · omega
  · omega
  · omega
  · split <;> omega
theorem at_cases (l : List It) (p : ByteArray) : (findIt l p = none ∧ atPath l p = -1) ∨ ∃ (i : Nat) (x : It), l[i]? = some x ∧ findIt l p = some x ∧ atPath l p = (i : Int) := by
  rcases atG_find (pathIs p) l 0 with h | ⟨i, x, h1, -, h3, h4, -⟩
  · exact .inl h
  · exact .inr ⟨i, x, h1, h3, by unfold atPath; rw [h4]; simp⟩
set_option maxRecDepth 8000 in
set_option maxHeartbeats 2000000 in
theorem l33Turn_c {B B' : Nat} {va vb : Value} {a b : List It} (p : ByteArray) (w : World) (ha : Its B w va a) (hb : Its B' w vb b) : Calls Tryz.prog 90 #[va, vb, .string p] w (Ret (.int .i64 (turnK (findIt a p) (findIt b p))) w) := by
  have Ca := l5At_c p w ha
  have Cb := fun W (e : Ext w W) => l5At_c p W (hb.ext e)
  obtain ⟨Aa, ca, rfl, hA⟩ := ha
  obtain ⟨Ab, cb, rfl, hB⟩ := hb
  have hla := hA.2.2.1; have hlb := hB.2.2.1
  unfold lim at hla hlb
  have HA := Lib.hid hA; have HB := Lib.hid hB
  clear hA hB
  rcases at_cases a p with ⟨ha1, ha2⟩ | ⟨i, x, hx, ha1, ha2⟩
  · rw [ha2] at Ca
    rcases at_cases b p with ⟨hb1, hb2⟩ | ⟨j, y, hy, hb1, hb2⟩
    · rw [hb2] at Cb
      rw [ha1, hb1]
      clear ha1 ha2 hb1 hb2
      go_enter Tryz.func90, Tryz.ntmps90
      go_wp2_with (go_at_call 100; first | (refine Ca.mono ?_; clear Ca; rintro e w1 ⟨rfl, he1⟩) | (refine (Cb _ he1).mono ?_; rintro e w2 ⟨rfl, he2⟩))
      refine wp_region_ext (by kernel_rfl) (by kernel_rfl) ?_
      repeat (first | (apply q_plain rfl; (· intro W eW; go_simp; (first | done | rfl | (rw [if_pos] <;> first | omega | rfl))); (try simp only [Act.put, List.setIfInBounds_toArray, List.set_cons_zero, List.set_cons_succ])) | (refine qg_skip (by rfl) ?_; (try simp only [Act.put, List.setIfInBounds_toArray, List.set_cons_zero, List.set_cons_succ])) | (apply qg_plain (by rfl); (· intro W eW; go_simp; (first | done | rfl | (rw [if_pos] <;> first | omega | rfl))); (try simp only [Act.put, List.setIfInBounds_toArray, List.set_cons_zero, List.set_cons_succ])))
      refine q_nil ?_
      intro w3 e3
      go_wp2
      go_ret
      exact ⟨rfl, (he1.trans he2).trans e3⟩
    · rw [hb2] at Cb
      rw [ha1, hb1]
      clear ha1 ha2 hb1 hb2 hy
      go_enter Tryz.func90, Tryz.ntmps90
      go_wp2_with (go_at_call 100; first | (refine Ca.mono ?_; clear Ca; rintro e w1 ⟨rfl, he1⟩) | (refine (Cb _ he1).mono ?_; rintro e w2 ⟨rfl, he2⟩))
      go_ret
      exact ⟨rfl, he1.trans he2⟩
  · rw [ha2] at Ca
    rcases at_cases b p with ⟨hb1, hb2⟩ | ⟨j, y, hy, hb1, hb2⟩
    · rw [hb2] at Cb
      rw [ha1, hb1]
      have hi0 : ¬ ((i : Int) < 0) := by omega
      clear ha1 ha2 hb1 hb2 hx
      go_enter Tryz.func90, Tryz.ntmps90
      go_wp2_with (go_at_call 100; first | (refine Ca.mono ?_; clear Ca; rintro e w1 ⟨rfl, he1⟩) | (refine (Cb _ he1).mono ?_; rintro e w2 ⟨rfl, he2⟩))
      go_ret
      exact ⟨rfl, he1.trans he2⟩
    · rw [hb2] at Cb
      rw [ha1, hb1]
      have hi0 : ¬ ((i : Int) < 0) := by omega
      have hj0 : ¬ ((j : Int) < 0) := by omega
      have hil := lt_of_get hx; have hjl := lt_of_get hy
      obtain ⟨b1, o1, u1, rfl, -, -, hps1, hu1, hc0, hc1, hc2⟩ := Its.at_ HA.out hx
      obtain ⟨b2, o2, u2, rfl, -, -, hps2, hu2, hd0, hd1, hd2⟩ := Its.at_ HB.out hy
      obtain ⟨Ax, cx, rfl, hux⟩ := hu1
      obtain ⟨Ay, cy, rfl, huy⟩ := hu2
      have Cs : ∀ W, Ext w W → Calls Tryz.prog 126 #[.agg #[.string x.path, .bool x.dir, .slice Ax x.ids.length cx], .agg #[.string y.path, .bool y.dir, .slice Ay y.ids.length cy]] W (Ret (.bool (eqb x y)) W) := fun W e =>
        spec_l13Same_c W ⟨_, rfl, hps1, Ints.ext (w := w) ⟨_, _, rfl, hux⟩ e⟩ ⟨_, rfl, hps2, Ints.ext (w := w) ⟨_, _, rfl, huy⟩ e⟩
      clear ha1 ha2 hb1 hb2 hx hy hux huy
      generalize a.length = na at *
      generalize b.length = nb at *
      have fin : turnK (some x) (some y) = if eqb x y = true then 0 else 3 := rfl
      rw [fin]
      cases he : eqb x y with
      | true =>
        rw [he] at Cs
        clear he fin
        go_enter Tryz.func90, Tryz.ntmps90
        go_wp2_with (go_at_call 100; first | (refine Ca.mono ?_; clear Ca; rintro e w1 ⟨rfl, he1⟩) | (refine (Cb _ he1).mono ?_; rintro e w2 ⟨rfl, he2⟩))
        have e12 := he1.trans he2
        have a0 := fun W (e : Ext w2 W) => hc0 W (e12.trans e); have a1 := fun W (e : Ext w2 W) => hc1 W (e12.trans e); have a2 := fun W (e : Ext w2 W) => hc2 W (e12.trans e)
        have d0 := fun W (e : Ext w2 W) => hd0 W (e12.trans e); have d1 := fun W (e : Ext w2 W) => hd1 W (e12.trans e); have d2 := fun W (e : Ext w2 W) => hd2 W (e12.trans e)
        clear hc0 hc1 hc2 hd0 hd1 hd2
        refine wp_region_ext (by kernel_rfl) (by kernel_rfl) ?_
        repeat (first | (apply q_plain rfl; (· intro W eW; go_simp; (first | done | rfl | (rw [if_pos] <;> first | omega | rfl))); (try simp only [Act.put, List.setIfInBounds_toArray, List.set_cons_zero, List.set_cons_succ])) | (refine qg_skip (by rfl) ?_; (try simp only [Act.put, List.setIfInBounds_toArray, List.set_cons_zero, List.set_cons_succ])) | (apply qg_plain (by rfl); (· intro W eW; go_simp; (first | done | rfl | (rw [if_pos] <;> first | omega | rfl))); (try simp only [Act.put, List.setIfInBounds_toArray, List.set_cons_zero, List.set_cons_succ])))
        ((first | apply q_call rfl | apply qg_call (by rfl)); (· intro W eW; go_simp; (first | done | (constructor <;> rfl))); (· intro W eW; exact Cs W (e12.trans eW)); (try simp only [Act.put, List.setIfInBounds_toArray, List.set_cons_zero, List.set_cons_succ]))
        repeat (first | (apply q_plain rfl; (· intro W eW; go_simp; (first | done | rfl | (rw [if_pos] <;> first | omega | rfl))); (try simp only [Act.put, List.setIfInBounds_toArray, List.set_cons_zero, List.set_cons_succ])) | (refine qg_skip (by rfl) ?_; (try simp only [Act.put, List.setIfInBounds_toArray, List.set_cons_zero, List.set_cons_succ])) | (apply qg_plain (by rfl); (· intro W eW; go_simp; (first | done | rfl | (rw [if_pos] <;> first | omega | rfl))); (try simp only [Act.put, List.setIfInBounds_toArray, List.set_cons_zero, List.set_cons_succ])))
        refine q_nil ?_
        intro w3 e3
        go_wp2
        go_ret
        exact ⟨rfl, e12.trans e3⟩
      | false =>
        rw [he] at Cs
        clear he fin
        go_enter Tryz.func90, Tryz.ntmps90
        go_wp2_with (go_at_call 100; first | (refine Ca.mono ?_; clear Ca; rintro e w1 ⟨rfl, he1⟩) | (refine (Cb _ he1).mono ?_; rintro e w2 ⟨rfl, he2⟩))
        have e12 := he1.trans he2
        have a0 := fun W (e : Ext w2 W) => hc0 W (e12.trans e); have a1 := fun W (e : Ext w2 W) => hc1 W (e12.trans e); have a2 := fun W (e : Ext w2 W) => hc2 W (e12.trans e)
        have d0 := fun W (e : Ext w2 W) => hd0 W (e12.trans e); have d1 := fun W (e : Ext w2 W) => hd1 W (e12.trans e); have d2 := fun W (e : Ext w2 W) => hd2 W (e12.trans e)
        clear hc0 hc1 hc2 hd0 hd1 hd2
        refine wp_region_ext (by kernel_rfl) (by kernel_rfl) ?_
        repeat (first | (apply q_plain rfl; (· intro W eW; go_simp; (first | done | rfl | (rw [if_pos] <;> first | omega | rfl))); (try simp only [Act.put, List.setIfInBounds_toArray, List.set_cons_zero, List.set_cons_succ])) | (refine qg_skip (by rfl) ?_; (try simp only [Act.put, List.setIfInBounds_toArray, List.set_cons_zero, List.set_cons_succ])) | (apply qg_plain (by rfl); (· intro W eW; go_simp; (first | done | rfl | (rw [if_pos] <;> first | omega | rfl))); (try simp only [Act.put, List.setIfInBounds_toArray, List.set_cons_zero, List.set_cons_succ])))
        ((first | apply q_call rfl | apply qg_call (by rfl)); (· intro W eW; go_simp; (first | done | (constructor <;> rfl))); (· intro W eW; exact Cs W (e12.trans eW)); (try simp only [Act.put, List.setIfInBounds_toArray, List.set_cons_zero, List.set_cons_succ]))
        repeat (first | (apply q_plain rfl; (· intro W eW; go_simp; (first | done | rfl | (rw [if_pos] <;> first | omega | rfl))); (try simp only [Act.put, List.setIfInBounds_toArray, List.set_cons_zero, List.set_cons_succ])) | (refine qg_skip (by rfl) ?_; (try simp only [Act.put, List.setIfInBounds_toArray, List.set_cons_zero, List.set_cons_succ])) | (apply qg_plain (by rfl); (· intro W eW; go_simp; (first | done | rfl | (rw [if_pos] <;> first | omega | rfl))); (try simp only [Act.put, List.setIfInBounds_toArray, List.set_cons_zero, List.set_cons_succ])))
        refine q_nil ?_
        intro w3 e3
        go_wp2
        go_ret
        exact ⟨rfl, e12.trans e3⟩
theorem etn_of {B : Nat} {w : World} {x : Tn} (h1 : x.snap.size < lim) (h2 : inI x.kind) : ETn B w #[.string x.snap, .int .i64 x.kind] 0 x := ⟨rfl, h1, rfl, h2⟩
set_option maxRecDepth 8000 in
set_option maxHeartbeats 4000000 in
theorem specHistoryOf_c {B B' B2 : Nat} {vs vt vn : Value} {s : List Hd} {t : List It} {l : List Sn} (p : ByteArray) (w : World) (hs : Hds B w vs s) (ht : Its B' w vt t) (hn : Sns B2 w vn l) (hp : p.size < lim) :
    Calls Tryz.prog 43 #[.agg #[vs, vt, vn], .string p] w (RetP (fun r w' => Tns w.heap.size w' r (histOf s t l p)) w) := by
  have HS := Lib.hid hs; have HT := Lib.hid ht; have HN := Lib.hid hn
  obtain ⟨A, c, rfl, -⟩ := hs
  obtain ⟨A2, c2, rfl, -⟩ := ht
  obtain ⟨A3, c3, rfl, hA⟩ := hn
  have hl := hA.2.2.1
  unfold lim at hl
  have e0 : Ext w (w.alloc (.cells #[.slice A s.length c, .slice A2 t.length c2, .slice A3 l.length c3] 40)) := (Ext.refl w).alloc _
  have hbk := Blk.new w 40 #[.slice A s.length c, .slice A2 t.length c2, .slice A3 l.length c3]
  have d0 := fun W (e : Ext (w.alloc (.cells #[.slice A s.length c, .slice A2 t.length c2, .slice A3 l.length c3] 40)) W) => hbk.at_ (i := 0) (u := .slice A s.length c) rfl W e
  have d1 := fun W (e : Ext (w.alloc (.cells #[.slice A s.length c, .slice A2 t.length c2, .slice A3 l.length c3] 40)) W) => hbk.at_ (i := 1) (u := .slice A2 t.length c2) rfl W e
  have d2 := fun W (e : Ext (w.alloc (.cells #[.slice A s.length c, .slice A2 t.length c2, .slice A3 l.length c3] 40)) W) => hbk.at_ (i := 2) (u := .slice A3 l.length c3) rfl W e
  have HA := Lib.hid hA
  have HO0 : Hid (OwnS (w.alloc (.cells #[.slice A s.length c, .slice A2 t.length c2, .slice A3 l.length c3] 40)).heap.size 74 2 (ETn (w.alloc (.cells #[.slice A s.length c, .slice A2 t.length c2, .slice A3 l.length c3] 40)).heap.size) ((w.alloc (.cells #[.slice A s.length c, .slice A2 t.length c2, .slice A3 l.length c3] 40)).alloc (.cells #[] 74)) (.slice (some ⟨w.heap.size + 1, 0, none⟩) 0 0) []) := Lib.hid (OwnS.lit _ _ _ _ (Nat.le_refl _) (by simp))
  have e1 : Ext (w.alloc (.cells #[.slice A s.length c, .slice A2 t.length c2, .slice A3 l.length c3] 40)) ((w.alloc (.cells #[.slice A s.length c, .slice A2 t.length c2, .slice A3 l.length c3] 40)).alloc (.cells #[] 74)) := (Ext.refl _).alloc _
  have Cd := specDiskValid_c _ (HS.out.ext (e0.trans e1)) (HT.out.ext (e0.trans e1)) (HN.out.ext (e0.trans e1))
  have Cp := fun W => specPathValid_c p W hp
  have q0 := d0 _ e1; have q1 := d1 _ e1; have q2 := d2 _ e1
  clear hbk hA
  generalize hnn : l.length = n at *
  have Hn := Lib.hid hnn; clear hnn
  have Bad : histOf s t l p = [] → Hid (∀ W, Tns w.heap.size W (.slice (some ⟨w.heap.size + 1, 0, none⟩) 0 0) (histOf s t l p)) := fun hr => Lib.hid fun W => by
    rw [hr]
    exact SlOf.empty _ _ _ _ _ _ _ (Nat.zero_le _) (fun h => by cases h)
  cases hd : diskOk s t l with
  | false =>
    rw [hd] at Cd
    have Hr := Bad (by unfold histOf; rw [hd, if_neg (by simp)])
    clear hd Bad
    go_enter Tryz.func43, Tryz.ntmps43
    go_wp2_with (go_at_call 24; refine Cd.mono ?_; rintro e w2 ⟨rfl, he2⟩)
    go_ret
    exact ⟨_, rfl, Hr.out _, e0.trans (e1.trans he2)⟩
  | true =>
    rw [hd] at Cd
    cases hpo : pathOk p with
    | false =>
      rw [hpo] at Cp
      have Hr := Bad (by unfold histOf; rw [hpo, if_neg (by simp)])
      clear hd hpo Bad
      go_enter Tryz.func43, Tryz.ntmps43
      go_wp2_with (first | (go_at_call 24; refine Cd.mono ?_; rintro e w2 ⟨rfl, he2⟩) | (go_at_call 45; refine (Cp _).mono ?_; rintro e w3 ⟨rfl, he3⟩))
      go_ret
      exact ⟨_, rfl, Hr.out _, e0.trans (e1.trans (he2.trans he3))⟩
    | true =>
      rw [hpo] at Cp
      have Hr : Hid (histOf s t l p = turnsL p none l) := Lib.hid (by unfold histOf; rw [if_pos ⟨hd, hpo⟩])
      clear hd hpo Bad
      go_enter Tryz.func43, Tryz.ntmps43
      go_wp2_with (first | (go_at_call 24; refine Cd.mono ?_; rintro e w2 ⟨rfl, he2⟩) | (go_at_call 45; refine (Cp _).mono ?_; rintro e w3 ⟨rfl, he3⟩))
      obtain ⟨wa, hwa⟩ : ∃ wa, wa = (w.alloc (.cells #[.slice A s.length c, .slice A2 t.length c2, .slice A3 n c3] 40)) := ⟨_, rfl⟩
      rw [← hwa] at he2 e0 e1 d0 d1 d2 HO0
      have HWs : Hid (wa.heap.size = w.heap.size + 1) := Lib.hid (by rw [hwa]; simp)
      clear hwa
      have e23 := he2.trans he3
      have HO3 := Lib.hid (HO0.out.ext (ETn_ok _) (e23.alloc (.cells #[] 47)))
      have E3 := e1.trans (e23.alloc (.cells #[] 47))
      clear Cd Cp q0 q1 q2 he2 he3
      go_loopw [5, 6, 7] (fun v o i wr => ∃ (k : Nat) (a : Option It) (la : List It) (L : List Tn), k ≤ n ∧ i = .int .i64 k ∧ Ext wa wr ∧ OwnS wa.heap.size 74 2 (ETn wa.heap.size) wr v L ∧ Hid (L ++ turnsL p a (l.drop k) = turnsL p none l) ∧ Hid (Its 0 wr o la) ∧ Hid (findIt la p = a) ∧ Hid (L.length ≤ k)) (fun _ _ i _ => n - (RowKit.intOf i).toNat)
      case atStart => exact ⟨0, none, [], [], by omega, rfl, E3, HO3.out, Lib.hid rfl, Lib.hid (SlOf.empty _ _ _ _ _ _ _ (Nat.zero_le _) (fun h => by cases h)), Lib.hid rfl, Lib.hid (Nat.le_refl _)⟩
      case round =>
        obtain ⟨k, a, la, L, hk, rfl, he, hO, hL, hIa, hfa, hLk⟩ := hrel
        have q0 := d0 wr he; have q1 := d1 wr he; have q2 := d2 wr he
        by_cases hlt : k < n
        · obtain ⟨x, hx⟩ := get_of_lt (l := l) (k := k) (by rw [Hn.out]; exact hlt)
          obtain ⟨b, o, u, rfl, -, -, hns, hu, hc0, hc1⟩ := Sns.at_ HA.out hx
          have E := e0.trans he
          have Hnx : Hid (turnsL p a (l.drop k) = (if turnK a (findIt x.tree p) = 0 then [] else [⟨x.name, turnK a (findIt x.tree p)⟩]) ++ turnsL p (findIt x.tree p) (l.drop (k + 1))) := Lib.hid (turnsL_drop p a hx)
          have HU := Lib.hid hu
          have HI : Hid (∀ W, Ext wr W → Its 0 W u x.tree) := Lib.hid fun W e => (HU.out.ext (E.trans e)).keep (Nat.zero_le _) (fun _ _ _ => rfl)
          obtain ⟨Au, cu, rfl, -⟩ := hu
          have a0 := fun W (e : Ext wr W) => hc0 W (E.trans e)
          have a1 := fun W (e : Ext wr W) => hc1 W (E.trans e)
          have z2 := fun W (e : Ext wr W) => d2 W (he.trans e)
          have Ct := l33Turn_c p wr hIa.out (HI.out wr (Ext.refl _))
          rw [hfa.out] at Ct
          have hbd := turnK_bd a (findIt x.tree p)
          have HO := Lib.hid hO
          have r1 := a1 wr (Ext.refl _)
          obtain ⟨AL, cL, rfl⟩ := hO.form
          obtain ⟨Aa, ca, rfl, -⟩ := hIa.out
          clear hc0 hx hO
          by_cases hz : turnK a (findIt x.tree p) = 0
          · rw [hz] at Ct
            have Hnx2 : Hid (turnsL p a (l.drop k) = turnsL p (findIt x.tree p) (l.drop (k + 1))) := Lib.hid (by rw [Hnx.out, if_pos hz]; rfl)
            clear hz hbd Hnx
            go_wp2_with (go_at_call 90; refine Ct.mono ?_; rintro e w4 ⟨rfl, he4⟩; have s1 := a1 w4 he4; have s2 := z2 w4 he4)
            go_roundw
            case rel => exact ⟨k + 1, _, x.tree, L, by omega, by go_num, he.trans he4, HO.out.ext (ETn_ok _) he4, Lib.hid (by rw [← Hnx2.out]; exact hL.out), Lib.hid (HI.out _ he4), Lib.hid rfl, Lib.hid (by have := hLk.out; omega)⟩
            case measure => simp [RowKit.intOf]; omega
          · have Hnx2 : Hid (L ++ turnsL p a (l.drop k) = (L ++ [⟨x.name, turnK a (findIt x.tree p)⟩]) ++ turnsL p (findIt x.tree p) (l.drop (k + 1))) := Lib.hid (by rw [Hnx.out, if_neg hz, List.append_assoc])
            have hgt : (0 : Int) < turnK a (findIt x.tree p) := by omega
            have hki : inI (turnK a (findIt x.tree p)) := by unfold inI; omega
            generalize turnK a (findIt x.tree p) = kd at *
            clear hz hbd Hnx
            go_wp2_with (first | (go_at_call 90; refine Ct.mono ?_; rintro e w4 ⟨rfl, he4⟩; have s0 := a0 w4 he4; have s2 := z2 w4 he4; have HO4 := Lib.hid (HO.out.ext (ETn_ok _) he4); have he4' := he.trans he4; have HI4 := Lib.hid (HI.out w4 he4)) | (at_builtin; go_must (refine wp_ap1 (w0 := wa) (by rfl) _ _ (by rfl) el_Tn (ETn_ok _) he4' _ L [⟨x.name, kd⟩] (by rfl) HO4.out 1 1 rfl #[.string x.name, .int .i64 kd] _ (by rfl) (by first | rfl | simp) rfl (one_cells rfl) (one_E (etn_of (x := ⟨x.name, kd⟩) hns hki)) ?_ ?_)))
            · have := hLk.out; simp; unfold lim; omega
            · intro v' w' hO' he' hk'
              have HO' := Lib.hid hO'
              have HI' := Lib.hid (HI4.out.keepT hk' (by decide) (by decide))
              have t2 := d2 w' he'
              have t1 := hc1 w' (e0.trans he')
              clear hO' hk' Ct
              go_wp2
              go_roundw
              case rel => exact ⟨k + 1, _, x.tree, L ++ [⟨x.name, kd⟩], by omega, by go_num, he', HO'.out, Lib.hid (by rw [← Hnx2.out]; exact hL.out), HI', Lib.hid rfl, Lib.hid (by rw [List.length_append]; have := hLk.out; simp; omega)⟩
              case measure => simp [RowKit.intOf]; omega
        · have hks : k = n := by omega
          subst hks
          have hLe : L = turnsL p none l := by
            rw [← hL.out, List.drop_eq_nil_of_le (by rw [Hn.out]; exact Nat.le_refl _)]
            cases a <;> simp [turnsL]
          obtain ⟨AL, cL, rfl⟩ := hO.form
          have HF : Hid (Tns w.heap.size wr (.slice AL L.length cL) (histOf s t l p)) := Lib.hid (by
            rw [Hr.out, ← hLe]
            exact Tns.keep (B := wa.heap.size) (hO.sl (ETn_ok _) (Nat.le_refl _) (by have := hLk.out; unfold lim; omega)) e0.size (fun _ _ _ => rfl))
          clear hO
          go_wp2
          go_ret
          exact ⟨_, rfl, HF.out, e0.trans he⟩
end Go.Sf

/-! The turns of a path: the program's way. -/
namespace Go.Sf
open Go Go.RowKit Go.Proofs Go.Maps
/-- a node that stands for an item, or none -/
def NodeIs (B : Nat) (w : World) (v : Value) (p : ByteArray) (o : Option It) : Prop :=
  (o = none ∧ v = .pointer none) ∨ ∃ x g u kv, o = some x ∧ x.path = p ∧ v = .pointer (some ⟨g, 0, none⟩) ∧ Blk w g 99 #[.string (nameOf (key x)), .bool x.dir, u, kv] ∧ Ints B w u x.ids ∧ (nameOf (key x)).size < lim
theorem NodeIs.ext {B : Nat} {w w' : World} {v : Value} {p : ByteArray} {o : Option It} (h : NodeIs B w v p o) (e : Ext w w') : NodeIs B w' v p o := by
  rcases h with h | ⟨x, g, u, kv, h1, h2, h3, h4, h5, h6⟩
  · exact .inl h
  · exact .inr ⟨x, g, u, kv, h1, h2, h3, h4.ext e, h5.ext e, h6⟩
theorem NodeIs.none (B : Nat) (w : World) (p : ByteArray) : NodeIs B w (.pointer none) p none := .inl ⟨rfl, rfl⟩
theorem name_size {x : It} (h : pathOk x.path = true) : (nameOf (key x)).size < lim := by
  have h1 := kid_path (l := [x]) (k := (key x).dropLast) (mem_kids.2 ⟨by simp, rfl⟩)
  have h2 := pathOk_len h
  have h3 := congrArg ByteArray.size h1
  rw [ByteArray.size_append] at h3
  unfold lim; omega
theorem NodeIs.find {B : Nat} {w : World} {l : List It} {adr : Key → Nat} {kv : Key → Value} (h : TreeAt B w l adr kv) (ht : treeOk l = true) (p : ByteArray) : NodeIs B w (findV l adr p) p (findIt l p) := by
  unfold findV
  cases hf : findIt l p with
  | none => exact .inl ⟨rfl, rfl⟩
  | some x =>
    obtain ⟨h1, h2⟩ := findIt_some hf
    obtain ⟨-, -, u, hb, hu⟩ := h.nodes x h1
    exact .inr ⟨x, adr (key x), u, kv (key x), rfl, h2, rfl, hb, hu, name_size (tree_path ht h1)⟩
set_option maxRecDepth 4000 in
set_option maxHeartbeats 1000000 in
theorem self_c {w : World} {g : Nat} {s : ByteArray} {d : Bool} {u kv : Value} (hb : Blk w g 99 #[.string s, .bool d, u, kv]) (hu : ∃ A n c, u = .slice A n c) :
    Calls Tryz.prog 153 #[.pointer (some ⟨g, 0, none⟩)] w (Ret (.agg #[.string s, .bool d, u]) w) := by
  obtain ⟨A, n, c, rfl⟩ := hu
  have e0 : Ext w (w.alloc (.cells #[.string ⟨#[]⟩, .bool false, .slice none 0 0] 47)) := (Ext.refl w).alloc _
  have d0 := fun W (e : Ext w W) => hb.at_ (i := 0) (u := .string s) rfl W e
  have d1 := fun W (e : Ext w W) => hb.at_ (i := 1) (u := .bool d) rfl W e
  have d2 := fun W (e : Ext w W) => hb.at_ (i := 2) (u := .slice A n c) rfl W e
  have hbk := Blk.new w 47 #[.string ⟨#[]⟩, .bool false, .slice none 0 0]
  have z0 := fun W (e : Ext _ W) => hbk.at_ (i := 0) (u := .string ⟨#[]⟩) rfl W e
  have z1 := fun W (e : Ext _ W) => hbk.at_ (i := 1) (u := .bool false) rfl W e
  have z2 := fun W (e : Ext _ W) => hbk.at_ (i := 2) (u := .slice none 0 0) rfl W e
  go_enter Tryz.func153, Tryz.ntmps153
  go_wp2
  refine wp_region_hold (fun W => W.cell? ⟨g, 0, none⟩ = some (.string s) ∧ W.cell? ⟨g, 1, none⟩ = some (.bool d) ∧ W.cell? ⟨g, 2, none⟩ = some (.slice A n c)) 12 [(0, true), (1, true), (2, true), (3, true), (4, true), (5, true), (6, true), (7, true), (8, true), (9, true), (10, true), (11, true)] (by kernel_rfl) (by kernel_rfl) ?_ ?_
  · exact ⟨d0 _ e0.drew, d1 _ e0.drew, d2 _ e0.drew⟩
  (repeat (first | (apply hw_read (by rfl) (by rfl); (· (intro W hW; (try dsimp only at hW); go_simp; (first | done | rfl | (rw [if_pos] <;> first | omega | rfl)))); (try simp only [Act.put, List.setIfInBounds_toArray, List.set_cons_zero, List.set_cons_succ])) | (refine hw_skip (by rfl) (by rfl) ?_; (try simp only [Act.put, List.setIfInBounds_toArray, List.set_cons_zero, List.set_cons_succ]))))
  (refine hw_nil ?_; (try simp only [List.drop_succ_cons, List.drop_zero]))
  have ed := (Ext.refl (w.alloc (.cells #[.string ⟨#[]⟩, .bool false, .slice none 0 0] 47))).drew
  have y0 := z0 _ ed; have y1 := z1 _ ed; have y2 := z2 _ ed
  have f0 := (hbk.ext ed).frozen 0; have f1 := (hbk.ext ed).frozen 1; have f2 := (hbk.ext ed).frozen 2
  clear z0 z1 z2 d0 d1 d2
  go_wp2
  refine NoPanic.normal ?_
  (try dsimp only [Exit.then])
  have hbn := (Blk.new w 47 #[.string s, .bool d, .slice A n c]).ext (Ext.refl _).drew
  have k0 := hbn.cell 0; have k1 := hbn.cell 1; have k2 := hbn.cell 2
  simp at k0 k1 k2
  go_wp2
  exact bodyPost_ret (v := .agg #[.string s, .bool d, .slice A n c]) (by simp [results, Tryz.results153, go_sem, k0, k1, k2]) rfl ⟨rfl, ((Ext.refl w).alloc _).drew⟩
set_option maxRecDepth 4000 in
set_option maxHeartbeats 2000000 in
theorem turnKind_c {B B' : Nat} {va vb : Value} {p : ByteArray} {a b : Option It} (w : World) (ha : NodeIs B w va p a) (hb : NodeIs B' w vb p b) : Calls Tryz.prog 132 #[va, vb] w (Ret (.int .i64 (turnK a b)) w) := by
  rcases ha with ⟨rfl, rfl⟩ | ⟨x, g, u, kv, rfl, hxp, rfl, hb1, hu1, hs1⟩
  · rcases hb with ⟨rfl, rfl⟩ | ⟨y, g', u', kv', rfl, hyp, rfl, hb2, hu2, hs2⟩
    · go_enter Tryz.func132, Tryz.ntmps132
      go_wp2
      go_ret
      exact ⟨rfl, Ext.refl _⟩
    · go_enter Tryz.func132, Tryz.ntmps132
      go_wp2
      go_ret
      exact ⟨rfl, Ext.refl _⟩
  · rcases hb with ⟨rfl, rfl⟩ | ⟨y, g', u', kv', rfl, hyp, rfl, hb2, hu2, hs2⟩
    · go_enter Tryz.func132, Tryz.ntmps132
      go_wp2
      go_ret
      exact ⟨rfl, Ext.refl _⟩
    · have C1 := self_c hb1 (by obtain ⟨A, c, rfl, -⟩ := hu1; exact ⟨_, _, _, rfl⟩)
      have C2 := fun W (e : Ext w W) => self_c (hb2.ext e) (by obtain ⟨A, c, rfl, -⟩ := hu2; exact ⟨_, _, _, rfl⟩)
      have hnn : nameOf (key x) = nameOf (key y) := by unfold key; rw [hxp, hyp]
      have Ce := fun W (e : Ext w W) => impl_itemEqual_c (x := ⟨nameOf (key x), x.dir, x.ids⟩) (y := ⟨nameOf (key y), y.dir, y.ids⟩) W ⟨u, rfl, hs1, hu1.ext e⟩ ⟨u', rfl, hs2, hu2.ext e⟩
      have heq : eqb (⟨nameOf (key x), x.dir, x.ids⟩ : It) ⟨nameOf (key y), y.dir, y.ids⟩ = eqb x y := by
        obtain ⟨xp, xd, xi⟩ := x
        obtain ⟨yp, yd, yi⟩ := y
        simp only at hxp hyp
        subst hxp
        subst hyp
        unfold eqb
        simp [hnn]
      rw [heq] at Ce
      have fin : turnK (some x) (some y) = if eqb x y = true then 0 else 3 := rfl
      rw [fin]
      obtain ⟨A1, c1, rfl, -⟩ := hu1
      obtain ⟨A2, c2, rfl, -⟩ := hu2
      cases he : eqb x y with
      | true =>
        rw [he] at Ce
        clear he fin heq hb1 hb2 hnn
        go_enter Tryz.func132, Tryz.ntmps132
        go_wp2_with (first | (go_at_call 153; first | (refine C1.mono ?_; clear C1; rintro e w1 ⟨rfl, he1⟩) | (refine (C2 _ he1).mono ?_; rintro e w2 ⟨rfl, he2⟩)) | (go_at_call 123; refine (Ce _ (he1.trans he2)).mono ?_; rintro e w3 ⟨rfl, he3⟩))
        go_ret
        exact ⟨rfl, (he1.trans he2).trans he3⟩
      | false =>
        rw [he] at Ce
        clear he fin heq hb1 hb2 hnn
        go_enter Tryz.func132, Tryz.ntmps132
        go_wp2_with (first | (go_at_call 153; first | (refine C1.mono ?_; clear C1; rintro e w1 ⟨rfl, he1⟩) | (refine (C2 _ he1).mono ?_; rintro e w2 ⟨rfl, he2⟩)) | (go_at_call 123; refine (Ce _ (he1.trans he2)).mono ?_; rintro e w3 ⟨rfl, he3⟩))
        go_ret
        exact ⟨rfl, (he1.trans he2).trans he3⟩
end Go.Sf

/-! The turns of a path come one by one: the program's iterator, and the list that is made of it. -/
namespace Go.Sf
open Go Go.RowKit Go.Proofs Go.Maps Go.Shelf
attribute [local go_sem] Oper.semAt_some
/-- a turn that fits -/
abbrev TnS := { x : Tn // x.snap.size < lim ∧ inI x.kind }
abbrev encT (x : TnS) : Array Value := #[.agg #[.string x.1.snap, .int .i64 x.1.kind]]
/-- what a round keeps: all that lay below n0, and block bp -/
def KpT (n0 bp : Nat) (A B : World) : Prop := Below n0 A B ∧ ∀ o, A.heap[bp]? = some o → B.heap[bp]? = some o
theorem grown_of_ext {w w' : World} (e : Ext w w') : w.grownBy w' none := ⟨Below.os e, Below.tape e, Below.output e, e.size, fun _ hk _ => e.block hk⟩
set_option maxRecDepth 100000 in
set_option maxHeartbeats 4000000 in
theorem turns1_in {n B g bd bp : Nat} {s : List Hd} {t : List It} {l : List Sn} {w1 w : World} (p : ByteArray) (hn : 3 ≤ n) (hD : DiskAt B w1 g s t l) (h6 : l.length ≤ 6) (hp : p.size < lim) (hm : ML w1) (he : Ext w1 w)
    (hbd : w.cell? ⟨bd, 0, none⟩ = some (.pointer (some ⟨g, 0, none⟩))) (hbp : w.heap[bp]? = some (.cells #[.string p] 9 (0, 0))) :
    SeqStopsK Fence.wide n Tryz.prog 131 #[.pointer (some ⟨bd, 0, none⟩), .pointer (some ⟨bp, 0, none⟩)] encT (KpT w1.heap.size bp) (fun ys => ys.map Subtype.val = turnsL p none l) (fun _ => True) (turnsL p none l).length w := by
  intro lp J Jx W hW hJ hJx hY h0
  obtain ⟨b, adr, kv, v, aq, -, hDb, -, -, hO, hSn⟩ := hD
  have hal := hSn.1
  obtain ⟨A8, c8, rfl, hA8⟩ := hO.sl esp_ok (Nat.le_refl _) (by rw [hal]; unfold lim; omega)
  have heW := he.trans hW
  have c4 := hDb.at_ (i := 4) (u := .slice A8 aq.length c8) rfl W heW
  rw [hal] at c4
  have hbd1 := Ext.cell hW hbd
  have hbp1 : W.heap[bp]? = some (.cells #[.string p] 9 (0, 0)) := (Ext.block hW (heap_lt hbp)).trans hbp
  have HSn := Lib.hid hSn; have HA8 := Lib.hid hA8; have HM := Lib.hid hm; have HJ := Lib.hid hJ; have HJx := Lib.hid hJx; have HY := Lib.hid hY
  have hfn : ∀ k, Fence.wide.fn k := fun _ => trivial
  have h1n : 1 ≤ n := by omega
  generalize hnn : l.length = nl at *
  have Hn := Lib.hid hnn
  clear hSn hA8 hDb hO hnn hal hbd hbp hW hJ hJx hY he
  refine callsIn_of_wp Tryz.func131 rfl (hfn _) ?_ rfl
  simp only [Tryz.ntmps131, List.size_toArray, List.length_cons, List.length_nil, Nat.reduceAdd, Nat.reduceSub, Array.replicate_succ, Array.replicate_zero, List.push_toArray, List.append_toArray, List.nil_append, List.cons_append]
  gi_wp2
  gi_loopw [4, 14] (fun bv i wr => ∃ (k : Nat) (a : Option It) (pre : List TnS), k ≤ nl ∧ i = .int .i64 k ∧ Hid (∀ W, Ext w1 W → NodeIs 0 W bv p a) ∧ Hid (J pre wr) ∧ Ext w1 wr ∧ Hid (wr.heap[bp]? = some (.cells #[.string p] 9 (0, 0))) ∧ Hid (pre.map Subtype.val ++ turnsL p a (l.drop k) = turnsL p none l)) (fun _ i _ => nl - (RowKit.intOf i).toNat)
  case atStart => exact ⟨0, none, [], by omega, rfl, Lib.hid fun W _ => NodeIs.none _ _ _, Lib.hid h0, heW, Lib.hid hbp1, Lib.hid rfl⟩
  case round =>
    clear h0 hbp1 hbd1 c4
    obtain ⟨k, a, pre, hk, rfl, hN, hJp, he, hB, hL⟩ := hrel
    by_cases hlt : k < nl
    · obtain ⟨x, hx⟩ := get_of_lt (l := l) (k := k) (by rw [Hn.out]; exact hlt)
      obtain ⟨hns, hok, adr2, kv2, has, hT2, -⟩ := HSn.out.2 k x hx
      obtain ⟨b8, o8, rfl, -, hc0, hc1⟩ := Sps.at_ HA8.out has
      simp only at hc0 hc1
      have a0 := hc0 wr he; have a1 := hc1 wr he
      have hgr := treeOk_iff'.1 hok
      have ea : Ext wr (wr.alloc (.cells #[.string x.name, .pointer (some ⟨adr2 [], 0, none⟩)] 170)) := (Ext.refl wr).alloc _
      have hbs := Blk.new wr 170 #[.string x.name, .pointer (some ⟨adr2 [], 0, none⟩)]
      have s0 := fun W (e : Ext _ W) => hbs.at_ (i := 0) (u := .string x.name) rfl W e
      have hbc : ∀ W, Ext wr W → W.cell? ⟨bp, 0, none⟩ = some (.string p) := fun W e => Blk.at_ (show Blk wr bp 9 #[.string p] from hB.out) (i := 0) (u := .string p) rfl W e
      have z0 := hbc _ ea
      have Cf := nodeFind_c (hT2.ext (he.trans ea)) hgr.2 (by unfold lim; have := hgr.1; omega) p hp (HM.out.ext (he.trans ea))
      have HNx : Hid (∀ W, Ext w1 W → NodeIs 0 W (findV x.tree adr2 p) p (findIt x.tree p)) := Lib.hid fun W e => NodeIs.find ((hT2.ext e).low (Nat.zero_le _)) hok p
      have Hnx : Hid (turnsL p a (l.drop k) = (if turnK a (findIt x.tree p) = 0 then [] else [⟨x.name, turnK a (findIt x.tree p)⟩]) ++ turnsL p (findIt x.tree p) (l.drop (k + 1))) := Lib.hid (turnsL_drop p a hx)
      have hbk := turnK_bd a (findIt x.tree p)
      generalize findV x.tree adr2 p = fv at *
      generalize hfx : findIt x.tree p = b at *
      have Hfx := Lib.hid hfx
      have Ck : ∀ W, Ext w1 W → Calls Tryz.prog 132 #[_, fv] W (Ret (.int .i64 (turnK a b)) W) := fun W e => turnKind_c W (hN.out W e) (HNx.out W e)
      clear hx hc0 hc1 has hT2 hgr hbs hfx hok
      by_cases hz : turnK a b = 0
      · have Hnx2 : Hid (turnsL p a (l.drop k) = turnsL p b (l.drop (k + 1))) := Lib.hid (by rw [Hnx.out, if_pos hz]; rfl)
        rw [hz] at Ck
        clear hz hbk Hnx
        gi_wp2_with (first | (gi_at_call 59; refine (callsIn_wide.2 Cf).mono ?_; rintro e w2 ⟨rfl, he2⟩; have e2 := ea.trans he2) | (gi_at_call 132; refine (callsIn_wide.2 (Ck _ (he.trans e2))).mono ?_; rintro e w3 ⟨rfl, he3⟩; have e3 := e2.trans he3))
        go_roundw
        case rel => exact ⟨k + 1, b, pre, by omega, by go_num, HNx, Lib.hid (HJ.out pre wr w3 none hJp.out (grown_of_ext e3) (fun r h => by cases h)), he.trans e3, Lib.hid ((e3.block (heap_lt hB.out)).trans hB.out), Lib.hid (by rw [← Hnx2.out]; exact hL.out)⟩
        case measure => simp [RowKit.intOf]; omega
      · have Hnx2 : Hid (pre.map Subtype.val ++ turnsL p a (l.drop k) = (pre.map Subtype.val ++ [⟨x.name, turnK a b⟩]) ++ turnsL p b (l.drop (k + 1))) := Lib.hid (by rw [Hnx.out, if_neg hz, List.append_assoc])
        have hki : inI (turnK a b) := by unfold inI; omega
        have hlen : pre.length < (turnsL p none l).length := by
          rw [← hL.out, Hnx2.out, List.length_append, List.length_append, List.length_map]
          simp; omega
        generalize hkd : turnK a b = kd at *
        have hne : (kd != 0) = true := by simpa using hz
        clear hz hbk Hnx hkd
        gi_wp2_with (first | (gi_at_call 59; refine (callsIn_wide.2 Cf).mono ?_; rintro e w2 ⟨rfl, he2⟩; have e2 := ea.trans he2) | (gi_at_call 132; refine (callsIn_wide.2 (Ck _ (he.trans e2))).mono ?_; rintro e w3 ⟨rfl, he3⟩; have e3 := e2.trans he3; have y0 := s0 _ (he2.trans he3); have hJ3 : J pre w3 := HJ.out pre wr w3 none hJp.out (grown_of_ext e3) (fun r h => by cases h); obtain ⟨fn, tmps, assign, body, hy, hR⟩ := HY.out pre ⟨⟨x.name, kd⟩, hns, hki⟩ w3 hJ3 hlen; (unfold encT at hy; dsimp only at hy)))
        refine hR.mono ?_
        rintro e W' (⟨rfl, hJ', hk'⟩ | ⟨rfl, hJx'⟩)
        · have hE' : Ext w1 W' := Below.trans (he.trans e3) hk'.1
          have hB' := hk'.2 _ ((e3.block (heap_lt hB.out)).trans hB.out)
          clear hy hR
          gi_wp2
          go_roundw
          case rel => exact ⟨k + 1, b, pre ++ [⟨⟨x.name, kd⟩, hns, hki⟩], by omega, by go_num, HNx, Lib.hid hJ', hE', Lib.hid hB', Lib.hid (by rw [List.map_append, ← hL.out, Hnx2.out]; rfl)⟩
          case measure => simp [RowKit.intOf]; omega
        · clear hy hR
          gi_wp2
          refine bodyPost_ret (results_none rfl _ _ _) rfl ?_
          exact ⟨⟨_, rfl⟩, .inr ⟨_, trivial, hJx'⟩⟩
    · have hks : k = nl := by omega
      subst hks
      have hLe : Hid (pre.map Subtype.val = turnsL p none l) := Lib.hid (by
        rw [← hL.out, List.drop_eq_nil_of_le (by rw [Hn.out]; exact Nat.le_refl _)]
        cases a <;> simp [turnsL])
      gi_wp2
      go_end0
      exact ⟨⟨_, rfl⟩, .inl ⟨pre, hLe.out, hJp.out⟩⟩
set_option maxHeartbeats 1000000 in
theorem turns_c (v : Value) (p : ByteArray) (w : World) (hv : ∃ g, v = .pointer (some ⟨g, 0, none⟩)) : Calls Tryz.prog 89 #[v, .string p] w (fun e w' => e = .returned (.func (.func 131) #[] #[.pointer (some ⟨w.heap.size, 0, none⟩), .pointer (some ⟨w.heap.size + 1, 0, none⟩)]) ∧ w' = (w.alloc (.cells #[v] 102)).alloc (.cells #[.string p] 9)) := by
  obtain ⟨g, rfl⟩ := hv
  go_enter Tryz.func89, Tryz.ntmps89
  go_wp2
  go_ret
  exact ⟨rfl, rfl⟩
/-- turns as cells -/
def tnCells (pre : List TnS) : List Value := pre.flatMap fun x => [.string x.1.snap, .int .i64 x.1.kind]
theorem tnCells_snoc (pre : List TnS) (x : TnS) : tnCells (pre ++ [x]) = tnCells pre ++ [.string x.1.snap, .int .i64 x.1.kind] := by unfold tnCells; simp
theorem tnCells_at {pre : List TnS} {k : Nat} {x : TnS} (h : pre[k]? = some x) : (tnCells pre)[k * 2]? = some (.string x.1.snap) ∧ (tnCells pre)[k * 2 + 1]? = some (.int .i64 x.1.kind) := by
  induction pre generalizing k with
  | nil => simp at h
  | cons y r ih =>
    have e : tnCells (y :: r) = [.string y.1.snap, .int .i64 y.1.kind] ++ tnCells r := rfl
    rw [e]
    cases k with
    | zero => simp at h; subst h; exact ⟨rfl, rfl⟩
    | succ k =>
      rw [List.getElem?_cons_succ] at h
      obtain ⟨h1, h2⟩ := ih h
      rw [show (k + 1) * 2 = 2 + k * 2 by omega, show 2 + k * 2 + 1 = 2 + (k * 2 + 1) by omega]
      rw [List.getElem?_append_right (by simp), List.getElem?_append_right (by simp)]
      simp only [List.length_cons, List.length_nil, Nat.zero_add, Nat.reduceAdd, Nat.add_sub_cancel_left]
      exact ⟨h1, h2⟩
theorem tns_of_row {base : Nat} {w : World} {v : Value} {pre : List TnS} {L : List Tn} (h : w.ownsRow base 74 2 v pre.length (tnCells pre)) (hL : pre.map Subtype.val = L) (hl : pre.length ≤ lim) : Tns base w v L := by
  subst hL
  refine SlOf.of_own (by rw [List.length_map]; exact h) (Nat.le_refl _) (by rw [List.length_map]; exact hl) fun k x cs hx hj => ?_
  rw [List.getElem?_map, Option.map_eq_some_iff] at hx
  obtain ⟨y, hy, rfl⟩ := hx
  obtain ⟨h1, h2⟩ := tnCells_at hy
  have j0 := hj 0 (by omega); have j1 := hj 1 (by omega)
  rw [Nat.add_zero] at j0
  exact ⟨by rw [j0]; exact h1, y.2.1, by rw [j1]; exact h2, y.2.2⟩
theorem infoTn : (Tryz.prog.info? 74).map (fun i => (i.zero, i.size, i.bytes)) = some (some (.agg #[.string ⟨#[]⟩, .int .i64 0]), 2, 24) := by kernel_rfl
set_option maxRecDepth 100000 in
set_option maxHeartbeats 4000000 in
theorem HistoryOf_c {B B' B2 : Nat} {vs vt vn : Value} {s : List Hd} {t : List It} {l : List Sn} (p : ByteArray) (w : World) (hs : Hds B w vs s) (ht : Its B' w vt t) (hn : Sns B2 w vn l) (hp : p.size < lim) (hm : ML w) :
    Calls Tryz.prog 42 #[.agg #[vs, vt, vn], .string p] w (RetP (fun r w' => Tns w.heap.size w' r (histOf s t l p)) w) := by
  have HS := Lib.hid hs; have HT := Lib.hid ht; have HN := Lib.hid hn; have HM := Lib.hid hm
  obtain ⟨A, c, rfl, -⟩ := hs
  obtain ⟨A2, c2, rfl, -⟩ := ht
  obtain ⟨A3, c3, rfl, -⟩ := hn
  have e0 : Ext w (w.alloc (.cells #[.slice A s.length c, .slice A2 t.length c2, .slice A3 l.length c3] 40)) := (Ext.refl w).alloc _
  have Cn := newDisk_c _ (HS.out.ext e0) (HT.out.ext e0) (HN.out.ext e0) (HM.out.ext e0)
  have hfn : ∀ k, Fence.wide.fn k := fun _ => trivial
  obtain ⟨n, hn6⟩ : ∃ n, n = 8 := ⟨_, rfl⟩
  have h1n : 1 ≤ n := by omega
  clear hm
  refine (callsIn_wide (n := n)).1 ?_
  refine callsIn_of_wp_marks Tryz.func42 rfl (hfn _) ?_ rfl
  simp only [Tryz.ntmps42, List.size_toArray, List.length_cons, List.length_nil, Nat.reduceAdd, Nat.reduceSub, Array.replicate_succ, Array.replicate_zero, List.push_toArray, List.append_toArray, List.nil_append, List.cons_append]
  gi_wp2_with fail
  refine (callsIn_wide.2 Cn).mono ?_
  rintro e w1 ⟨he1, ⟨hv, rfl⟩ | ⟨hv, g, rfl, hD⟩⟩
  · have Hr : Hid (histOf s t l p = []) := Lib.hid (by unfold histOf; rw [hv, if_neg (by simp)])
    clear hv Cn
    gi_wp2
    refine ⟨_, results_tmp rfl _ _ _, _, rfl, ?_, e0.trans he1⟩
    rw [Hr.out]
    exact SlOf.nil _ _ _ _ _
  have Hv := Lib.hid hv
  have h6 := (disk_parts hv).2.2.2.1
  have E1 := e0.trans he1
  have HD := Lib.hid (hD.low (Nat.zero_le _))
  have Cp := PathValid_c p w1 hp (HM.out.ext E1)
  clear hv Cn hD
  cases hpo : pathOk p with
  | false =>
    rw [hpo] at Cp
    have Hr : Hid (histOf s t l p = []) := Lib.hid (by unfold histOf; rw [hpo, if_neg (by simp)])
    clear hpo
    gi_wp2_with (gi_at_call 88; refine (callsIn_wide.2 Cp).mono ?_; rintro e w2 ⟨rfl, he2⟩)
    refine ⟨_, results_tmp rfl _ _ _, _, rfl, ?_, E1.trans he2⟩
    rw [Hr.out]
    exact SlOf.nil _ _ _ _ _
  | true =>
    rw [hpo] at Cp
    have Hr : Hid (histOf s t l p = turnsL p none l) := Lib.hid (by unfold histOf; rw [if_pos ⟨Hv.out, hpo⟩])
    clear hpo
    gi_wp2_with (first | (gi_at_call 88; refine (callsIn_wide.2 Cp).mono ?_; rintro e w2 ⟨rfl, he2⟩) | (gi_at_call 89; refine (callsIn_wide.2 (turns_c _ p _ ⟨g, rfl⟩)).mono ?_; rintro e w3 ⟨rfl, rfl⟩))
    obtain ⟨W0, hW0⟩ : ∃ W0, ((w2.alloc (.cells #[.slice none 0 0] 70)).alloc (.cells #[.pointer (some ⟨g, 0, none⟩)] 102)).alloc (.cells #[.string p] 9) = W0 := ⟨_, rfl⟩
    have bL := ((Boxed.new w2 70 (.slice none 0 0)).alloc (.cells #[.pointer (some ⟨g, 0, none⟩)] 102)).alloc (.cells #[.string p] 9)
    have bD := (Boxed.new (w2.alloc (.cells #[.slice none 0 0] 70)) 102 (.pointer (some ⟨g, 0, none⟩))).alloc (.cells #[.string p] 9)
    have bP := Boxed.new ((w2.alloc (.cells #[.slice none 0 0] 70)).alloc (.cells #[.pointer (some ⟨g, 0, none⟩)] 102)) 9 (.string p)
    have hE0 : Ext w2 (((w2.alloc (.cells #[.slice none 0 0] 70)).alloc (.cells #[.pointer (some ⟨g, 0, none⟩)] 102)).alloc (.cells #[.string p] 9)) := (((Ext.refl w2).alloc _).alloc _).alloc _
    have hsz : (((w2.alloc (.cells #[.slice none 0 0] 70)).alloc (.cells #[.pointer (some ⟨g, 0, none⟩)] 102)).alloc (.cells #[.string p] 9)).heap.size = w2.heap.size + 3 := by simp
    simp only [World.size_alloc] at bD bP
    rw [hW0] at bL bD bP hE0 hsz ⊢
    clear hW0 Cp
    obtain ⟨i0, hi, hz0, hz1, hz2⟩ := info_parts infoTn
    have Hs := turns1_in (n := n - 1) p (by omega) HD.out h6 hp (HM.out.ext E1) (he2.trans hE0) bD.cell bP
    have hlen : Hid ((turnsL p none l).length ≤ 6) := Lib.hid (Nat.le_trans (turnsL_len p l none) h6)
    have E2 := Lib.hid (E1.trans he2)
    have Hsz := Lib.hid hsz
    have h12 := he2.size
    clear hsz
    refine wpIn_rangeFunc_ownH rfl h1n (gf := 131) (lb := #[.pointer (some ⟨w2.heap.size + 1, 0, none⟩), .pointer (some ⟨w2.heap.size + 1 + 1, 0, none⟩)]) rfl (hfn _) (enters_of Tryz.func131 (by kernel_rfl) rfl)
      Hs (fun h k => ⟨h.1.trans k.1, fun o ho => k.2 o (h.2 o ho)⟩)
      (fun W l o o' hl hWl hc hw => ⟨belowK_b (w := W0) (by rw [Hsz.out]; omega) W l o o' hl hWl hc hw, fun q hq => (World.putObj_heap_other (by rw [Hsz.out] at hl; omega)).trans hq⟩)
      (Below.refl _ _) (fun _ => rfl)
      (fun pre W => ((∃ v, Boxed W w2.heap.size 70 v ∧ W.ownsRow w2.heap.size 74 2 v pre.length (tnCells pre) ∧ True) ∧ Boxed W (w2.heap.size + 1 + 1) 9 (.string p)) ∧ Below w2.heap.size w2 W)
      (fun _ _ _ => False)
      (OwnFrom.and (OwnFrom.and (Own.from (holdsRow_own w2.heap.size w2.heap.size 70 74 2 (fun pre : List TnS => pre.length) (fun pre => tnCells pre) (fun _ _ => True)) _) (Own.from (boxed_own (w2.heap.size + 1 + 1) 9 (fun _ => .string p)) _)) (ownFrom_below (Nat.le_refl _) (by rw [Hsz.out]; omega)))
      (fun _ _ _ _ _ hs _ _ => hs)
      ⟨⟨⟨_, bL, World.ownsRow_nil _ _ _ _, trivial⟩, bP⟩, hE0⟩
      (fun x a' W => ∃ Bx, W.heap[Bx]? = some (.cells #[.string x.1.snap, .int .i64 x.1.kind] 74 (0, 0)) ∧ a' = { tmps := #[.agg #[.slice A s.length c, .slice A2 t.length c2, .slice A3 l.length c3], .string p, .pointer (some ⟨w.heap.size, 0, none⟩), undef, .slice none 0 0, .pointer (some ⟨g, 0, none⟩), .bool true, .pointer (some ⟨w2.heap.size, 0, none⟩), .pointer (some ⟨Bx, 0, none⟩),
          .tuple #[.pointer (some ⟨g, 0, none⟩), .bool true], .agg #[.slice A s.length c, .slice A2 t.length c2, .slice A3 l.length c3], .tuple #[.pointer (some ⟨g, 0, none⟩), .bool true], .pointer (some ⟨g, 0, none⟩), .bool true, .bool true, .bool false, .bool false, .string p, .bool true, .bool false, .bool false, .pointer (some ⟨g, 0, none⟩), .string p,
          .func (.func 131) #[] #[.pointer (some ⟨w2.heap.size + 1, 0, none⟩), .pointer (some ⟨w2.heap.size + 1 + 1, 0, none⟩)], .agg #[.string x.1.snap, .int .i64 x.1.kind], undef, undef, undef, undef, undef], defers := [] })
      (fun x a' => by
        intro _ W W' row hs hg hr
        obtain ⟨Bx, h1, h2⟩ := hs
        have hne : some Bx ≠ row := fun e => by
          obtain ⟨-, o, ho, hc⟩ := hr Bx e.symm
          rw [h1] at ho
          cases ho; cases hc
        exact ⟨Bx, (hg.block Bx (heap_lt h1) hne).trans h1, h2⟩)
      ?assign ?body ?done ?stop
    case assign =>
      rintro lq pre x W K ⟨⟨⟨v, hv, hrow, -⟩, hbp⟩, hB⟩ hK
      dsimp only [encT]
      gi_wp2
      exact hK _ _ ((KeepsOthers.alloc _ _).from _) ⟨(Below.refl _ W).alloc (Nat.le_trans h12 hB.size) _, fun o ho => (Below.heap_alloc _ _ _ (heap_lt ho)).trans ho⟩
        ⟨⟨⟨v, hv.alloc _, hrow.alloc _, trivial⟩, hbp.alloc _⟩, hB.alloc hB.size _⟩ ⟨W.heap.size, Blk.new W 74 #[.string x.1.snap, .int .i64 x.1.kind], rfl⟩
    case body =>
      rintro lq pre x a' W hlq hr ⟨⟨⟨v, hv, hrow, -⟩, hbp⟩, hB⟩ ⟨Bx, hbx, rfl⟩ hlt
      have hc := hv.cell
      have hbx' : Blk W Bx 74 #[.string x.1.snap, .int .i64 x.1.kind] := hbx
      have hx0 := hbx'.cell 0; have hx1 := hbx'.cell 1
      simp at hx0 hx1
      have hpl : pre.length ≤ 6 := by have := hlen.out; omega
      have hmx : pre.length + 1 ≤ maxLen := by unfold maxLen; omega
      have hbs : w2.heap.size ≤ (W.alloc (.cells #[.string x.1.snap, .int .i64 x.1.kind] 74)).heap.size := by have := hB.size; simp; omega
      gi_wp2_with (gi_at_builtin; refine wpListIn_append_own _ rfl _ _ 70 rfl w2.heap.size 74 i0 (.agg #[.string ⟨#[]⟩, .int .i64 0]) 2 24 Tryz.underlying70 hi hz0 hz1 hz2 rfl (by decide) _ _ _ rfl (hrow.alloc _) ⟨W.heap.size, 0, none⟩ 1 1 [.string x.1.snap, .int .i64 x.1.kind] rfl rfl (cell_two_new _ _ _ _) (by simp [Value.oneCell']) hmx (by omega) hbs ?_; intro v' wz hown' hgrow _; obtain ⟨g', cap', rfl⟩ := ownsRow_succ hown'; obtain ⟨hv1, hv2, hr2, hk2, hb2⟩ := hv.appended (by decide) hrow hB.size (Nat.le_refl _) hown' hgrow; have hp1 : Boxed wz (w2.heap.size + 1 + 1) 9 (.string p) := (hbp.alloc _).kept hgrow (hbp.not_row (by decide) hrow); have hc1 := hv1.cell; have hf1 := hv1.frozen)
      have hp2 := hp1.kept (grownBy_setCell' wz w2.heap.size (.slice (some ⟨g', 0, none⟩) (pre.length + 1) cap')) (fun e => by simp at e; omega)
      exact ⟨hk2.from _, ⟨hb2.mono h12, fun o ho => by
        rw [show W.heap[w2.heap.size + 1 + 1]? = _ from hbp] at ho
        cases ho; exact hp2⟩, ⟨⟨_, hv2, by rw [tnCells_snoc, List.length_append]; exact hr2, trivial⟩, hp2⟩, hB.trans hb2⟩
    case done =>
      rintro D ys W hD hys ⟨⟨⟨v, hv, hrow, -⟩, hbp⟩, hB⟩ hK
      have hc := hv.cell
      gi_wp2
      refine ⟨by simp, .inl ⟨_, _, rfl, run_takeDeferred hK, ?_⟩⟩
      have hyl : ys.length ≤ 6 := by have h1 := congrArg List.length hys; rw [List.length_map] at h1; have := hlen.out; omega
      refine ⟨_, results_tmp rfl _ _ _, v, rfl, ?_, Below.trans (E2.out.trans hB) (belowK_b (w := w) (Nat.le_refl _) W D _ _ (by rw [Hsz.out] at hD; have := E2.out.size; omega) hK rfl rfl)⟩
      rw [Hr.out]
      exact (tns_of_row (ownsRow_putObj hrow _ hK rfl) hys (by unfold lim; omega)).keep E2.out.size (fun _ _ _ => rfl)
    case stop =>
      rintro D cc pre W hD _ h _
      exact h.elim
end Go.Sf
