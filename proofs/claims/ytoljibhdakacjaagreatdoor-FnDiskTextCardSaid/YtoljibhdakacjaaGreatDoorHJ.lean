/- How many bytes the files of a directory have: the reference and the program. -/
import Derived.Test.YtoljibhdakacjaaGreatDoorHI
import Derived.Test.YtoljibhdakacjaaGreatDoorGJ
import Derived.Test.YtoljibhdakacjaaGreatDoorGK
import Derived.Test.YtoljibhdakacjaaGreatDoorGS
import Derived.Test.YtoljibhdakacjaaGreatDoorGC
import Derived.Test.YtoljibhdakacjaaGreatDoorGE
import Derived.Test.YtoljibhdakacjaaGreatDoorHE
import Derived.Test.YtoljibhdakacjaaGreatDoorHG
import Derived.RangeFuncNested
import Derived.RangeFuncBox
import Derived.RangeFuncBound
import Derived.RangeFuncCalls
import Derived.RangeFuncLeaves
import Derived.Shelf.Abstract
import Derived.Shelf.RegionOpen
import Derived.WalkKit
import Derived.OwnWalkIn
import Derived.TacticsInMore
import Derived.LoopNIn
import Derived.LoopIn
import Derived.Maps.AppendAt
/-! How many bytes the files of a directory have: the reference and the program. -/
namespace Go.Sf
open Go Go.RowKit Go.Proofs Go.Maps
def dirOk (d : ByteArray) : Bool := eqb d ⟨#[]⟩ || pathOk d
noncomputable def useOf (s : List Hd) (d : ByteArray) (x : It) : Nat := if within x.path d = true then (loadOf s x.ids).length else 0
noncomputable def useBut (s : List Hd) (d but : ByteArray) (x : It) : Nat := if x.path = but then 0 else useOf s d x
noncomputable def usedBut (s : List Hd) (t : List It) (d but : ByteArray) : Nat := (t.map (useBut s d but)).sum
noncomputable def usedT (s : List Hd) (t : List It) (d : ByteArray) : Nat := (t.map (useOf s d)).sum
noncomputable def quotaU (s : List Hd) (t : List It) (l : List Sn) (d : ByteArray) : Int := if diskOk s t l = true ∧ dirOk d = true then (usedT s t d : Nat) else -1
theorem sum_take {α : Type} (f : α → Nat) {l : List α} {k : Nat} {x : α} (h : l[k]? = some x) : ((l.take (k + 1)).map f).sum = ((l.take k).map f).sum + f x := by
  rw [List.take_add_one, h]; simp
theorem load32 {s : List Hd} (hs : StoreOk s) {ids : List Int} (h : IdsFit s ids) : (loadOf s ids).length ≤ 32 := by
  have := loadOf_len hs ids
  have := h.1
  omega
theorem use_le {s : List Hd} (hs : StoreOk s) {d : ByteArray} {x : It} (h : IdsFit s x.ids) : useOf s d x ≤ 32 := by
  unfold useOf; split
  · exact load32 hs h
  · omega
theorem sum_le2 {α : Type} (f : α → Nat) (b : Nat) (l : List α) (h : ∀ x, x ∈ l → f x ≤ b) : (l.map f).sum ≤ l.length * b := by
  induction l with
  | nil => simp
  | cons a l ih =>
    have h1 := h a (by simp)
    have h2 := ih fun x hx => h x (by simp [hx])
    rw [List.map_cons, List.sum_cons, List.length_cons, Nat.add_mul, Nat.one_mul]
    omega
theorem used_take_le {s : List Hd} (hs : StoreOk s) {t : List It} (hf : ∀ x, x ∈ t → IdsFit s x.ids) (h12 : t.length ≤ 12) (d : ByteArray) (k : Nat) : ((t.take k).map (useOf s d)).sum ≤ 384 := by
  have h1 := sum_le2 (useOf s d) 32 (t.take k) fun x hx => use_le hs (hf x (List.mem_of_mem_take hx))
  have h2 : (t.take k).length ≤ 12 := Nat.le_trans (List.length_take_le' _ _) h12
  omega
theorem usedb_take_le {s : List Hd} (hs : StoreOk s) {t : List It} (hf : ∀ x, x ∈ t → IdsFit s x.ids) (h12 : t.length ≤ 12) (d but : ByteArray) (k : Nat) : ((t.take k).map (useBut s d but)).sum ≤ 384 := by
  have h1 := sum_le2 (useBut s d but) 32 (t.take k) fun x hx => by
    unfold useBut; split
    · omega
    · exact use_le hs (hf x (List.mem_of_mem_take hx))
  have h2 : (t.take k).length ≤ 12 := Nat.le_trans (List.length_take_le' _ _) h12
  omega
theorem path_ne {p : ByteArray} (h : pathOk p = true) : p ≠ ⟨#[]⟩ := by
  rintro rfl
  exact absurd h (by decide)
theorem used_none {s : List Hd} {t : List It} (ht : treeOk t = true) (d : ByteArray) : usedBut s t d ⟨#[]⟩ = usedT s t d := by
  unfold usedBut usedT
  congr 1
  refine List.map_congr_left fun x hx => ?_
  unfold useBut
  rw [if_neg (path_ne (itemOk_path ((treeOk_iff'.1 ht).2.fits hx).1))]
set_option maxHeartbeats 1000000 in
theorem l1Dir_c (d : ByteArray) (w : World) (hd : d.size < lim) : Calls Tryz.prog 56 #[.string d] w (Ret (.bool (dirOk d)) w) := by
  have Cp := fun W => specPathValid_c d W hd
  by_cases h : d = ⟨#[]⟩
  · subst h
    clear Cp
    go_enter Tryz.func56, Tryz.ntmps56
    go_wp2
    go_ret
    exact ⟨ret_b (by simp [dirOk, eqb_iff]), Ext.refl w⟩
  · have hb : (d.toList == (⟨#[]⟩ : ByteArray).toList) = false := by rw [bytes_ne_iff, decide_eq_false_iff_not]; exact h
    have Hr : Hid (pathOk d = dirOk d) := Lib.hid (by unfold dirOk; rw [eqb_false.2 h, Bool.false_or])
    have hb2 : d.toList.isEmpty = false := emp_false fun e => h (bl_inj (e.trans (by decide)))
    go_enter Tryz.func56, Tryz.ntmps56
    go_wp2_with (go_at_call 64; refine (Cp _).mono ?_; rintro e w2 ⟨rfl, he2⟩)
    go_ret
    exact ⟨ret_b Hr.out, he2⟩
set_option maxHeartbeats 1000000 in
theorem dirValid_c (d : ByteArray) (w : World) (hd : d.size < lim) (hm : ML w) : Calls Tryz.prog 58 #[.string d] w (Ret (.bool (dirOk d)) w) := by
  have Cp := PathValid_c d w hd hm
  by_cases h : d = ⟨#[]⟩
  · subst h
    clear Cp hm
    go_enter Tryz.func58, Tryz.ntmps58
    go_wp2
    go_ret
    exact ⟨ret_b (by simp [dirOk, eqb_iff]), Ext.refl w⟩
  · have hb : (d.toList == (⟨#[]⟩ : ByteArray).toList) = false := by rw [bytes_ne_iff, decide_eq_false_iff_not]; exact h
    have Hr : Hid (pathOk d = dirOk d) := Lib.hid (by unfold dirOk; rw [eqb_false.2 h, Bool.false_or])
    have hb2 : d.toList.isEmpty = false := emp_false fun e => h (bl_inj (e.trans (by decide)))
    have HM := Lib.hid hm
    clear hm
    go_enter Tryz.func58, Tryz.ntmps58
    go_wp2_with (go_at_call 61; refine Cp.mono ?_; rintro e w2 ⟨rfl, he2⟩)
    go_ret
    exact ⟨ret_b Hr.out, he2⟩
set_option maxRecDepth 8000 in
set_option maxHeartbeats 2000000 in
theorem l15Used_c {B B' B2 : Nat} {vs vt vn : Value} {s : List Hd} {t : List It} {l : List Sn} (d but : ByteArray) (w : World) (hs : Hds B w vs s) (ht : Its B' w vt t) (hn : Sns B2 w vn l) (hS : StoreOk s) (hf : ∀ x, x ∈ t → IdsFit s x.ids) (h12 : t.length ≤ 12) (hd : d.size < lim) :
    Calls Tryz.prog 50 #[.agg #[vs, vt, vn], .string d, .string but] w (Ret (.int .i64 (usedBut s t d but : Nat)) w) := by
  have HS := Lib.hid hs
  have HF := Lib.hid hf; have HO := Lib.hid hS
  obtain ⟨A, c, rfl, -⟩ := hs
  obtain ⟨A2, c2, rfl, hA⟩ := ht
  obtain ⟨A3, c3, rfl, -⟩ := hn
  have e0 : Ext w (w.alloc (.cells #[.slice A s.length c, .slice A2 t.length c2, .slice A3 l.length c3] 27)) := (Ext.refl w).alloc _
  have hbk := Blk.new w 27 #[.slice A s.length c, .slice A2 t.length c2, .slice A3 l.length c3]
  have d0 := fun W (e : Ext _ W) => hbk.at_ (i := 0) (u := .slice A s.length c) rfl W e
  have d1 := fun W (e : Ext _ W) => hbk.at_ (i := 1) (u := .slice A2 t.length c2) rfl W e
  have HA := Lib.hid hA
  have hbd := Lib.hid (usedb_take_le hS hf h12 d but)
  clear hbk hA hS hf
  generalize hnn : t.length = n at *
  have Hn := Lib.hid hnn; clear hnn
  go_enter Tryz.func50, Tryz.ntmps50
  go_wp2
  go_loopw [7, 8] (fun o i wr => ∃ k : Nat, k ≤ n ∧ i = .int .i64 k ∧ o = .int .i64 (((t.take k).map (useBut s d but)).sum : Nat) ∧ Ext (w.alloc (.cells #[.slice A s.length c, .slice A2 n c2, .slice A3 l.length c3] 27)) wr) (fun _ i _ => n - (RowKit.intOf i).toNat)
  case atStart => exact ⟨0, by omega, rfl, rfl, Ext.refl _⟩
  case round =>
    obtain ⟨k, hk, rfl, rfl, he⟩ := hrel
    have q1 := d1 wr he
    by_cases hlt : k < n
    · obtain ⟨x, hx⟩ := get_of_lt (l := t) (k := k) (by rw [Hn.out]; exact hlt)
      obtain ⟨b, o, u, rfl, -, -, hps, hu, hc0, -, hc2⟩ := Its.at_ HA.out hx
      have HU := Lib.hid hu
      have hfit := HF.out x (List.mem_of_getElem? hx)
      have h32 := load32 HO.out hfit
      have a0 := fun W (e : Ext wr W) => hc0 W ((e0.trans he).trans e)
      have a2 := fun W (e : Ext wr W) => hc2 W ((e0.trans he).trans e)
      obtain ⟨Au, cu, rfl, -⟩ := hu
      have D0 := fun W (e : Ext wr W) => d0 W (he.trans e)
      have D1 := fun W (e : Ext wr W) => d1 W (he.trans e)
      have Cw := fun W => l1Within_c x.path d W hps hd
      have Cl := fun W (e : Ext wr W) => l4Load_c W HO.out hfit (HS.out.ext ((e0.trans he).trans e)) (HU.out.ext ((e0.trans he).trans e))
      have hst := sum_take (useBut s d but) hx
      have hb0 := hbd.out k
      generalize ((t.take k).map (useBut s d but)).sum = acc at *
      have aa0 := a0 wr (Ext.refl _)
      cases hwi : within x.path d with
      | false =>
        rw [hwi] at Cw
        have hst2 : useBut s d but x = 0 := by
          unfold useBut useOf; rw [hwi]; simp
        have hst := hst.trans (by rw [hst2]; rfl : _ = acc)
        have Hst := Lib.hid hst
        clear hst hst2 hx hc0 hc2 hwi Cl
        go_wp2_with (go_at_call 65; refine (Cw _).mono ?_; rintro e w2 ⟨rfl, he2⟩)
        go_roundw
        case rel => exact ⟨k + 1, by omega, by go_num, by rw [Hst.out], he.trans he2⟩
        case measure => simp [RowKit.intOf]; omega
      | true =>
        rw [hwi] at Cw
        by_cases hpb : x.path = but
        · have hst2 : useBut s d but x = 0 := by
            unfold useBut; rw [if_pos hpb]
          have hb : (x.path.toList != but.toList) = false := by rw [hpb]; simp
          have hb1 : (x.path.toList == but.toList) = true := by rw [hpb]; simp
          have hst := hst.trans (by rw [hst2]; rfl : _ = acc)
          have Hst := Lib.hid hst
          clear hst hst2 hx hc0 hc2 hwi Cl hpb
          go_wp2_with (go_at_call 65; refine (Cw _).mono ?_; rintro e w2 ⟨rfl, he2⟩; have r1 := D1 w2 he2; have r2 := a0 w2 he2)
          go_roundw
          case rel => exact ⟨k + 1, by omega, by go_num, by rw [Hst.out], he.trans he2⟩
          case measure => simp [RowKit.intOf]; omega
        · have hst2 : useBut s d but x = (loadOf s x.ids).length := by
            unfold useBut useOf; rw [if_neg hpb, if_pos hwi]
          have hb1 : (x.path.toList == but.toList) = false := by rw [bytes_ne_iff, decide_eq_false_iff_not]; exact hpb
          have hb : (x.path.toList != but.toList) = true := by simp [bne, hb1]
          rw [hst2] at hst
          have Hst := Lib.hid hst
          clear hst hst2 hx hc0 hc2 hwi hpb
          generalize hll : (loadOf s x.ids).length = ll at *
          go_wp2_with (go_at_call 65; refine (Cw _).mono ?_; rintro e w2 ⟨rfl, he2⟩; have r1 := D1 w2 he2; have r2 := a0 w2 he2)
          refine wp_region_hold (fun W => W.cell? ⟨w.heap.size, 0, none⟩ = some (.slice A s.length c) ∧ W.cell? ⟨w.heap.size, 1, none⟩ = some (.slice (some ⟨b, o, none⟩) n c2) ∧ W.cell? ⟨b, o + k * 3 + 2, none⟩ = some (.slice Au x.ids.length cu)) 11 [(0, true), (1, true), (2, true), (3, true), (4, true), (5, true), (6, true), (7, true), (8, true), (9, false), (10, true)] (by kernel_rfl) (by kernel_rfl) ?_ ?_
          · exact ⟨D0 _ he2.drew, D1 _ he2.drew, a2 _ he2.drew⟩
          (repeat (first | (apply hw_read (by rfl) (by rfl); (· (intro W hW; (try dsimp only at hW); go_simp; (first | done | rfl | (rw [if_pos] <;> first | omega | rfl)))); (try simp only [Act.put, List.setIfInBounds_toArray, List.set_cons_zero, List.set_cons_succ])) | (refine hw_skip (by rfl) (by rfl) ?_; (try simp only [Act.put, List.setIfInBounds_toArray, List.set_cons_zero, List.set_cons_succ]))))
          refine hw_step (by rfl) ?_
          go_wp2_with (go_at_call 99; refine (Cl _ he2.drew).mono ?_; rintro e w4 ⟨u9, rfl, ⟨A9, c9, rfl, -⟩, he9⟩)
          have he5 := he2.drew.trans he9
          (try rw [hll])
          refine ⟨⟨D0 _ he5, D1 _ he5, a2 _ he5⟩, ?_⟩
          (repeat (first | (apply hw_read (by rfl) (by rfl); (· (intro W hW; (try dsimp only at hW); go_simp; (first | done | rfl | (rw [if_pos] <;> first | omega | rfl)))); (try simp only [Act.put, List.setIfInBounds_toArray, List.set_cons_zero, List.set_cons_succ])) | (refine hw_skip (by rfl) (by rfl) ?_; (try simp only [Act.put, List.setIfInBounds_toArray, List.set_cons_zero, List.set_cons_succ]))))
          (refine hw_nil ?_; (try simp only [List.drop_succ_cons, List.drop_zero]))
          go_wp2
          refine NoPanic.normal ?_
          (try dsimp only [Exit.then])
          (try go_wp2)
          go_roundw
          case rel => exact ⟨k + 1, by omega, by go_num, by rw [Hst.out]; go_num, he.trans he5⟩
          case measure => simp [RowKit.intOf]; omega
    · have hks : k = n := by omega
      subst hks
      have Hf : Hid (((t.take k).map (useBut s d but)).sum = usedBut s t d but) := Lib.hid (by rw [List.take_of_length_le (by rw [Hn.out]; exact Nat.le_refl _)]; rfl)
      generalize ((t.take k).map (useBut s d but)).sum = acc at *
      go_wp2
      go_ret
      exact ⟨by rw [← Hf.out]; rfl, e0.trans he⟩
set_option maxRecDepth 4000 in
set_option maxHeartbeats 2000000 in
theorem sizeOf_c {B B' b n : Nat} {v : Value} {s : List Hd} {ids : List Int} (w : World) (hs : StoreOk s) (h : StoreAt B b n s w) (hi : Ints B' w v ids) (hfit : IdsFit s ids) :
    Calls Tryz.prog 62 #[.map (some b), v] w (Ret (.int .i64 ((loadOf s ids).length : Nat)) w) := by
  obtain ⟨M, hV, hM⟩ := h
  have HV : Hid (∀ W, Ext w W → MapV Tryz.prog 3 b n M W) := Lib.hid fun W e => hV.ext e
  have HMd := Lib.hid hM; have HS := Lib.hid hs; have HFit := Lib.hid hfit
  obtain ⟨A2, c2, rfl, hA2⟩ := hi
  have hn4 : ids.length ≤ 4 := hfit.1
  generalize hn : ids.length = m at *
  have Hn := Lib.hid hn; have HA2 := Lib.hid hA2
  clear hn hA2 hs hV hM hfit
  go_enter Tryz.func62, Tryz.ntmps62
  go_wp2
  go_loopw [5, 10] (fun o i wr => ∃ k : Nat, k ≤ m ∧ i = .int .i64 k ∧ o = .int .i64 ((loadOf s (ids.take k)).length : Nat) ∧ Ext w wr) (fun _ i _ => m - (RowKit.intOf i).toNat)
  case atStart => exact ⟨0, by omega, rfl, rfl, Ext.refl _⟩
  case round =>
    obtain ⟨k, hk, rfl, rfl, he⟩ := hrel
    by_cases hlt : k < m
    · obtain ⟨x, hx⟩ := get_of_lt (l := ids) (k := k) (by rw [Hn.out]; exact hlt)
      obtain ⟨b2, o, rfl, -, -, hxi, hc⟩ := Ints.at_ HA2.out hx
      have a0 := hc wr he
      obtain ⟨y, hfy, -⟩ := HFit.out.2 k x hx
      obtain ⟨u, hr, hu⟩ := (HMd.out x).2 y hfy
      have hy8 := block8 HS.out hfy
      have Ht : Hid ((loadOf s (ids.take (k + 1))).length = (loadOf s (ids.take k)).length + y.bytes.length) := Lib.hid (by rw [loadOf_take hx hfy, List.length_append])
      obtain ⟨Ay, cy, rfl, -⟩ := hu
      obtain ⟨yk, yb, yu⟩ := y
      simp only at hr Ht hy8
      have hkey := keyI hxi
      have hVr := HV.out wr he
      have hlb : (loadOf s (ids.take k)).length ≤ 32 := by
        have := loadOf_len HS.out (ids.take k)
        rw [List.length_take] at this
        omega
      generalize (loadOf s (ids.take k)).length = acc at *
      clear hc hx hfy
      have hfd : ∀ W : World, (Instr.field 110 (.agg #[.int .i64 yk, .slice Ay yb.length cy, .int .i64 yu]) 1).run Tryz.prog W = .ok (.slice Ay yb.length cy) W := fun _ => by kernel_rfl
      go_wp2_with (at_lookup; refine wp_mlook_some rfl _ _ rfl lawI underStore (zeroHd _) rfl hVr _ _ rfl hkey hr ?_)
      go_roundw
      case rel => exact ⟨k + 1, by omega, by go_num, by rw [Ht.out]; go_num, he.trans (by (repeat' (first | exact Ext.refl _ | assumption | refine Ext.alloc ?_ _ | refine Ext.drew ?_ | refine Ext.drewN ?_ _)))⟩
      case measure => simp [RowKit.intOf]; omega
    · have hks : k = m := by omega
      subst hks
      have Hf : Hid ((loadOf s (ids.take k)).length = (loadOf s ids).length) := Lib.hid (by rw [List.take_of_length_le (by rw [Hn.out]; exact Nat.le_refl _)])
      generalize (loadOf s (ids.take k)).length = acc at *
      go_wp2
      go_ret
      exact ⟨by rw [← Hf.out]; rfl, he⟩
set_option maxRecDepth 8000 in
set_option maxHeartbeats 2000000 in
theorem used_c {B b n : Nat} {s : List Hd} {t : List It} {adr : Key → Nat} {kv : Key → Value} (d : ByteArray) (w : World) (hS : StoreOk s) (h : StoreAt B b n s w) (ht : treeOk t = true) (hT : TreeAt B w t adr kv) (hf : ∀ x, x ∈ t → IdsFit s x.ids) (hd : d.size < lim) (hm : ML w) :
    Calls Tryz.prog 48 #[.agg #[.map (some b), .pointer (some ⟨adr [], 0, none⟩)], .string d] w (Ret (.int .i64 (usedT s t d : Nat)) w) := by
  have hg := treeOk_iff'.1 ht
  have h12 := hg.1
  have HSt := Lib.hid h; have HF := Lib.hid hf; have HO := Lib.hid hS; have HM := Lib.hid hm; have HG := Lib.hid hg.2
  have e0 : Ext w (w.alloc (.cells #[.map (some b), .pointer (some ⟨adr [], 0, none⟩)] 83)) := (Ext.refl w).alloc _
  have hbk := Blk.new w 83 #[.map (some b), .pointer (some ⟨adr [], 0, none⟩)]
  have d0 := fun W (e : Ext _ W) => hbk.at_ (i := 0) (u := .map (some b)) rfl W e
  have Cl := list_c (hT.ext e0) hg.2 hg.1
  have hbd := Lib.hid (used_take_le hS hf h12 d)
  clear hbk h hT hf hS hm hg ht
  go_enter Tryz.func48, Tryz.ntmps48
  go_wp2_with fail
  refine Cl.mono ?_
  rintro e w1 ⟨v1, rfl, hI, he1⟩
  obtain ⟨A2, c2, rfl, hA⟩ := hI
  have HA := Lib.hid hA
  generalize hnn : t.length = n2 at *
  have Hn := Lib.hid hnn
  clear hnn hA Cl
  go_wp2
  go_loopw [5, 12] (fun o i wr => ∃ k : Nat, k ≤ n2 ∧ i = .int .i64 k ∧ o = .int .i64 (((t.take k).map (useOf s d)).sum : Nat) ∧ Ext w1 wr) (fun _ i _ => n2 - (RowKit.intOf i).toNat)
  case atStart => exact ⟨0, by omega, rfl, rfl, Ext.refl _⟩
  case round =>
    obtain ⟨k, hk, rfl, rfl, he⟩ := hrel
    by_cases hlt : k < n2
    · obtain ⟨x, hx⟩ := get_of_lt (l := t) (k := k) (by rw [Hn.out]; exact hlt)
      obtain ⟨b2, o, u, rfl, -, -, hps, hu, hc0, hc1, hc2⟩ := Its.at_ HA.out hx
      have HU := Lib.hid (hu.ext he)
      have hxm := List.mem_of_getElem? hx
      have hfit := HF.out x hxm
      have hpok := itemOk_path (HG.out.fits hxm).1
      have h32 := load32 HO.out hfit
      obtain ⟨Au, cu, rfl, -⟩ := hu
      have a0 := hc0 wr he; have a1 := hc1 wr he; have a2 := hc2 wr he
      have hbs := Blk.new wr 57 #[.string x.path, .bool x.dir, .slice Au x.ids.length cu]
      have s2 := fun W (e : Ext _ W) => hbs.at_ (i := 2) (u := .slice Au x.ids.length cu) rfl W e
      have ea : Ext wr (wr.alloc (.cells #[.string x.path, .bool x.dir, .slice Au x.ids.length cu] 57)) := (Ext.refl wr).alloc _
      have Ew := (e0.trans he1).trans he
      have Cw := PathWithin_c x.path d _ hps hd (HM.out.ext (Ew.trans ea))
      rw [hpok, Bool.true_and] at Cw
      have Cz := fun W (e : Ext wr W) => sizeOf_c W HO.out (HSt.out.ext (Ew.trans e)) (HU.out.ext e) hfit
      have hst := sum_take (useOf s d) hx
      have hb0 := hbd.out k
      generalize ((t.take k).map (useOf s d)).sum = acc at *
      cases hwi : within x.path d with
      | false =>
        rw [hwi] at Cw
        have hst2 : useOf s d x = 0 := by unfold useOf; rw [hwi]; simp
        have hst := hst.trans (by rw [hst2]; rfl : _ = acc)
        have Hst := Lib.hid hst
        clear hst hst2 hx hc0 hc1 hc2 hwi Cz hbs
        go_wp2_with (go_at_call 63; refine Cw.mono ?_; rintro e w2 ⟨rfl, he2⟩)
        go_roundw
        case rel => exact ⟨k + 1, by omega, by go_num, by rw [Hst.out], he.trans (ea.trans he2)⟩
        case measure => simp [RowKit.intOf]; omega
      | true =>
        rw [hwi] at Cw
        have hst2 : useOf s d x = (loadOf s x.ids).length := by unfold useOf; rw [if_pos hwi]
        rw [hst2] at hst
        have Hst := Lib.hid hst
        clear hst hst2 hx hc0 hc1 hc2 hwi hbs
        generalize (loadOf s x.ids).length = ll at *
        have D0 := fun W (e : Ext wr W) => d0 W (he1.trans (he.trans e))
        go_wp2_with (first | (go_at_call 63; refine Cw.mono ?_; rintro e w2 ⟨rfl, he2⟩; have z0 := D0 w2 (ea.trans he2); have z2 := s2 w2 he2) | (go_at_call 62; refine (Cz _ (ea.trans he2)).mono ?_; rintro e w3 ⟨rfl, he3⟩))
        go_roundw
        case rel => exact ⟨k + 1, by omega, by go_num, by rw [Hst.out]; go_num, he.trans ((ea.trans he2).trans he3)⟩
        case measure => simp [RowKit.intOf]; omega
    · have hks : k = n2 := by omega
      subst hks
      have Hf : Hid (((t.take k).map (useOf s d)).sum = usedT s t d) := Lib.hid (by rw [List.take_of_length_le (by rw [Hn.out]; exact Nat.le_refl _)]; rfl)
      generalize ((t.take k).map (useOf s d)).sum = acc at *
      go_wp2
      go_ret
      exact ⟨by rw [← Hf.out]; rfl, (e0.trans he1).trans he⟩
set_option maxRecDepth 8000 in
set_option maxHeartbeats 2000000 in
theorem QuotaUsed_c {B B' B2 : Nat} {vs vt vn : Value} {s : List Hd} {t : List It} {l : List Sn} (d : ByteArray) (w : World) (hs : Hds B w vs s) (ht : Its B' w vt t) (hn : Sns B2 w vn l) (hd : d.size < lim) (hm : ML w) :
    Calls Tryz.prog 21 #[.agg #[vs, vt, vn], .string d] w (Ret (.int .i64 (quotaU s t l d)) w) := by
  have HS := Lib.hid hs; have HT := Lib.hid ht; have HN := Lib.hid hn; have HM := Lib.hid hm
  obtain ⟨A, c, rfl, -⟩ := hs
  obtain ⟨A2, c2, rfl, -⟩ := ht
  obtain ⟨A3, c3, rfl, -⟩ := hn
  have e0 : Ext w (w.alloc (.cells #[.slice A s.length c, .slice A2 t.length c2, .slice A3 l.length c3] 27)) := (Ext.refl w).alloc _
  have Cn := newDisk_c _ (HS.out.ext e0) (HT.out.ext e0) (HN.out.ext e0) (HM.out.ext e0)
  clear hm
  go_enter Tryz.func21, Tryz.ntmps21
  go_wp2_with fail
  refine Cn.mono ?_
  rintro e w1 ⟨he1, ⟨hv, rfl⟩ | ⟨hv, g, rfl, b, adr, kv, v, aq, -, hD, hSt, hTr, -, -⟩⟩
  · have Hr : Hid (quotaU s t l d = -1) := Lib.hid (by unfold quotaU; rw [hv]; simp)
    clear hv Cn
    go_wp2
    go_ret
    exact ⟨ret_i Hr.out.symm, e0.trans he1⟩
  have Hp := Lib.hid (disk_parts hv)
  have Cp := dirValid_c d w1 hd (HM.out.ext (e0.trans he1))
  have g2 := fun W (e : Ext w1 W) => hD.at_ (i := 2) (u := .map (some b)) rfl W e
  have g3 := fun W (e : Ext w1 W) => hD.at_ (i := 3) (u := .pointer (some ⟨adr [], 0, none⟩)) rfl W e
  have Cu := fun W (e : Ext w1 W) => used_c d W Hp.out.1 (hSt.ext e) Hp.out.2.1 (hTr.ext e) Hp.out.2.2.1 hd (HM.out.ext ((e0.trans he1).trans e))
  clear hD hSt hTr Cn
  cases hdo : dirOk d with
  | false =>
    rw [hdo] at Cp
    have Hr : Hid (quotaU s t l d = -1) := Lib.hid (by unfold quotaU; rw [hdo]; simp)
    clear hv hdo
    go_wp2_with (go_at_call 58; refine Cp.mono ?_; rintro e w2 ⟨rfl, he2⟩)
    go_ret
    exact ⟨ret_i Hr.out.symm, (e0.trans he1).trans he2⟩
  | true =>
    rw [hdo] at Cp
    have Hr : Hid ((usedT s t d : Nat) = quotaU s t l d) := Lib.hid (by unfold quotaU; rw [if_pos ⟨hv, hdo⟩])
    rw [Hr.out] at Cu
    clear hv hdo
    go_wp2_with (first | (go_at_call 58; refine Cp.mono ?_; rintro e w2 ⟨rfl, he2⟩; have z2 := g2 w2 he2; have z3 := g3 w2 he2) | (go_at_call 48; refine (Cu _ he2).mono ?_; rintro e w3 ⟨rfl, he3⟩))
    go_ret
    exact ⟨rfl, ((e0.trans he1).trans he2).trans he3⟩
end Go.Sf

/-! Quotas and turns are compared. -/
namespace Go.Sf
open Go Go.RowKit Go.Proofs




end Go.Sf

/-! Quotas are checked: the reference and the program. -/
namespace Go.Sf
open Go Go.RowKit Go.Proofs Go.Maps
def qtOk (x : Qt) : Bool := dirOk x.dir && inB x.most 0 999
def qtGo : Option ByteArray → List Qt → Bool
  | _, [] => true
  | p, x :: r => qtOk x && ((match p with | none => true | some d => blt d x.dir) && qtGo (some x.dir) r)
def quotasOk (l : List Qt) : Bool := decide (l.length ≤ 6) && qtGo none l
/-- the directory ahead of the k-th -/
def prevD (l : List Qt) (k : Nat) : Option ByteArray := if k = 0 then none else (l[k - 1]?).map Qt.dir
theorem prevD_succ {l : List Qt} {k : Nat} {x : Qt} (h : l[k]? = some x) : prevD l (k + 1) = some x.dir := by unfold prevD; rw [if_neg (by omega)]; simp [h]
theorem qt_drop {l : List Qt} {k : Nat} {x : Qt} (hx : l[k]? = some x) : qtGo (prevD l k) (l.drop k) = (qtOk x && ((match prevD l k with | none => true | some d => blt d x.dir) && qtGo (prevD l (k + 1)) (l.drop (k + 1)))) := by
  rw [drop_cons hx, prevD_succ hx]; rfl
theorem qt_end {l : List Qt} {k : Nat} (h : l.length = k) (p : Option ByteArray) : qtGo p (l.drop k) = true := by
  rw [List.drop_of_length_le (by omega)]; cases p <;> rfl
set_option maxRecDepth 8000 in
set_option maxHeartbeats 2000000 in
theorem specQuotasValid_c {B : Nat} {v : Value} {l : List Qt} (w : World) (h : Qts B w v l) : Calls Tryz.prog 20 #[v] w (Ret (.bool (quotasOk l)) w) := by
  obtain ⟨A, c, rfl, hA⟩ := h
  have hl := hA.2.2.1
  unfold lim at hl
  have HA := Lib.hid hA
  clear hA
  generalize hnn : l.length = n at *
  have Hn := Lib.hid hnn; clear hnn
  go_enter Tryz.func20, Tryz.ntmps20
  go_wp2
  go_loopw [3] (fun i wr => ∃ k : Nat, k ≤ n ∧ i = .int .i64 k ∧ Ext w wr ∧ Hid (qtGo (prevD l k) (l.drop k) = qtGo none l)) (fun i _ => n - (RowKit.intOf i).toNat)
  case atStart => exact ⟨0, by omega, rfl, Ext.refl w, Lib.hid rfl⟩
  case round =>
    obtain ⟨k, hk, rfl, he, hq⟩ := hrel
    by_cases hlt : k < n
    · obtain ⟨x, hx⟩ := get_of_lt (l := l) (k := k) (by rw [Hn.out]; exact hlt)
      obtain ⟨b, o, rfl, -, -, hps, -, hc0, hc1⟩ := Qts.at_ HA.out hx
      have a0 := fun W (e : Ext wr W) => hc0 W (he.trans e)
      have a1 := fun W (e : Ext wr W) => hc1 W (he.trans e)
      have Cd := fun W => l1Dir_c x.dir W hps
      have Ci := fun W => l6In_c x.most 0 999 W
      have hst := qt_drop hx
      rw [hq.out] at hst
      have Hx := Lib.hid hx
      cases hd : dirOk x.dir with
      | false =>
        have Hr : Hid (quotasOk l = false) := Lib.hid (by unfold quotasOk; rw [hst, qtOk, hd]; simp)
        simp only [hd] at Cd
        clear hst hd hc0 hc1 hx hq
        go_wp2
        refine wp_region_hold (fun W => Ext wr W) 31 [(0, true), (1, true), (2, true), (3, true), (4, true), (5, false), (6, true), (7, true), (8, true), (9, true), (10, true), (11, true), (12, true), (13, false), (14, true), (15, true), (16, true), (17, true), (18, true), (19, true), (20, true), (21, true), (22, true), (23, true), (24, true), (25, true), (26, true), (27, true), (28, true), (29, true), (30, true)] (by kernel_rfl) (by kernel_rfl) ?_ ?_
        · exact (Ext.refl _).drew
        (repeat (first | (apply hw_read (by rfl) (by rfl); (· (intro W hW; (try dsimp only at hW); go_simp; (first | done | rfl | (rw [if_pos] <;> first | omega | rfl)))); (try simp only [Act.put, List.setIfInBounds_toArray, List.set_cons_zero, List.set_cons_succ])) | (refine hw_skip (by rfl) (by rfl) ?_; (try simp only [Act.put, List.setIfInBounds_toArray, List.set_cons_zero, List.set_cons_succ]))))
        refine hw_step (by rfl) ?_
        go_wp2_with (go_at_call 56; refine (Cd _).mono ?_; rintro e w4 ⟨rfl, he4⟩)
        have he5 := (Ext.refl wr).drew.trans he4
        refine ⟨he5, ?_⟩
        (repeat (first | (apply hw_read (by rfl) (by rfl); (· (intro W hW; (try dsimp only at hW); go_simp; (first | done | rfl | (rw [if_pos] <;> first | omega | rfl)))); (try simp only [Act.put, List.setIfInBounds_toArray, List.set_cons_zero, List.set_cons_succ])) | (refine hw_skip (by rfl) (by rfl) ?_; (try simp only [Act.put, List.setIfInBounds_toArray, List.set_cons_zero, List.set_cons_succ]))))
        (try (refine hw_step (by rfl) ?_; go_wp2; refine ⟨he5, ?_⟩))
        (try (repeat (first | (apply hw_read (by rfl) (by rfl); (· (intro W hW; (try dsimp only at hW); go_simp; (first | done | rfl | (rw [if_pos] <;> first | omega | rfl)))); (try simp only [Act.put, List.setIfInBounds_toArray, List.set_cons_zero, List.set_cons_succ])) | (refine hw_skip (by rfl) (by rfl) ?_; (try simp only [Act.put, List.setIfInBounds_toArray, List.set_cons_zero, List.set_cons_succ])))))
        (try (refine hw_nil ?_; (try simp only [List.drop_succ_cons, List.drop_zero])))
        go_wp2
        refine NoPanic.normal ?_
        (try dsimp only [Exit.then])
        (try go_wp2)
        go_ret
        exact ⟨ret_b Hr.out.symm, he.trans he5⟩
      | true =>
      simp only [hd] at Cd
      cases hm : inB x.most 0 999 with
      | false =>
        have Hr : Hid (quotasOk l = false) := Lib.hid (by unfold quotasOk; rw [hst, qtOk, hm]; simp)
        simp only [hm] at Ci
        clear hst hd hm hc0 hc1 hx hq
        go_wp2
        refine wp_region_hold (fun W => Ext wr W) 31 [(0, true), (1, true), (2, true), (3, true), (4, true), (5, false), (6, true), (7, true), (8, true), (9, true), (10, true), (11, true), (12, true), (13, false), (14, true), (15, true), (16, true), (17, true), (18, true), (19, true), (20, true), (21, true), (22, true), (23, true), (24, true), (25, true), (26, true), (27, true), (28, true), (29, true), (30, true)] (by kernel_rfl) (by kernel_rfl) ?_ ?_
        · exact (Ext.refl _).drew
        (repeat (first | (apply hw_read (by rfl) (by rfl); (· (intro W hW; (try dsimp only at hW); go_simp; (first | done | rfl | (rw [if_pos] <;> first | omega | rfl)))); (try simp only [Act.put, List.setIfInBounds_toArray, List.set_cons_zero, List.set_cons_succ])) | (refine hw_skip (by rfl) (by rfl) ?_; (try simp only [Act.put, List.setIfInBounds_toArray, List.set_cons_zero, List.set_cons_succ]))))
        refine hw_step (by rfl) ?_
        go_wp2_with (go_at_call 56; refine (Cd _).mono ?_; rintro e w4 ⟨rfl, he4⟩)
        have he5 := (Ext.refl wr).drew.trans he4
        refine ⟨he5, ?_⟩
        (repeat (first | (apply hw_read (by rfl) (by rfl); (· (intro W hW; (try dsimp only at hW); go_simp; (first | done | rfl | (rw [if_pos] <;> first | omega | rfl)))); (try simp only [Act.put, List.setIfInBounds_toArray, List.set_cons_zero, List.set_cons_succ])) | (refine hw_skip (by rfl) (by rfl) ?_; (try simp only [Act.put, List.setIfInBounds_toArray, List.set_cons_zero, List.set_cons_succ]))))
        refine hw_step (by rfl) ?_
        go_wp2_with (go_at_call 57; refine (Ci _).mono ?_; rintro e w6 ⟨rfl, he6⟩)
        have he7 := he5.trans he6
        refine ⟨he7, ?_⟩
        (try (repeat (first | (apply hw_read (by rfl) (by rfl); (· (intro W hW; (try dsimp only at hW); go_simp; (first | done | rfl | (rw [if_pos] <;> first | omega | rfl)))); (try simp only [Act.put, List.setIfInBounds_toArray, List.set_cons_zero, List.set_cons_succ])) | (refine hw_skip (by rfl) (by rfl) ?_; (try simp only [Act.put, List.setIfInBounds_toArray, List.set_cons_zero, List.set_cons_succ])))))
        (refine hw_nil ?_; (try simp only [List.drop_succ_cons, List.drop_zero]))
        go_wp2
        refine NoPanic.normal ?_
        (try dsimp only [Exit.then])
        (try go_wp2)
        go_ret
        exact ⟨ret_b Hr.out.symm, he.trans he7⟩
      | true =>
      simp only [hm] at Ci
      by_cases hk0 : k = 0
      · have hdk : decide (0 < k) = false := by simp; omega
        have Hr : Hid (qtGo (prevD l (k + 1)) (l.drop (k + 1)) = qtGo none l) := Lib.hid (by rw [hst, qtOk, hd, hm]; subst hk0; rfl)
        clear hk0
        clear hst hd hm hc0 hc1 hx hq
        go_wp2
        refine wp_region_hold (fun W => Ext wr W) 31 [(0, true), (1, true), (2, true), (3, true), (4, true), (5, false), (6, true), (7, true), (8, true), (9, true), (10, true), (11, true), (12, true), (13, false), (14, true), (15, true), (16, true), (17, true), (18, true), (19, true), (20, true), (21, true), (22, true), (23, true), (24, true), (25, true), (26, true), (27, true), (28, true), (29, true), (30, true)] (by kernel_rfl) (by kernel_rfl) ?_ ?_
        · exact (Ext.refl _).drew
        (repeat (first | (apply hw_read (by rfl) (by rfl); (· (intro W hW; (try dsimp only at hW); go_simp; (first | done | rfl | (rw [if_pos] <;> first | omega | rfl)))); (try simp only [Act.put, List.setIfInBounds_toArray, List.set_cons_zero, List.set_cons_succ])) | (refine hw_skip (by rfl) (by rfl) ?_; (try simp only [Act.put, List.setIfInBounds_toArray, List.set_cons_zero, List.set_cons_succ]))))
        refine hw_step (by rfl) ?_
        go_wp2_with (go_at_call 56; refine (Cd _).mono ?_; rintro e w4 ⟨rfl, he4⟩)
        have he5 := (Ext.refl wr).drew.trans he4
        refine ⟨he5, ?_⟩
        (repeat (first | (apply hw_read (by rfl) (by rfl); (· (intro W hW; (try dsimp only at hW); go_simp; (first | done | rfl | (rw [if_pos] <;> first | omega | rfl)))); (try simp only [Act.put, List.setIfInBounds_toArray, List.set_cons_zero, List.set_cons_succ])) | (refine hw_skip (by rfl) (by rfl) ?_; (try simp only [Act.put, List.setIfInBounds_toArray, List.set_cons_zero, List.set_cons_succ]))))
        refine hw_step (by rfl) ?_
        go_wp2_with (go_at_call 57; refine (Ci _).mono ?_; rintro e w6 ⟨rfl, he6⟩)
        have he7 := he5.trans he6
        refine ⟨he7, ?_⟩
        (try (repeat (first | (apply hw_read (by rfl) (by rfl); (· (intro W hW; (try dsimp only at hW); go_simp; (first | done | rfl | (rw [if_pos] <;> first | omega | rfl)))); (try simp only [Act.put, List.setIfInBounds_toArray, List.set_cons_zero, List.set_cons_succ])) | (refine hw_skip (by rfl) (by rfl) ?_; (try simp only [Act.put, List.setIfInBounds_toArray, List.set_cons_zero, List.set_cons_succ])))))
        (refine hw_nil ?_; (try simp only [List.drop_succ_cons, List.drop_zero]))
        go_wp2
        refine NoPanic.normal ?_
        (try dsimp only [Exit.then])
        (try go_wp2)
        go_roundw
        case rel => exact ⟨k + 1, by omega, by go_num, he.trans he7, Hr⟩
        case measure => simp [RowKit.intOf]; omega
      · obtain ⟨m, rfl⟩ : ∃ m, k = m + 1 := ⟨k - 1, by omega⟩
        obtain ⟨y, hy⟩ := get_of_lt (l := l) (k := m) (by rw [Hn.out]; omega)
        obtain ⟨b', o', hbo, -, -, -, -, hy0, -⟩ := Qts.at_ HA.out hy
        simp only [Option.some.injEq, Addr.mk.injEq, and_true] at hbo
        obtain ⟨rfl, rfl⟩ := hbo
        have b0 := fun W (e : Ext wr W) => hy0 W (he.trans e)
        have hp : prevD l (m + 1) = some y.dir := prevD_succ hy
        have hw : IntKind.i64.wrap (m : Int) = m := by simp [IntKind.wrap, IntKind.signed, IntKind.bits]; omega
        cases hb : blt y.dir x.dir with
        | true =>
          have hge : Op.bytesLess y.dir.toList x.dir.toList = true := hb
          have Hr : Hid (qtGo (prevD l (m + 1 + 1)) (l.drop (m + 1 + 1)) = qtGo none l) := Lib.hid (by rw [hst, qtOk, hd, hm, hp]; simp only [hb]; simp)
          clear hst hd hm hc0 hc1 hx hq hy hp hb hy0
          go_wp2
          refine wp_region_hold (fun W => Ext wr W) 31 [(0, true), (1, true), (2, true), (3, true), (4, true), (5, false), (6, true), (7, true), (8, true), (9, true), (10, true), (11, true), (12, true), (13, false), (14, true), (15, true), (16, true), (17, true), (18, true), (19, true), (20, true), (21, true), (22, true), (23, true), (24, true), (25, true), (26, true), (27, true), (28, true), (29, true), (30, true)] (by kernel_rfl) (by kernel_rfl) ?_ ?_
          · exact (Ext.refl _).drew
          (repeat (first | (apply hw_read (by rfl) (by rfl); (· (intro W hW; (try dsimp only at hW); go_simp; (first | done | rfl | (rw [if_pos] <;> first | omega | rfl)))); (try simp only [Act.put, List.setIfInBounds_toArray, List.set_cons_zero, List.set_cons_succ])) | (refine hw_skip (by rfl) (by rfl) ?_; (try simp only [Act.put, List.setIfInBounds_toArray, List.set_cons_zero, List.set_cons_succ]))))
          refine hw_step (by rfl) ?_
          go_wp2_with (go_at_call 56; refine (Cd _).mono ?_; rintro e w4 ⟨rfl, he4⟩)
          have he5 := (Ext.refl wr).drew.trans he4
          refine ⟨he5, ?_⟩
          (repeat (first | (apply hw_read (by rfl) (by rfl); (· (intro W hW; (try dsimp only at hW); go_simp; (first | done | rfl | (rw [if_pos] <;> first | omega | rfl)))); (try simp only [Act.put, List.setIfInBounds_toArray, List.set_cons_zero, List.set_cons_succ])) | (refine hw_skip (by rfl) (by rfl) ?_; (try simp only [Act.put, List.setIfInBounds_toArray, List.set_cons_zero, List.set_cons_succ]))))
          refine hw_step (by rfl) ?_
          go_wp2_with (go_at_call 57; refine (Ci _).mono ?_; rintro e w6 ⟨rfl, he6⟩)
          have he7 := he5.trans he6
          refine ⟨he7, ?_⟩
          (try (repeat (first | (apply hw_read (by rfl) (by rfl); (· (intro W hW; (try dsimp only at hW); go_simp; (first | done | rfl | (rw [if_pos] <;> first | omega | rfl)))); (try simp only [Act.put, List.setIfInBounds_toArray, List.set_cons_zero, List.set_cons_succ])) | (refine hw_skip (by rfl) (by rfl) ?_; (try simp only [Act.put, List.setIfInBounds_toArray, List.set_cons_zero, List.set_cons_succ])))))
          (refine hw_nil ?_; (try simp only [List.drop_succ_cons, List.drop_zero]))
          go_wp2
          refine NoPanic.normal ?_
          (try dsimp only [Exit.then])
          (try go_wp2)
          go_roundw
          case rel => exact ⟨m + 1 + 1, by omega, by go_num, he.trans he7, Hr⟩
          case measure => simp [RowKit.intOf]; omega
        | false =>
          have hge : Op.bytesLess y.dir.toList x.dir.toList = false := hb
          have Hr : Hid (quotasOk l = false) := Lib.hid (by unfold quotasOk; rw [hst, qtOk, hd, hm, hp]; simp only [hb]; simp)
          clear hst hd hm hc0 hc1 hx hq hy hp hb hy0
          go_wp2
          refine wp_region_hold (fun W => Ext wr W) 31 [(0, true), (1, true), (2, true), (3, true), (4, true), (5, false), (6, true), (7, true), (8, true), (9, true), (10, true), (11, true), (12, true), (13, false), (14, true), (15, true), (16, true), (17, true), (18, true), (19, true), (20, true), (21, true), (22, true), (23, true), (24, true), (25, true), (26, true), (27, true), (28, true), (29, true), (30, true)] (by kernel_rfl) (by kernel_rfl) ?_ ?_
          · exact (Ext.refl _).drew
          (repeat (first | (apply hw_read (by rfl) (by rfl); (· (intro W hW; (try dsimp only at hW); go_simp; (first | done | rfl | (rw [if_pos] <;> first | omega | rfl)))); (try simp only [Act.put, List.setIfInBounds_toArray, List.set_cons_zero, List.set_cons_succ])) | (refine hw_skip (by rfl) (by rfl) ?_; (try simp only [Act.put, List.setIfInBounds_toArray, List.set_cons_zero, List.set_cons_succ]))))
          refine hw_step (by rfl) ?_
          go_wp2_with (go_at_call 56; refine (Cd _).mono ?_; rintro e w4 ⟨rfl, he4⟩)
          have he5 := (Ext.refl wr).drew.trans he4
          refine ⟨he5, ?_⟩
          (repeat (first | (apply hw_read (by rfl) (by rfl); (· (intro W hW; (try dsimp only at hW); go_simp; (first | done | rfl | (rw [if_pos] <;> first | omega | rfl)))); (try simp only [Act.put, List.setIfInBounds_toArray, List.set_cons_zero, List.set_cons_succ])) | (refine hw_skip (by rfl) (by rfl) ?_; (try simp only [Act.put, List.setIfInBounds_toArray, List.set_cons_zero, List.set_cons_succ]))))
          refine hw_step (by rfl) ?_
          go_wp2_with (go_at_call 57; refine (Ci _).mono ?_; rintro e w6 ⟨rfl, he6⟩)
          have he7 := he5.trans he6
          refine ⟨he7, ?_⟩
          (try (repeat (first | (apply hw_read (by rfl) (by rfl); (· (intro W hW; (try dsimp only at hW); go_simp; (first | done | rfl | (rw [if_pos] <;> first | omega | rfl)))); (try simp only [Act.put, List.setIfInBounds_toArray, List.set_cons_zero, List.set_cons_succ])) | (refine hw_skip (by rfl) (by rfl) ?_; (try simp only [Act.put, List.setIfInBounds_toArray, List.set_cons_zero, List.set_cons_succ])))))
          (refine hw_nil ?_; (try simp only [List.drop_succ_cons, List.drop_zero]))
          go_wp2
          refine NoPanic.normal ?_
          (try dsimp only [Exit.then])
          (try go_wp2)
          go_ret
          exact ⟨ret_b Hr.out.symm, he.trans he7⟩
    · have hks : k = n := by omega
      subst hks
      have Hr : Hid (quotasOk l = decide (k ≤ 6)) := Lib.hid (by unfold quotasOk; rw [← hq.out, qt_end Hn.out, Hn.out, Bool.and_true])
      clear hq
      by_cases h6 : k ≤ 6
      · have h6' : (k : Int) ≤ 6 := by omega
        have hr : quotasOk l = true := by rw [Hr.out]; simp [h6]
        have Hr2 := Lib.hid hr
        clear hr Hr
        go_wp2
        go_ret
        exact ⟨ret_b Hr2.out.symm, he⟩
      · have h6' : ¬ (k : Int) ≤ 6 := by omega
        have hr : quotasOk l = false := by rw [Hr.out]; simp [h6]
        have Hr2 := Lib.hid hr
        clear hr Hr
        go_wp2
        go_ret
        exact ⟨ret_b Hr2.out.symm, he⟩
set_option maxRecDepth 8000 in
set_option maxHeartbeats 2000000 in
theorem QuotasValid_c {B : Nat} {v : Value} {l : List Qt} (w : World) (h : Qts B w v l) (hml : ML w) : Calls Tryz.prog 46 #[v] w (Ret (.bool (quotasOk l)) w) := by
  obtain ⟨A, c, rfl, hA⟩ := h
  have hl := hA.2.2.1
  unfold lim at hl
  have HA := Lib.hid hA; have HM := Lib.hid hml
  clear hA hml
  generalize hnn : l.length = n at *
  have Hn := Lib.hid hnn; clear hnn
  by_cases h6 : 6 < n
  · have h6' : (6 : Int) < (n : Int) := by omega
    have Hr : Hid (quotasOk l = false) := Lib.hid (by unfold quotasOk; rw [Hn.out]; simp; omega)
    go_enter Tryz.func46, Tryz.ntmps46
    go_wp2
    go_ret
    exact ⟨ret_b Hr.out.symm, Ext.refl w⟩
  have h6' : ¬ (6 : Int) < (n : Int) := by omega
  have Hq : Hid (quotasOk l = qtGo none l) := Lib.hid (by unfold quotasOk; rw [Hn.out, decide_eq_true (by omega : n ≤ 6)]; rfl)
  go_enter Tryz.func46, Tryz.ntmps46
  go_wp2
  go_loopw [10] (fun i wr => ∃ k : Nat, k ≤ n ∧ i = .int .i64 k ∧ Ext w wr ∧ Hid (qtGo (prevD l k) (l.drop k) = qtGo none l)) (fun i _ => n - (RowKit.intOf i).toNat)
  case atStart => exact ⟨0, by omega, rfl, Ext.refl w, Lib.hid rfl⟩
  case round =>
    obtain ⟨k, hk, rfl, he, hq⟩ := hrel
    by_cases hlt : k < n
    · obtain ⟨x, hx⟩ := get_of_lt (l := l) (k := k) (by rw [Hn.out]; exact hlt)
      obtain ⟨b, o, rfl, -, -, hps, -, hc0, hc1⟩ := Qts.at_ HA.out hx
      have ea : Ext wr (wr.alloc (.cells #[.string x.dir, .int .i64 x.most] 47)) := (Ext.refl wr).alloc _
      have hbs := Blk.new wr 47 #[.string x.dir, .int .i64 x.most]
      have s0 := fun W (e : Ext _ W) => hbs.at_ (i := 0) (u := .string x.dir) rfl W e
      have s1 := fun W (e : Ext _ W) => hbs.at_ (i := 1) (u := .int .i64 x.most) rfl W e
      have a0 := hc0 wr he; have a1 := hc1 wr he
      have Cd := dirValid_c x.dir _ hps (HM.out.ext (he.trans ea))
      have hst := qt_drop hx
      rw [hq.out] at hst
      have Hx := Lib.hid hx
      clear hbs hc0 hc1
      cases hd : dirOk x.dir with
      | false =>
        have Hr : Hid (quotasOk l = false) := Lib.hid (by rw [Hq.out, hst, qtOk, hd]; rfl)
        simp only [hd] at Cd
        clear hst hd hx hq
        go_wp2_with (go_at_call 58; refine Cd.mono ?_; rintro e w4 ⟨rfl, he4⟩; have r0 := s0 w4 he4; have r1 := s1 w4 he4)
        go_ret
        exact ⟨ret_b Hr.out.symm, he.trans (ea.trans he4)⟩
      | true =>
      simp only [hd] at Cd
      by_cases hm0 : x.most < 0
      · have Hr : Hid (quotasOk l = false) := Lib.hid (by rw [Hq.out, hst, qtOk, hd, show inB x.most 0 999 = false from by unfold inB; simp; omega]; rfl)
        clear hst hd hx hq
        go_wp2_with (go_at_call 58; refine Cd.mono ?_; rintro e w4 ⟨rfl, he4⟩; have r0 := s0 w4 he4; have r1 := s1 w4 he4)
        go_ret
        exact ⟨ret_b Hr.out.symm, he.trans (ea.trans he4)⟩
      by_cases hm9 : 999 < x.most
      · have Hr : Hid (quotasOk l = false) := Lib.hid (by rw [Hq.out, hst, qtOk, hd, show inB x.most 0 999 = false from by unfold inB; simp; omega]; rfl)
        clear hst hd hx hq
        go_wp2_with (go_at_call 58; refine Cd.mono ?_; rintro e w4 ⟨rfl, he4⟩; have r0 := s0 w4 he4; have r1 := s1 w4 he4)
        go_ret
        exact ⟨ret_b Hr.out.symm, he.trans (ea.trans he4)⟩
      have hm : inB x.most 0 999 = true := by unfold inB; simp; omega
      by_cases hk0 : k = 0
      · have hdk : decide (0 < k) = false := by simp; omega
        have Hr : Hid (qtGo (prevD l (k + 1)) (l.drop (k + 1)) = qtGo none l) := Lib.hid (by rw [hst, qtOk, hd, hm]; subst hk0; rfl)
        clear hk0 hst hd hm hx hq
        go_wp2_with (go_at_call 58; refine Cd.mono ?_; rintro e w4 ⟨rfl, he4⟩; have r0 := s0 w4 he4; have r1 := s1 w4 he4)
        refine wp_region_hold (fun W => Ext (wr.alloc (.cells #[.string x.dir, .int .i64 x.most] 47)) W) 11 [(0, true), (1, true), (2, true), (3, true), (4, true), (5, true), (6, true), (7, true), (8, true), (9, true), (10, true)] (by kernel_rfl) (by kernel_rfl) ?_ ?_
        · exact he4.drew
        (repeat (first | (apply hw_read (by rfl) (by rfl); (· (intro W hW; (try dsimp only at hW); go_simp; (first | done | rfl | (rw [if_pos] <;> first | omega | rfl)))); (try simp only [Act.put, List.setIfInBounds_toArray, List.set_cons_zero, List.set_cons_succ])) | (refine hw_skip (by rfl) (by rfl) ?_; (try simp only [Act.put, List.setIfInBounds_toArray, List.set_cons_zero, List.set_cons_succ]))))
        (refine hw_nil ?_; (try simp only [List.drop_succ_cons, List.drop_zero]))
        go_wp2
        refine NoPanic.normal ?_
        (try dsimp only [Exit.then])
        (try go_wp2)
        go_roundw
        case rel => exact ⟨k + 1, by omega, by go_num, he.trans ((ea.trans he4).drew), Hr⟩
        case measure => simp [RowKit.intOf]; omega
      · obtain ⟨m, rfl⟩ : ∃ m, k = m + 1 := ⟨k - 1, by omega⟩
        obtain ⟨y, hy⟩ := get_of_lt (l := l) (k := m) (by rw [Hn.out]; omega)
        obtain ⟨b', o', hbo, -, -, -, -, hy0, -⟩ := Qts.at_ HA.out hy
        simp only [Option.some.injEq, Addr.mk.injEq, and_true] at hbo
        obtain ⟨rfl, rfl⟩ := hbo
        have b0 := fun W (e : Ext (wr.alloc (.cells #[.string x.dir, .int .i64 x.most] 47)) W) => hy0 W (he.trans (ea.trans e))
        have hp : prevD l (m + 1) = some y.dir := prevD_succ hy
        have hw : IntKind.i64.wrap (m : Int) = m := by simp [IntKind.wrap, IntKind.signed, IntKind.bits]; omega
        cases hb : blt y.dir x.dir with
        | true =>
          have hge : Op.bytesLess y.dir.toList x.dir.toList = true := hb
          have Hr : Hid (qtGo (prevD l (m + 1 + 1)) (l.drop (m + 1 + 1)) = qtGo none l) := Lib.hid (by rw [hst, qtOk, hd, hm, hp]; simp only [hb]; simp)
          clear hst hd hm hx hq hy hp hb hy0
          go_wp2_with (go_at_call 58; refine Cd.mono ?_; rintro e w4 ⟨rfl, he4⟩; have r0 := s0 w4 he4; have r1 := s1 w4 he4)
          refine wp_region_hold (fun W => Ext (wr.alloc (.cells #[.string x.dir, .int .i64 x.most] 47)) W) 11 [(0, true), (1, true), (2, true), (3, true), (4, true), (5, true), (6, true), (7, true), (8, true), (9, true), (10, true)] (by kernel_rfl) (by kernel_rfl) ?_ ?_
          · exact he4.drew
          (repeat (first | (apply hw_read (by rfl) (by rfl); (· (intro W hW; (try dsimp only at hW); go_simp; (first | done | rfl | (rw [if_pos] <;> first | omega | rfl)))); (try simp only [Act.put, List.setIfInBounds_toArray, List.set_cons_zero, List.set_cons_succ])) | (refine hw_skip (by rfl) (by rfl) ?_; (try simp only [Act.put, List.setIfInBounds_toArray, List.set_cons_zero, List.set_cons_succ]))))
          (refine hw_nil ?_; (try simp only [List.drop_succ_cons, List.drop_zero]))
          go_wp2
          refine NoPanic.normal ?_
          (try dsimp only [Exit.then])
          (try go_wp2)
          go_roundw
          case rel => exact ⟨m + 1 + 1, by omega, by go_num, he.trans ((ea.trans he4).drew), Hr⟩
          case measure => simp [RowKit.intOf]; omega
        | false =>
          have hge : Op.bytesLess y.dir.toList x.dir.toList = false := hb
          have Hr : Hid (quotasOk l = false) := Lib.hid (by rw [Hq.out, hst, qtOk, hd, hm, hp]; simp only [hb]; simp)
          clear hst hd hm hx hq hy hp hb hy0
          go_wp2_with (go_at_call 58; refine Cd.mono ?_; rintro e w4 ⟨rfl, he4⟩; have r0 := s0 w4 he4; have r1 := s1 w4 he4)
          refine wp_region_hold (fun W => Ext (wr.alloc (.cells #[.string x.dir, .int .i64 x.most] 47)) W) 11 [(0, true), (1, true), (2, true), (3, true), (4, true), (5, true), (6, true), (7, true), (8, true), (9, true), (10, true)] (by kernel_rfl) (by kernel_rfl) ?_ ?_
          · exact he4.drew
          (repeat (first | (apply hw_read (by rfl) (by rfl); (· (intro W hW; (try dsimp only at hW); go_simp; (first | done | rfl | (rw [if_pos] <;> first | omega | rfl)))); (try simp only [Act.put, List.setIfInBounds_toArray, List.set_cons_zero, List.set_cons_succ])) | (refine hw_skip (by rfl) (by rfl) ?_; (try simp only [Act.put, List.setIfInBounds_toArray, List.set_cons_zero, List.set_cons_succ]))))
          (refine hw_nil ?_; (try simp only [List.drop_succ_cons, List.drop_zero]))
          go_wp2
          refine NoPanic.normal ?_
          (try dsimp only [Exit.then])
          (try go_wp2)
          go_ret
          exact ⟨ret_b Hr.out.symm, he.trans ((ea.trans he4).drew)⟩
    · have hks : k = n := by omega
      subst hks
      have Hr : Hid (quotasOk l = true) := Lib.hid (by rw [Hq.out, ← hq.out, qt_end Hn.out])
      clear hq
      go_wp2
      go_ret
      exact ⟨ret_b Hr.out.symm, he⟩
end Go.Sf

/-! What quotas allow: the reference and the program. -/
namespace Go.Sf
open Go Go.RowKit Go.Proofs Go.Maps
/-- the quota says no -/
noncomputable def qtNo (s : List Hd) (t : List It) (p : ByteArray) (n : Int) (x : Qt) : Bool := within p x.dir && decide (x.most < (usedBut s t x.dir p : Nat) + n)
noncomputable def allowIn (s : List Hd) (t : List It) (l : List Sn) (q : List Qt) (p : ByteArray) (n : Int) : Bool := diskOk s t l && (quotasOk q && (pathOk p && inB n 0 32))
noncomputable def allowOk (s : List Hd) (t : List It) (l : List Sn) (q : List Qt) (p : ByteArray) (n : Int) : Bool := allowIn s t l q p n && q.all fun x => !qtNo s t p n x
theorem allow_no {s : List Hd} {t : List It} {l : List Sn} {q : List Qt} {p : ByteArray} {n : Int} (h : allowIn s t l q p n = false) : allowOk s t l q p n = false := by unfold allowOk; rw [h]; rfl
theorem usedBut_le {s : List Hd} (hs : StoreOk s) {t : List It} (hf : ∀ x, x ∈ t → IdsFit s x.ids) (h12 : t.length ≤ 12) (d but : ByteArray) : usedBut s t d but ≤ 384 := by
  have := usedb_take_le hs hf h12 d but t.length
  rwa [List.take_of_length_le (Nat.le_refl _)] at this
theorem used_split (s : List Hd) (d p : ByteArray) : ∀ t : List It, Apart t → usedT s t d = usedBut s t d p + (match findIt t p with | some y => useOf s d y | none => 0) := by
  intro t
  induction t with
  | nil => intro _; rfl
  | cons x t ih =>
    intro h
    obtain ⟨hx, ht⟩ := List.pairwise_cons.1 h
    have h1 := ih ht
    unfold usedT usedBut at *
    simp only [List.map_cons, List.sum_cons]
    by_cases e : x.path = p
    · have hf : findIt t p = none := by
        unfold findIt
        rw [List.find?_eq_none]
        intro y hy
        have := hx y hy
        rw [e] at this
        simp [pathIs, eqb_iff]
        exact fun h => this h.symm
      have hf2 : findIt (x :: t) p = some x := by unfold findIt; rw [List.find?_cons_of_pos]; simp [pathIs, eqb_iff, e]
      rw [hf] at h1
      rw [hf2]
      have hb : useBut s d p x = 0 := by unfold useBut; rw [if_pos e]
      simp only at h1 ⊢
      omega
    · have hf2 : findIt (x :: t) p = findIt t p := by unfold findIt; rw [List.find?_cons_of_neg]; simp [pathIs, eqb_iff, e]
      have hb : useBut s d p x = useOf s d x := by unfold useBut; rw [if_neg e]
      rw [hf2, hb]
      omega
/-- how large the file at p is -/
noncomputable def sizeAt (s : List Hd) (t : List It) (p : ByteArray) : Nat := match findIt t p with | some y => (loadOf s y.ids).length | none => 0
theorem used_at {s : List Hd} {t : List It} (ht : treeOk t = true) {d p : ByteArray} (hw : within p d = true) : usedT s t d = usedBut s t d p + sizeAt s t p := by
  have h := used_split s d p t (grow_set.1 (treeOk_iff'.1 ht).2).1.apart
  rw [h]
  unfold sizeAt
  cases hf : findIt t p with
  | none => rfl
  | some y =>
    have := (findIt_some hf).2
    simp only [useOf, this, hw, if_true]
theorem sizeAt_le {s : List Hd} (hs : StoreOk s) {t : List It} (hf : ∀ x, x ∈ t → IdsFit s x.ids) (p : ByteArray) : sizeAt s t p ≤ 32 := by
  unfold sizeAt
  cases h : findIt t p with
  | none => exact Nat.zero_le _
  | some y => exact load32 hs (hf y (findIt_some h).1)
/-- the program's one error -/
def EB (a : Addr) (w : World) : Prop := w.cell? ⟨0, 0, none⟩ = some (.iface 299 (.pointer (some a)))
theorem EB.ext {a : Addr} {w w' : World} (h : EB a w) (e : Ext w w') : EB a w' := e.cell h
set_option maxHeartbeats 1000000 in
theorem check_c {a : Addr} (d : ByteArray) (m n : Int) (w : World) (hE : EB a w) : Calls Tryz.prog 47 #[.agg #[.string d, .int .i64 m], .int .i64 n] w (Ret (if m < n then .iface 299 (.pointer (some a)) else .nilIface) w) := by
  have e0 : Ext w (w.alloc (.cells #[.string d, .int .i64 m] 47)) := (Ext.refl w).alloc _
  have h1 : w.cell? ⟨0, 0, none⟩ = some (.iface 299 (.pointer (some a))) := hE
  have h2 := e0.cell h1
  by_cases hm : m < n
  · rw [if_pos hm]
    go_enter Tryz.func47, Tryz.ntmps47
    go_wp2
    go_ret
    exact ⟨rfl, e0⟩
  · rw [if_neg hm]
    go_enter Tryz.func47, Tryz.ntmps47
    go_wp2
    go_ret
    exact ⟨rfl, e0⟩
set_option maxRecDepth 8000 in
set_option maxHeartbeats 4000000 in
theorem specQuotasAllow_c {B B' B2 B3 : Nat} {vs vt vn vq : Value} {s : List Hd} {t : List It} {l : List Sn} {q : List Qt} (p : ByteArray) (n : Int) (w : World) (hs : Hds B w vs s) (ht : Its B' w vt t) (hn : Sns B2 w vn l) (hq : Qts B3 w vq q) (hp : p.size < lim) (_hin : inI n) :
    Calls Tryz.prog 24 #[.agg #[vs, vt, vn], vq, .string p, .int .i64 n] w (Ret (.bool (allowOk s t l q p n)) w) := by
  have HS := Lib.hid hs; have HT := Lib.hid ht; have HN := Lib.hid hn; have HQ := Lib.hid hq
  obtain ⟨A, c, rfl, -⟩ := hs
  obtain ⟨A2, c2, rfl, -⟩ := ht
  obtain ⟨A3, c3, rfl, -⟩ := hn
  obtain ⟨A4, c4, rfl, hA⟩ := hq
  have hl := hA.2.2.1
  unfold lim at hl
  have e0 : Ext w (w.alloc (.cells #[.slice A s.length c, .slice A2 t.length c2, .slice A3 l.length c3] 27)) := (Ext.refl w).alloc _
  have hbk := Blk.new w 27 #[.slice A s.length c, .slice A2 t.length c2, .slice A3 l.length c3]
  have d0 := fun W (e : Ext _ W) => hbk.at_ (i := 0) (u := .slice A s.length c) rfl W e
  have d1 := fun W (e : Ext _ W) => hbk.at_ (i := 1) (u := .slice A2 t.length c2) rfl W e
  have d2 := fun W (e : Ext _ W) => hbk.at_ (i := 2) (u := .slice A3 l.length c3) rfl W e
  have Cd := specDiskValid_c _ (HS.out.ext e0) (HT.out.ext e0) (HN.out.ext e0)
  have Cq := fun W (e : Ext w W) => specQuotasValid_c W (HQ.out.ext e)
  have Cp := fun W => specPathValid_c p W hp
  have Ci := fun W => l6In_c n 0 32 W
  have HA := Lib.hid hA
  clear hbk hA
  cases hd : diskOk s t l with
  | false =>
    rw [hd] at Cd
    have Hr := Lib.hid (allow_no (q := q) (p := p) (n := n) (by unfold allowIn; rw [hd]; rfl : allowIn s t l q p n = false))
    clear hd Cq Cp Ci
    generalize q.length = m at *
    go_enter Tryz.func24, Tryz.ntmps24
    go_wp2_with (go_at_call 19; refine Cd.mono ?_; rintro e w2 ⟨rfl, he2⟩)
    go_ret
    exact ⟨ret_b Hr.out.symm, e0.trans he2⟩
  | true =>
  rw [hd] at Cd
  cases hqo : quotasOk q with
  | false =>
    simp only [hqo] at Cq
    have Hr := Lib.hid (allow_no (p := p) (n := n) (by unfold allowIn; rw [hd, hqo]; rfl : allowIn s t l q p n = false))
    clear hd hqo Cp Ci
    generalize q.length = m at *
    go_enter Tryz.func24, Tryz.ntmps24
    go_wp2_with (first | (go_at_call 19; refine Cd.mono ?_; rintro e w2 ⟨rfl, he2⟩) | (go_at_call 20; refine (Cq _ (e0.trans he2)).mono ?_; rintro e w3 ⟨rfl, he3⟩))
    go_ret
    exact ⟨ret_b Hr.out.symm, e0.trans (he2.trans he3)⟩
  | true =>
  simp only [hqo] at Cq
  cases hpo : pathOk p with
  | false =>
    simp only [hpo] at Cp
    have Hr := Lib.hid (allow_no (n := n) (by unfold allowIn; rw [hd, hqo, hpo]; rfl : allowIn s t l q p n = false))
    clear hd hqo hpo Ci
    generalize q.length = m at *
    go_enter Tryz.func24, Tryz.ntmps24
    go_wp2_with (first | (go_at_call 19; refine Cd.mono ?_; rintro e w2 ⟨rfl, he2⟩) | (go_at_call 20; refine (Cq _ (e0.trans he2)).mono ?_; rintro e w3 ⟨rfl, he3⟩) | (go_at_call 64; refine (Cp _).mono ?_; rintro e w4 ⟨rfl, he4⟩))
    go_ret
    exact ⟨ret_b Hr.out.symm, e0.trans ((he2.trans he3).trans he4)⟩
  | true =>
  simp only [hpo] at Cp
  cases hni : inB n 0 32 with
  | false =>
    simp only [hni] at Ci
    have Hr := Lib.hid (allow_no (by unfold allowIn; rw [hd, hqo, hpo, hni]; rfl : allowIn s t l q p n = false))
    clear hd hqo hpo hni
    generalize q.length = m at *
    go_enter Tryz.func24, Tryz.ntmps24
    go_wp2_with (first | (go_at_call 19; refine Cd.mono ?_; rintro e w2 ⟨rfl, he2⟩) | (go_at_call 20; refine (Cq _ (e0.trans he2)).mono ?_; rintro e w3 ⟨rfl, he3⟩) | (go_at_call 64; refine (Cp _).mono ?_; rintro e w4 ⟨rfl, he4⟩) | (go_at_call 57; refine (Ci _).mono ?_; rintro e w5 ⟨rfl, he5⟩))
    go_ret
    exact ⟨ret_b Hr.out.symm, e0.trans (((he2.trans he3).trans he4).trans he5)⟩
  | true =>
  simp only [hni] at Ci
  obtain ⟨hn0, hn32⟩ := inB_iff.1 hni
  have Ha : Hid (allowOk s t l q p n = q.all fun x => !qtNo s t p n x) := Lib.hid (by unfold allowOk allowIn; rw [hd, hqo, hpo, hni]; rfl)
  obtain ⟨hso, hto, hfit, -, -⟩ := disk_parts hd
  have h12 := (treeOk_iff'.1 hto).1
  have Hul := Lib.hid fun d => usedBut_le hso hfit h12 d p
  have Cu := fun d (hd : d.size < lim) W (e : Ext w W) => l15Used_c d p W (HS.out.ext e) (HT.out.ext e) (HN.out.ext e) hso hfit h12 hd
  clear hd hqo hpo hni hso hto hfit h12
  generalize hmm : q.length = m at *
  have Hm := Lib.hid hmm; clear hmm
  go_enter Tryz.func24, Tryz.ntmps24
  go_wp2_with (first | (go_at_call 19; refine Cd.mono ?_; rintro e w2 ⟨rfl, he2⟩) | (go_at_call 20; refine (Cq _ (e0.trans he2)).mono ?_; rintro e w3 ⟨rfl, he3⟩) | (go_at_call 64; refine (Cp _).mono ?_; rintro e w4 ⟨rfl, he4⟩) | (go_at_call 57; refine (Ci _).mono ?_; rintro e w5 ⟨rfl, he5⟩))
  have E5 := ((he2.trans he3).trans he4).trans he5
  clear Cd Cq Cp Ci he2 he3 he4 he5
  go_loopw [9] (fun i wr => ∃ k : Nat, k ≤ m ∧ i = .int .i64 k ∧ Ext (w.alloc (.cells #[.slice A s.length c, .slice A2 t.length c2, .slice A3 l.length c3] 27)) wr ∧ Hid ((q.take k).all (fun x => !qtNo s t p n x) = true)) (fun i _ => m - (RowKit.intOf i).toNat)
  case atStart => exact ⟨0, by omega, rfl, E5, Lib.hid rfl⟩
  case round =>
    obtain ⟨k, hk, rfl, he, hall⟩ := hrel
    by_cases hlt : k < m
    · obtain ⟨x, hx⟩ := get_of_lt (l := q) (k := k) (by rw [Hm.out]; exact hlt)
      obtain ⟨b, o, rfl, -, -, hps, hmi, hc0, hc1⟩ := Qts.at_ HA.out hx
      have a0 := fun W (e : Ext wr W) => hc0 W ((e0.trans he).trans e)
      have a1 := fun W (e : Ext wr W) => hc1 W ((e0.trans he).trans e)
      have D0 := fun W (e : Ext wr W) => d0 W (he.trans e)
      have D1 := fun W (e : Ext wr W) => d1 W (he.trans e)
      have D2 := fun W (e : Ext wr W) => d2 W (he.trans e)
      have Cw := fun W => l1Within_c p x.dir W hp hps
      have Cx := fun W (e : Ext wr W) => Cu x.dir hps W ((e0.trans he).trans e)
      have hul := Hul.out x.dir
      have Hx := Lib.hid hx
      have hno : qtNo s t p n x = (within p x.dir && decide (x.most < (usedBut s t x.dir p : Nat) + n)) := rfl
      clear hc0 hc1 hx
      generalize usedBut s t x.dir p = u at *
      cases hwi : within p x.dir with
      | false =>
        simp only [hwi] at Cw
        have Hr := Lib.hid (all_take hall.out Hx.out (by simp only [hno, hwi]; rfl))
        clear hno hwi hall Cx
        go_wp2
        refine wp_region_hold (fun W => Ext wr W) 23 [(0, true), (1, true), (2, true), (3, true), (4, true), (5, true), (6, false), (7, true), (8, true), (9, true), (10, true), (11, true), (12, true), (13, true), (14, true), (16, true), (18, true), (19, true), (20, true), (21, true), (22, true), (15, false), (17, true)] (by kernel_rfl) (by kernel_rfl) ?_ ?_
        · exact (Ext.refl _).drew
        (repeat (first | (apply hw_read (by rfl) (by rfl); (· (intro W hW; (try dsimp only at hW); go_simp; (first | done | rfl | (rw [if_pos] <;> first | omega | rfl)))); (try simp only [Act.put, List.setIfInBounds_toArray, List.set_cons_zero, List.set_cons_succ])) | (refine hw_skip (by rfl) (by rfl) ?_; (try simp only [Act.put, List.setIfInBounds_toArray, List.set_cons_zero, List.set_cons_succ]))))
        refine hw_step (by rfl) ?_
        go_wp2_with (go_at_call 65; refine (Cw _).mono ?_; rintro e w4 ⟨rfl, he4⟩)
        have he5 := (Ext.refl wr).drew.trans he4
        refine ⟨he5, ?_⟩
        (repeat (first | (apply hw_read (by rfl) (by rfl); (· (intro W hW; (try dsimp only at hW); go_simp; (first | done | rfl | (rw [if_pos] <;> first | omega | rfl)))); (try simp only [Act.put, List.setIfInBounds_toArray, List.set_cons_zero, List.set_cons_succ])) | (refine hw_skip (by rfl) (by rfl) ?_; (try simp only [Act.put, List.setIfInBounds_toArray, List.set_cons_zero, List.set_cons_succ]))))
        (try (refine hw_step (by rfl) ?_; go_wp2; refine ⟨he5, ?_⟩))
        (try (repeat (first | (apply hw_read (by rfl) (by rfl); (· (intro W hW; (try dsimp only at hW); go_simp; (first | done | rfl | (rw [if_pos] <;> first | omega | rfl)))); (try simp only [Act.put, List.setIfInBounds_toArray, List.set_cons_zero, List.set_cons_succ])) | (refine hw_skip (by rfl) (by rfl) ?_; (try simp only [Act.put, List.setIfInBounds_toArray, List.set_cons_zero, List.set_cons_succ])))))
        (try (refine hw_nil ?_; (try simp only [List.drop_succ_cons, List.drop_zero])))
        go_wp2
        refine NoPanic.normal ?_
        (try dsimp only [Exit.then])
        (try go_wp2)
        go_roundw
        case rel => exact ⟨k + 1, by omega, by go_num, he.trans he5, Hr⟩
        case measure => simp [RowKit.intOf]; omega
      | true =>
        simp only [hwi] at Cw
        have hw : IntKind.i64.wrap ((u : Int) + n) = (u : Int) + n := by simp [IntKind.wrap, IntKind.signed, IntKind.bits]; omega
        by_cases hgt : x.most < (u : Int) + n
        · have Hr : Hid (allowOk s t l q p n = false) := Lib.hid (by rw [Ha.out]; exact all_bad Hx.out (by simp only [hno, hwi]; simp [hgt]))
          clear hno hwi hall
          go_wp2
          refine wp_region_hold (fun W => Ext wr W) 23 [(0, true), (1, true), (2, true), (3, true), (4, true), (5, true), (6, false), (7, true), (8, true), (9, true), (10, true), (11, true), (12, true), (13, true), (14, true), (16, true), (18, true), (19, true), (20, true), (21, true), (22, true), (15, false), (17, true)] (by kernel_rfl) (by kernel_rfl) ?_ ?_
          · exact (Ext.refl _).drew
          (repeat (first | (apply hw_read (by rfl) (by rfl); (· (intro W hW; (try dsimp only at hW); go_simp; (first | done | rfl | (rw [if_pos] <;> first | omega | rfl)))); (try simp only [Act.put, List.setIfInBounds_toArray, List.set_cons_zero, List.set_cons_succ])) | (refine hw_skip (by rfl) (by rfl) ?_; (try simp only [Act.put, List.setIfInBounds_toArray, List.set_cons_zero, List.set_cons_succ]))))
          refine hw_step (by rfl) ?_
          go_wp2_with (go_at_call 65; refine (Cw _).mono ?_; rintro e w4 ⟨rfl, he4⟩)
          have he5 := (Ext.refl wr).drew.trans he4
          refine ⟨he5, ?_⟩
          (repeat (first | (apply hw_read (by rfl) (by rfl); (· (intro W hW; (try dsimp only at hW); go_simp; (first | done | rfl | (rw [if_pos] <;> first | omega | rfl)))); (try simp only [Act.put, List.setIfInBounds_toArray, List.set_cons_zero, List.set_cons_succ])) | (refine hw_skip (by rfl) (by rfl) ?_; (try simp only [Act.put, List.setIfInBounds_toArray, List.set_cons_zero, List.set_cons_succ]))))
          refine hw_step (by rfl) ?_
          go_wp2_with (go_at_call 50; refine (Cx _ he5).mono ?_; rintro e w6 ⟨rfl, he6⟩)
          have he7 := he5.trans he6
          refine ⟨he7, ?_⟩
          (try (repeat (first | (apply hw_read (by rfl) (by rfl); (· (intro W hW; (try dsimp only at hW); go_simp; (first | done | rfl | (rw [if_pos] <;> first | omega | rfl)))); (try simp only [Act.put, List.setIfInBounds_toArray, List.set_cons_zero, List.set_cons_succ])) | (refine hw_skip (by rfl) (by rfl) ?_; (try simp only [Act.put, List.setIfInBounds_toArray, List.set_cons_zero, List.set_cons_succ])))))
          (refine hw_nil ?_; (try simp only [List.drop_succ_cons, List.drop_zero]))
          go_wp2
          refine NoPanic.normal ?_
          (try dsimp only [Exit.then])
          (try go_wp2)
          go_ret
          exact ⟨ret_b Hr.out.symm, e0.trans (he.trans he7)⟩
        · have Hr := Lib.hid (all_take hall.out Hx.out (by simp only [hno, hwi]; simp; omega))
          clear hno hwi hall
          go_wp2
          refine wp_region_hold (fun W => Ext wr W) 23 [(0, true), (1, true), (2, true), (3, true), (4, true), (5, true), (6, false), (7, true), (8, true), (9, true), (10, true), (11, true), (12, true), (13, true), (14, true), (16, true), (18, true), (19, true), (20, true), (21, true), (22, true), (15, false), (17, true)] (by kernel_rfl) (by kernel_rfl) ?_ ?_
          · exact (Ext.refl _).drew
          (repeat (first | (apply hw_read (by rfl) (by rfl); (· (intro W hW; (try dsimp only at hW); go_simp; (first | done | rfl | (rw [if_pos] <;> first | omega | rfl)))); (try simp only [Act.put, List.setIfInBounds_toArray, List.set_cons_zero, List.set_cons_succ])) | (refine hw_skip (by rfl) (by rfl) ?_; (try simp only [Act.put, List.setIfInBounds_toArray, List.set_cons_zero, List.set_cons_succ]))))
          refine hw_step (by rfl) ?_
          go_wp2_with (go_at_call 65; refine (Cw _).mono ?_; rintro e w4 ⟨rfl, he4⟩)
          have he5 := (Ext.refl wr).drew.trans he4
          refine ⟨he5, ?_⟩
          (repeat (first | (apply hw_read (by rfl) (by rfl); (· (intro W hW; (try dsimp only at hW); go_simp; (first | done | rfl | (rw [if_pos] <;> first | omega | rfl)))); (try simp only [Act.put, List.setIfInBounds_toArray, List.set_cons_zero, List.set_cons_succ])) | (refine hw_skip (by rfl) (by rfl) ?_; (try simp only [Act.put, List.setIfInBounds_toArray, List.set_cons_zero, List.set_cons_succ]))))
          refine hw_step (by rfl) ?_
          go_wp2_with (go_at_call 50; refine (Cx _ he5).mono ?_; rintro e w6 ⟨rfl, he6⟩)
          have he7 := he5.trans he6
          refine ⟨he7, ?_⟩
          (try (repeat (first | (apply hw_read (by rfl) (by rfl); (· (intro W hW; (try dsimp only at hW); go_simp; (first | done | rfl | (rw [if_pos] <;> first | omega | rfl)))); (try simp only [Act.put, List.setIfInBounds_toArray, List.set_cons_zero, List.set_cons_succ])) | (refine hw_skip (by rfl) (by rfl) ?_; (try simp only [Act.put, List.setIfInBounds_toArray, List.set_cons_zero, List.set_cons_succ])))))
          (refine hw_nil ?_; (try simp only [List.drop_succ_cons, List.drop_zero]))
          go_wp2
          refine NoPanic.normal ?_
          (try dsimp only [Exit.then])
          (try go_wp2)
          go_roundw
          case rel => exact ⟨k + 1, by omega, by go_num, he.trans he7, Hr⟩
          case measure => simp [RowKit.intOf]; omega
    · have hks : k = m := by omega
      subst hks
      have Hr : Hid (allowOk s t l q p n = true) := Lib.hid (by rw [Ha.out]; exact all_end hall.out Hm.out)
      clear hall
      go_wp2
      go_ret
      exact ⟨ret_b Hr.out.symm, e0.trans he⟩
set_option maxRecDepth 8000 in
set_option maxHeartbeats 8000000 in
theorem QuotasAllow_c {a : Addr} {B B' B2 B3 : Nat} {vs vt vn vq : Value} {s : List Hd} {t : List It} {l : List Sn} {q : List Qt} (p : ByteArray) (n : Int) (w : World) (hs : Hds B w vs s) (ht : Its B' w vt t) (hn : Sns B2 w vn l) (hq : Qts B3 w vq q) (hp : p.size < lim) (_hin : inI n) (hm : ML w) (hE : EB a w) :
    Calls Tryz.prog 23 #[.agg #[vs, vt, vn], vq, .string p, .int .i64 n] w (Ret (.bool (allowOk s t l q p n)) w) := by
  have HS := Lib.hid hs; have HT := Lib.hid ht; have HN := Lib.hid hn; have HQ := Lib.hid hq; have HM := Lib.hid hm
  obtain ⟨A, c, rfl, -⟩ := hs
  obtain ⟨A2, c2, rfl, -⟩ := ht
  obtain ⟨A3, c3, rfl, -⟩ := hn
  obtain ⟨A4, c4, rfl, hA⟩ := hq
  have hl := hA.2.2.1
  unfold lim at hl
  have HA := Lib.hid hA
  have e0 : Ext w (w.alloc (.cells #[.slice A s.length c, .slice A2 t.length c2, .slice A3 l.length c3] 27)) := (Ext.refl w).alloc _
  have Cn := newDisk_c _ (HS.out.ext e0) (HT.out.ext e0) (HN.out.ext e0) (HM.out.ext e0)
  clear hm hA
  go_enter Tryz.func23, Tryz.ntmps23
  go_wp2_with fail
  refine Cn.mono ?_
  rintro e w1 ⟨he1, ⟨hv, rfl⟩ | ⟨hv, g, rfl, b, adr, kv, v, aq, -, hD, hSt, hTr, -, -⟩⟩
  · have Hr := Lib.hid (allow_no (q := q) (p := p) (n := n) (by unfold allowIn; rw [hv]; rfl : allowIn s t l q p n = false))
    clear hv Cn
    generalize q.length = m at *
    go_wp2
    go_ret
    exact ⟨ret_b Hr.out.symm, e0.trans he1⟩
  have E1 := Lib.hid (e0.trans he1)
  have HE : Hid (EB a w1) := Lib.hid (hE.ext E1.out)
  have Cq := QuotasValid_c w1 (HQ.out.ext E1.out) (HM.out.ext E1.out)
  have Cp := fun W (e : Ext w1 W) => PathValid_c p W hp (HM.out.ext (E1.out.trans e))
  have g2 := fun W (e : Ext w1 W) => hD.at_ (i := 2) (u := .map (some b)) rfl W e
  have g3 := fun W (e : Ext w1 W) => hD.at_ (i := 3) (u := .pointer (some ⟨adr [], 0, none⟩)) rfl W e
  clear hD Cn hE
  cases hqo : quotasOk q with
  | false =>
    rw [hqo] at Cq
    have Hr := Lib.hid (allow_no (p := p) (n := n) (by unfold allowIn; rw [hv, hqo]; rfl : allowIn s t l q p n = false))
    clear hv hqo hSt hTr Cp
    generalize q.length = m at *
    go_wp2_with (go_at_call 46; refine Cq.mono ?_; rintro e w2 ⟨rfl, he2⟩)
    go_ret
    exact ⟨ret_b Hr.out.symm, E1.out.trans he2⟩
  | true =>
  rw [hqo] at Cq
  cases hpo : pathOk p with
  | false =>
    simp only [hpo] at Cp
    have Hr := Lib.hid (allow_no (n := n) (by unfold allowIn; rw [hv, hqo, hpo]; rfl : allowIn s t l q p n = false))
    clear hv hqo hpo hSt hTr
    generalize q.length = m at *
    go_wp2_with (first | (go_at_call 46; refine Cq.mono ?_; rintro e w2 ⟨rfl, he2⟩) | (go_at_call 61; refine (Cp _ he2).mono ?_; rintro e w3 ⟨rfl, he3⟩))
    go_ret
    exact ⟨ret_b Hr.out.symm, E1.out.trans (he2.trans he3)⟩
  | true =>
  simp only [hpo] at Cp
  by_cases hn0 : n < 0
  · have Hr := Lib.hid (allow_no (by unfold allowIn; rw [hv, hqo, hpo, show inB n 0 32 = false from by unfold inB; simp; omega]; rfl : allowIn s t l q p n = false))
    clear hv hqo hpo hSt hTr
    generalize q.length = m at *
    go_wp2_with (first | (go_at_call 46; refine Cq.mono ?_; rintro e w2 ⟨rfl, he2⟩) | (go_at_call 61; refine (Cp _ he2).mono ?_; rintro e w3 ⟨rfl, he3⟩))
    go_ret
    exact ⟨ret_b Hr.out.symm, E1.out.trans (he2.trans he3)⟩
  by_cases hn32 : 32 < n
  · have Hr := Lib.hid (allow_no (by unfold allowIn; rw [hv, hqo, hpo, show inB n 0 32 = false from by unfold inB; simp; omega]; rfl : allowIn s t l q p n = false))
    clear hv hqo hpo hSt hTr
    generalize q.length = m at *
    go_wp2_with (first | (go_at_call 46; refine Cq.mono ?_; rintro e w2 ⟨rfl, he2⟩) | (go_at_call 61; refine (Cp _ he2).mono ?_; rintro e w3 ⟨rfl, he3⟩))
    go_ret
    exact ⟨ret_b Hr.out.symm, E1.out.trans (he2.trans he3)⟩
  have hni : inB n 0 32 = true := by unfold inB; simp; omega
  have Ha : Hid (allowOk s t l q p n = q.all fun x => !qtNo s t p n x) := Lib.hid (by unfold allowOk allowIn; rw [hv, hqo, hpo, hni]; rfl)
  obtain ⟨hso, hto, hfit, -, -⟩ := disk_parts hv
  have hg := treeOk_iff'.1 hto
  have h12 := hg.1
  have Hul := Lib.hid fun d => usedBut_le hso hfit h12 d p
  have Hsp := Lib.hid fun d (hw : within p d = true) => used_at (s := s) hto hw
  have hsz := sizeAt_le hso hfit p
  have Cu := fun d (hd : d.size < lim) W (e : Ext w1 W) => used_c d W hso (hSt.ext e) hto (hTr.ext e) hfit hd (HM.out.ext (E1.out.trans e))
  have Cf := fun W (e : Ext w1 W) => nodeFind_c (hTr.ext e) hg.2 (by unfold lim; omega) p hp (HM.out.ext (E1.out.trans e))
  have Hpo := Lib.hid hpo
  generalize hmm : q.length = m at *
  have Hm := Lib.hid hmm; clear hmm
  cases hf : findIt t p with
  | none =>
    have hsa : sizeAt s t p = 0 := by unfold sizeAt; rw [hf]
    rw [hsa] at Hsp
    have e1 : findV t adr p = .pointer none := by unfold findV; rw [hf]
    simp only [e1] at Cf
    clear hf hsa e1 hsz hv hqo hpo hni hso hto hfit hg h12 hSt hTr
    go_wp2_with (first | (go_at_call 46; refine Cq.mono ?_; rintro e w2 ⟨rfl, he2⟩) | (go_at_call 61; refine (Cp _ he2).mono ?_; rintro e w3 ⟨rfl, he3⟩; have z3 := g3 w3 (he2.trans he3)) | (go_at_call 40; refine (Cf _ (he2.trans he3)).mono ?_; rintro e w4 ⟨rfl, he4⟩))
    have E4 := (he2.trans he3).trans he4
    clear Cq Cp Cf he2 he3 he4 z3
    go_loopw [65] (fun i wr => ∃ k : Nat, k ≤ m ∧ i = .int .i64 k ∧ Ext w1 wr ∧ Hid ((q.take k).all (fun x => !qtNo s t p n x) = true)) (fun i _ => m - (RowKit.intOf i).toNat)
    case atStart => exact ⟨0, by omega, rfl, E4, Lib.hid rfl⟩
    case round =>
      obtain ⟨k, hk, rfl, he, hall⟩ := hrel
      by_cases hlt : k < m
      · obtain ⟨x, hx⟩ := get_of_lt (l := q) (k := k) (by rw [Hm.out]; exact hlt)
        obtain ⟨b9, o9, rfl, -, -, hps, hmi, hc0, hc1⟩ := Qts.at_ HA.out hx
        have a0 := hc0 wr (E1.out.trans he); have a1 := hc1 wr (E1.out.trans he)
        have ea : Ext wr (wr.alloc (.cells #[.string x.dir, .int .i64 x.most] 47)) := (Ext.refl wr).alloc _
        have hbs := Blk.new wr 47 #[.string x.dir, .int .i64 x.most]
        have s0 := fun W (e : Ext _ W) => hbs.at_ (i := 0) (u := .string x.dir) rfl W e
        have s1 := fun W (e : Ext _ W) => hbs.at_ (i := 1) (u := .int .i64 x.most) rfl W e
        have Cw := PathWithin_c p x.dir _ hp hps (HM.out.ext (E1.out.trans (he.trans ea)))
        rw [Hpo.out, Bool.true_and] at Cw
        have Cx := fun W (e : Ext w1 W) => Cu x.dir hps W e
        have Cc := fun z W (e : Ext w1 W) => check_c (a := a) x.dir x.most z W (HE.out.ext e)
        have G2 := fun W (e : Ext (wr.alloc (.cells #[.string x.dir, .int .i64 x.most] 47)) W) => g2 W (he.trans (ea.trans e))
        have G3 := fun W (e : Ext (wr.alloc (.cells #[.string x.dir, .int .i64 x.most] 47)) W) => g3 W (he.trans (ea.trans e))
        have hul := Hul.out x.dir
        have Hx := Lib.hid hx
        have hno : qtNo s t p n x = (within p x.dir && decide (x.most < (usedBut s t x.dir p : Nat) + n)) := rfl
        clear hc0 hc1 hx hbs
        cases hwi : within p x.dir with
        | false =>
          rw [hwi] at Cw
          have Hr := Lib.hid (all_take hall.out Hx.out (by simp only [hno, hwi]; rfl))
          clear hno hwi hall Cx Cc
          go_wp2_with (go_at_call 63; refine Cw.mono ?_; rintro e w2 ⟨rfl, he2⟩)
          go_roundw
          case rel => exact ⟨k + 1, by omega, by go_num, he.trans (ea.trans he2), Hr⟩
          case measure => simp [RowKit.intOf]; omega
        | true =>
          rw [hwi] at Cw
          have hsp := Hsp.out x.dir hwi
          have hw : IntKind.i64.wrap ((usedT s t x.dir : Int) + n) = (usedBut s t x.dir p : Int) + n := by
            rw [show (usedT s t x.dir : Int) + n = (usedBut s t x.dir p : Int) + n from by omega]
            simp [IntKind.wrap, IntKind.signed, IntKind.bits]; omega
          generalize usedBut s t x.dir p = u at *
          generalize usedT s t x.dir = ut at *
          have Cd := Cc ((u : Int) + n)
          clear Cc hsp
          by_cases hgt : x.most < (u : Int) + n
          · have Hr : Hid (allowOk s t l q p n = false) := Lib.hid (by rw [Ha.out]; exact all_bad Hx.out (by simp only [hno, hwi]; simp [hgt]))
            simp only [if_pos hgt] at Cd
            clear hno hwi hall
            go_wp2_with (go_at_call 63; refine Cw.mono ?_; rintro e w2 ⟨rfl, he2⟩)
            refine wp_region_hold (fun W => Ext (wr.alloc (.cells #[.string x.dir, .int .i64 x.most] 47)) W) 10 [(0, true), (1, true), (2, true), (3, true), (4, true), (5, true), (6, true), (8, true), (7, false), (9, true)] (by kernel_rfl) (by kernel_rfl) ?_ ?_
            · exact he2.drew
            (repeat (first | (apply hw_read (by rfl) (by rfl); (· (intro W hW; (try dsimp only at hW); go_simp; (first | done | rfl | (rw [if_pos] <;> first | omega | rfl)))); (try simp only [Act.put, List.setIfInBounds_toArray, List.set_cons_zero, List.set_cons_succ])) | (refine hw_skip (by rfl) (by rfl) ?_; (try simp only [Act.put, List.setIfInBounds_toArray, List.set_cons_zero, List.set_cons_succ]))))
            refine hw_step (by rfl) ?_
            go_wp2_with (go_at_call 48; refine (Cx _ (he.trans (ea.trans he2.drew))).mono ?_; rintro e w4 ⟨rfl, he4⟩)
            have he5 := he2.drew.trans he4
            refine ⟨he5, ?_⟩
            (repeat (first | (apply hw_read (by rfl) (by rfl); (· (intro W hW; (try dsimp only at hW); go_simp; (first | done | rfl | (rw [if_pos] <;> first | omega | rfl)))); (try simp only [Act.put, List.setIfInBounds_toArray, List.set_cons_zero, List.set_cons_succ])) | (refine hw_skip (by rfl) (by rfl) ?_; (try simp only [Act.put, List.setIfInBounds_toArray, List.set_cons_zero, List.set_cons_succ]))))
            (refine hw_nil ?_; (try simp only [List.drop_succ_cons, List.drop_zero]))
            go_wp2_with (go_at_call 47; refine (Cd _ (he.trans (ea.trans he5))).mono ?_; rintro e w6 ⟨rfl, he6⟩)
            refine NoPanic.normal ?_
            (try dsimp only [Exit.then])
            have z0 : w6.cell? ⟨0, 0, none⟩ = some (.iface 299 (.pointer (some a))) := HE.out.ext (he.trans (ea.trans (he5.trans he6)))
            go_wp2_with (go_at_call 49; refine (is_same a _).mono ?_; rintro e w7 ⟨rfl, rfl⟩)
            go_ret
            exact ⟨ret_b Hr.out.symm, E1.out.trans (he.trans (ea.trans (he5.trans he6)))⟩
          · have Hr := Lib.hid (all_take hall.out Hx.out (by simp only [hno, hwi]; simp; omega))
            simp only [if_neg hgt] at Cd
            clear hno hwi hall
            go_wp2_with (go_at_call 63; refine Cw.mono ?_; rintro e w2 ⟨rfl, he2⟩)
            refine wp_region_hold (fun W => Ext (wr.alloc (.cells #[.string x.dir, .int .i64 x.most] 47)) W) 10 [(0, true), (1, true), (2, true), (3, true), (4, true), (5, true), (6, true), (8, true), (7, false), (9, true)] (by kernel_rfl) (by kernel_rfl) ?_ ?_
            · exact he2.drew
            (repeat (first | (apply hw_read (by rfl) (by rfl); (· (intro W hW; (try dsimp only at hW); go_simp; (first | done | rfl | (rw [if_pos] <;> first | omega | rfl)))); (try simp only [Act.put, List.setIfInBounds_toArray, List.set_cons_zero, List.set_cons_succ])) | (refine hw_skip (by rfl) (by rfl) ?_; (try simp only [Act.put, List.setIfInBounds_toArray, List.set_cons_zero, List.set_cons_succ]))))
            refine hw_step (by rfl) ?_
            go_wp2_with (go_at_call 48; refine (Cx _ (he.trans (ea.trans he2.drew))).mono ?_; rintro e w4 ⟨rfl, he4⟩)
            have he5 := he2.drew.trans he4
            refine ⟨he5, ?_⟩
            (repeat (first | (apply hw_read (by rfl) (by rfl); (· (intro W hW; (try dsimp only at hW); go_simp; (first | done | rfl | (rw [if_pos] <;> first | omega | rfl)))); (try simp only [Act.put, List.setIfInBounds_toArray, List.set_cons_zero, List.set_cons_succ])) | (refine hw_skip (by rfl) (by rfl) ?_; (try simp only [Act.put, List.setIfInBounds_toArray, List.set_cons_zero, List.set_cons_succ]))))
            (refine hw_nil ?_; (try simp only [List.drop_succ_cons, List.drop_zero]))
            go_wp2_with (go_at_call 47; refine (Cd _ (he.trans (ea.trans he5))).mono ?_; rintro e w6 ⟨rfl, he6⟩)
            refine NoPanic.normal ?_
            (try dsimp only [Exit.then])
            have z0 : w6.cell? ⟨0, 0, none⟩ = some (.iface 299 (.pointer (some a))) := HE.out.ext (he.trans (ea.trans (he5.trans he6)))
            go_wp2_with (go_at_call 49; refine (is_nil a _).mono ?_; rintro e w7 ⟨rfl, rfl⟩)
            go_roundw
            case rel => exact ⟨k + 1, by omega, by go_num, he.trans (ea.trans (he5.trans he6)), Hr⟩
            case measure => simp [RowKit.intOf]; omega
      · have hks : k = m := by omega
        subst hks
        have Hr : Hid (allowOk s t l q p n = true) := Lib.hid (by rw [Ha.out]; exact all_end hall.out Hm.out)
        clear hall
        go_wp2
        go_ret
        exact ⟨ret_b Hr.out.symm, E1.out.trans he⟩
  | some y =>
    have hsa : sizeAt s t p = (loadOf s y.ids).length := by unfold sizeAt; rw [hf]
    rw [hsa] at Hsp hsz
    have e1 : findV t adr p = .pointer (some ⟨adr (key y), 0, none⟩) := by unfold findV; rw [hf]
    simp only [e1] at Cf
    have hym := (findIt_some hf).1
    obtain ⟨-, -, u, hb, hu⟩ := hTr.nodes y hym
    have y2 := fun W (e : Ext w1 W) => hb.at_ (i := 2) (u := u) rfl W e
    have Cz := fun W (e : Ext w1 W) => sizeOf_c W hso (hSt.ext e) (hu.ext e) (hfit y hym)
    obtain ⟨Au, cu, rfl, -⟩ := hu
    clear hf hsa e1 hv hqo hpo hni hso hto hfit hg h12 hSt hTr hb hym
    generalize (loadOf s y.ids).length = ll at *
    have hwl : IntKind.i64.wrap (n - (ll : Int)) = n - (ll : Int) := by simp [IntKind.wrap, IntKind.signed, IntKind.bits]; omega
    go_wp2_with (first | (go_at_call 46; refine Cq.mono ?_; rintro e w2 ⟨rfl, he2⟩) | (go_at_call 61; refine (Cp _ he2).mono ?_; rintro e w3 ⟨rfl, he3⟩; have z3 := g3 w3 (he2.trans he3)) | (go_at_call 40; refine (Cf _ (he2.trans he3)).mono ?_; rintro e w4 ⟨rfl, he4⟩))
    have E4 := (he2.trans he3).trans he4
    clear Cq Cp Cf he2 he3 he4 z3
    refine wp_region_hold (fun W => W.cell? ⟨g, 2, none⟩ = some (.map (some b)) ∧ W.cell? ⟨adr (key y), 2, none⟩ = some (.slice Au y.ids.length cu)) 11 [(0, true), (1, true), (2, true), (3, true), (4, true), (5, true), (6, true), (7, true), (8, true), (9, true), (10, false)] (by kernel_rfl) (by kernel_rfl) ?_ ?_
    · exact ⟨g2 _ E4.drew, y2 _ E4.drew⟩
    (repeat (first | (apply hw_read (by rfl) (by rfl); (· (intro W hW; (try dsimp only at hW); go_simp; (first | done | rfl | (rw [if_pos] <;> first | omega | rfl)))); (try simp only [Act.put, List.setIfInBounds_toArray, List.set_cons_zero, List.set_cons_succ])) | (refine hw_skip (by rfl) (by rfl) ?_; (try simp only [Act.put, List.setIfInBounds_toArray, List.set_cons_zero, List.set_cons_succ]))))
    refine hw_step (by rfl) ?_
    go_wp2_with (go_at_call 62; refine (Cz _ E4.drew).mono ?_; rintro e w5 ⟨rfl, he5⟩)
    have E5 := E4.drew.trans he5
    refine ⟨⟨g2 _ E5, y2 _ E5⟩, ?_⟩
    (try (repeat (first | (apply hw_read (by rfl) (by rfl); (· (intro W hW; (try dsimp only at hW); go_simp; (first | done | rfl | (rw [if_pos] <;> first | omega | rfl)))); (try simp only [Act.put, List.setIfInBounds_toArray, List.set_cons_zero, List.set_cons_succ])) | (refine hw_skip (by rfl) (by rfl) ?_; (try simp only [Act.put, List.setIfInBounds_toArray, List.set_cons_zero, List.set_cons_succ])))))
    (refine hw_nil ?_; (try simp only [List.drop_succ_cons, List.drop_zero]))
    go_wp2
    refine NoPanic.normal ?_
    (try dsimp only [Exit.then])
    (try go_wp2)
    clear Cz y2
    go_loopw [65] (fun i wr => ∃ k : Nat, k ≤ m ∧ i = .int .i64 k ∧ Ext w1 wr ∧ Hid ((q.take k).all (fun x => !qtNo s t p n x) = true)) (fun i _ => m - (RowKit.intOf i).toNat)
    case atStart => exact ⟨0, by omega, rfl, E5, Lib.hid rfl⟩
    case round =>
      obtain ⟨k, hk, rfl, he, hall⟩ := hrel
      by_cases hlt : k < m
      · obtain ⟨x, hx⟩ := get_of_lt (l := q) (k := k) (by rw [Hm.out]; exact hlt)
        obtain ⟨b9, o9, rfl, -, -, hps, hmi, hc0, hc1⟩ := Qts.at_ HA.out hx
        have a0 := hc0 wr (E1.out.trans he); have a1 := hc1 wr (E1.out.trans he)
        have ea : Ext wr (wr.alloc (.cells #[.string x.dir, .int .i64 x.most] 47)) := (Ext.refl wr).alloc _
        have hbs := Blk.new wr 47 #[.string x.dir, .int .i64 x.most]
        have s0 := fun W (e : Ext _ W) => hbs.at_ (i := 0) (u := .string x.dir) rfl W e
        have s1 := fun W (e : Ext _ W) => hbs.at_ (i := 1) (u := .int .i64 x.most) rfl W e
        have Cw := PathWithin_c p x.dir _ hp hps (HM.out.ext (E1.out.trans (he.trans ea)))
        rw [Hpo.out, Bool.true_and] at Cw
        have Cx := fun W (e : Ext w1 W) => Cu x.dir hps W e
        have Cc := fun z W (e : Ext w1 W) => check_c (a := a) x.dir x.most z W (HE.out.ext e)
        have G2 := fun W (e : Ext (wr.alloc (.cells #[.string x.dir, .int .i64 x.most] 47)) W) => g2 W (he.trans (ea.trans e))
        have G3 := fun W (e : Ext (wr.alloc (.cells #[.string x.dir, .int .i64 x.most] 47)) W) => g3 W (he.trans (ea.trans e))
        have hul := Hul.out x.dir
        have Hx := Lib.hid hx
        have hno : qtNo s t p n x = (within p x.dir && decide (x.most < (usedBut s t x.dir p : Nat) + n)) := rfl
        clear hc0 hc1 hx hbs
        cases hwi : within p x.dir with
        | false =>
          rw [hwi] at Cw
          have Hr := Lib.hid (all_take hall.out Hx.out (by simp only [hno, hwi]; rfl))
          clear hno hwi hall Cx Cc
          go_wp2_with (go_at_call 63; refine Cw.mono ?_; rintro e w2 ⟨rfl, he2⟩)
          go_roundw
          case rel => exact ⟨k + 1, by omega, by go_num, he.trans (ea.trans he2), Hr⟩
          case measure => simp [RowKit.intOf]; omega
        | true =>
          rw [hwi] at Cw
          have hsp := Hsp.out x.dir hwi
          have hw : IntKind.i64.wrap ((usedT s t x.dir : Int) + (n - (ll : Int))) = (usedBut s t x.dir p : Int) + n := by
            rw [show (usedT s t x.dir : Int) + (n - (ll : Int)) = (usedBut s t x.dir p : Int) + n from by omega]
            simp [IntKind.wrap, IntKind.signed, IntKind.bits]; omega
          generalize usedBut s t x.dir p = u at *
          generalize usedT s t x.dir = ut at *
          have Cd := Cc ((u : Int) + n)
          clear Cc hsp
          by_cases hgt : x.most < (u : Int) + n
          · have Hr : Hid (allowOk s t l q p n = false) := Lib.hid (by rw [Ha.out]; exact all_bad Hx.out (by simp only [hno, hwi]; simp [hgt]))
            simp only [if_pos hgt] at Cd
            clear hno hwi hall
            go_wp2_with (go_at_call 63; refine Cw.mono ?_; rintro e w2 ⟨rfl, he2⟩)
            refine wp_region_hold (fun W => Ext (wr.alloc (.cells #[.string x.dir, .int .i64 x.most] 47)) W) 10 [(0, true), (1, true), (2, true), (3, true), (4, true), (5, true), (6, true), (8, true), (7, false), (9, true)] (by kernel_rfl) (by kernel_rfl) ?_ ?_
            · exact he2.drew
            (repeat (first | (apply hw_read (by rfl) (by rfl); (· (intro W hW; (try dsimp only at hW); go_simp; (first | done | rfl | (rw [if_pos] <;> first | omega | rfl)))); (try simp only [Act.put, List.setIfInBounds_toArray, List.set_cons_zero, List.set_cons_succ])) | (refine hw_skip (by rfl) (by rfl) ?_; (try simp only [Act.put, List.setIfInBounds_toArray, List.set_cons_zero, List.set_cons_succ]))))
            refine hw_step (by rfl) ?_
            go_wp2_with (go_at_call 48; refine (Cx _ (he.trans (ea.trans he2.drew))).mono ?_; rintro e w4 ⟨rfl, he4⟩)
            have he5 := he2.drew.trans he4
            refine ⟨he5, ?_⟩
            (repeat (first | (apply hw_read (by rfl) (by rfl); (· (intro W hW; (try dsimp only at hW); go_simp; (first | done | rfl | (rw [if_pos] <;> first | omega | rfl)))); (try simp only [Act.put, List.setIfInBounds_toArray, List.set_cons_zero, List.set_cons_succ])) | (refine hw_skip (by rfl) (by rfl) ?_; (try simp only [Act.put, List.setIfInBounds_toArray, List.set_cons_zero, List.set_cons_succ]))))
            (refine hw_nil ?_; (try simp only [List.drop_succ_cons, List.drop_zero]))
            go_wp2_with (go_at_call 47; refine (Cd _ (he.trans (ea.trans he5))).mono ?_; rintro e w6 ⟨rfl, he6⟩)
            refine NoPanic.normal ?_
            (try dsimp only [Exit.then])
            have z0 : w6.cell? ⟨0, 0, none⟩ = some (.iface 299 (.pointer (some a))) := HE.out.ext (he.trans (ea.trans (he5.trans he6)))
            go_wp2_with (go_at_call 49; refine (is_same a _).mono ?_; rintro e w7 ⟨rfl, rfl⟩)
            go_ret
            exact ⟨ret_b Hr.out.symm, E1.out.trans (he.trans (ea.trans (he5.trans he6)))⟩
          · have Hr := Lib.hid (all_take hall.out Hx.out (by simp only [hno, hwi]; simp; omega))
            simp only [if_neg hgt] at Cd
            clear hno hwi hall
            go_wp2_with (go_at_call 63; refine Cw.mono ?_; rintro e w2 ⟨rfl, he2⟩)
            refine wp_region_hold (fun W => Ext (wr.alloc (.cells #[.string x.dir, .int .i64 x.most] 47)) W) 10 [(0, true), (1, true), (2, true), (3, true), (4, true), (5, true), (6, true), (8, true), (7, false), (9, true)] (by kernel_rfl) (by kernel_rfl) ?_ ?_
            · exact he2.drew
            (repeat (first | (apply hw_read (by rfl) (by rfl); (· (intro W hW; (try dsimp only at hW); go_simp; (first | done | rfl | (rw [if_pos] <;> first | omega | rfl)))); (try simp only [Act.put, List.setIfInBounds_toArray, List.set_cons_zero, List.set_cons_succ])) | (refine hw_skip (by rfl) (by rfl) ?_; (try simp only [Act.put, List.setIfInBounds_toArray, List.set_cons_zero, List.set_cons_succ]))))
            refine hw_step (by rfl) ?_
            go_wp2_with (go_at_call 48; refine (Cx _ (he.trans (ea.trans he2.drew))).mono ?_; rintro e w4 ⟨rfl, he4⟩)
            have he5 := he2.drew.trans he4
            refine ⟨he5, ?_⟩
            (repeat (first | (apply hw_read (by rfl) (by rfl); (· (intro W hW; (try dsimp only at hW); go_simp; (first | done | rfl | (rw [if_pos] <;> first | omega | rfl)))); (try simp only [Act.put, List.setIfInBounds_toArray, List.set_cons_zero, List.set_cons_succ])) | (refine hw_skip (by rfl) (by rfl) ?_; (try simp only [Act.put, List.setIfInBounds_toArray, List.set_cons_zero, List.set_cons_succ]))))
            (refine hw_nil ?_; (try simp only [List.drop_succ_cons, List.drop_zero]))
            go_wp2_with (go_at_call 47; refine (Cd _ (he.trans (ea.trans he5))).mono ?_; rintro e w6 ⟨rfl, he6⟩)
            refine NoPanic.normal ?_
            (try dsimp only [Exit.then])
            have z0 : w6.cell? ⟨0, 0, none⟩ = some (.iface 299 (.pointer (some a))) := HE.out.ext (he.trans (ea.trans (he5.trans he6)))
            go_wp2_with (go_at_call 49; refine (is_nil a _).mono ?_; rintro e w7 ⟨rfl, rfl⟩)
            go_roundw
            case rel => exact ⟨k + 1, by omega, by go_num, he.trans (ea.trans (he5.trans he6)), Hr⟩
            case measure => simp [RowKit.intOf]; omega
      · have hks : k = m := by omega
        subst hks
        have Hr : Hid (allowOk s t l q p n = true) := Lib.hid (by rw [Ha.out]; exact all_end hall.out Hm.out)
        clear hall
        go_wp2
        go_ret
        exact ⟨ret_b Hr.out.symm, E1.out.trans he⟩
end Go.Sf

/-! Which quotas are over: the reference. -/
namespace Go.Sf
open Go Go.RowKit Go.Proofs Go.Maps
noncomputable def qtOver (s : List Hd) (t : List It) (x : Qt) : Bool := decide (x.most < (usedBut s t x.dir ⟨#[]⟩ : Nat))
noncomputable def overL (s : List Hd) (t : List It) (q : List Qt) : List ByteArray := (q.filter (qtOver s t)).map Qt.dir
noncomputable def overOf (s : List Hd) (t : List It) (l : List Sn) (q : List Qt) : List ByteArray := if (diskOk s t l && quotasOk q) = true then overL s t q else []
theorem over_take {s : List Hd} {t : List It} {q : List Qt} {k : Nat} {x : Qt} (h : q[k]? = some x) : overL s t (q.take (k + 1)) = overL s t (q.take k) ++ (if qtOver s t x = true then [x.dir] else []) := by
  unfold overL
  rw [List.take_add_one, h, Option.toList_some, List.filter_append, List.map_append]
  congr 1
  rw [List.filter_cons]
  split <;> rfl
theorem over_len {s : List Hd} {t : List It} (q : List Qt) : (overL s t q).length ≤ q.length := by
  unfold overL; rw [List.length_map]; exact List.length_filter_le _ _
set_option maxRecDepth 8000 in
set_option maxHeartbeats 4000000 in
theorem specQuotasOver_c {B B' B2 B3 : Nat} {vs vt vn vq : Value} {s : List Hd} {t : List It} {l : List Sn} {q : List Qt} (w : World) (hs : Hds B w vs s) (ht : Its B' w vt t) (hn : Sns B2 w vn l) (hq : Qts B3 w vq q) :
    Calls Tryz.prog 17 #[.agg #[vs, vt, vn], vq] w (RetP (fun v w' => Strs w.heap.size w' v (overOf s t l q)) w) := by
  have HS := Lib.hid hs; have HT := Lib.hid ht; have HN := Lib.hid hn; have HQ := Lib.hid hq
  obtain ⟨A, c, rfl, -⟩ := hs
  obtain ⟨A2, c2, rfl, -⟩ := ht
  obtain ⟨A3, c3, rfl, -⟩ := hn
  obtain ⟨A4, c4, rfl, hA⟩ := hq
  have hl := hA.2.2.1
  unfold lim at hl
  have e0 : Ext w (w.alloc (.cells #[.slice A s.length c, .slice A2 t.length c2, .slice A3 l.length c3] 27)) := (Ext.refl w).alloc _
  have hbk := Blk.new w 27 #[.slice A s.length c, .slice A2 t.length c2, .slice A3 l.length c3]
  have d0 := fun W (e : Ext _ W) => hbk.at_ (i := 0) (u := .slice A s.length c) rfl W e
  have d1 := fun W (e : Ext _ W) => hbk.at_ (i := 1) (u := .slice A2 t.length c2) rfl W e
  have d2 := fun W (e : Ext _ W) => hbk.at_ (i := 2) (u := .slice A3 l.length c3) rfl W e
  have Cd := fun W (e : Ext (w.alloc (.cells #[.slice A s.length c, .slice A2 t.length c2, .slice A3 l.length c3] 27)) W) => specDiskValid_c W (HS.out.ext (e0.trans e)) (HT.out.ext (e0.trans e)) (HN.out.ext (e0.trans e))
  have Cq := fun W (e : Ext (w.alloc (.cells #[.slice A s.length c, .slice A2 t.length c2, .slice A3 l.length c3] 27)) W) => specQuotasValid_c W (HQ.out.ext (e0.trans e))
  have HA := Lib.hid hA
  clear hbk hA
  generalize hmm : q.length = m at *
  have Hm := Lib.hid hmm; clear hmm
  have HO0 : Hid (OwnS (w.alloc (.cells #[.slice A s.length c, .slice A2 t.length c2, .slice A3 l.length c3] 27)).heap.size 9 1 EStr ((w.alloc (.cells #[.slice A s.length c, .slice A2 t.length c2, .slice A3 l.length c3] 27)).alloc (.cells #[] 9)) (.slice (some ⟨w.heap.size + 1, 0, none⟩) 0 0) ([] : List ByteArray)) := Lib.hid (by
    have := OwnS.lit0 (B := (w.alloc (.cells #[.slice A s.length c, .slice A2 t.length c2, .slice A3 l.length c3] 27)).heap.size) 9 1 EStr (w.alloc (.cells #[.slice A s.length c, .slice A2 t.length c2, .slice A3 l.length c3] 27)) (Nat.le_refl _)
    rwa [show (w.alloc (.cells #[.slice A s.length c, .slice A2 t.length c2, .slice A3 l.length c3] 27)).heap.size = w.heap.size + 1 from by simp] at this ⊢)
  cases hv : diskOk s t l && quotasOk q with
  | false =>
    have Hr : Hid (overOf s t l q = []) := Lib.hid (by unfold overOf; rw [hv]; rfl)
    go_enter Tryz.func17, Tryz.ntmps17
    go_wp2
    go_loopw [5, 6] (fun v i wr => i = .int .i64 0 ∧ OwnS (w.alloc (.cells #[.slice A s.length c, .slice A2 t.length c2, .slice A3 l.length c3] 27)).heap.size 9 1 EStr wr v ([] : List ByteArray) ∧ Ext (w.alloc (.cells #[.slice A s.length c, .slice A2 t.length c2, .slice A3 l.length c3] 27)) wr) (fun _ i _ => m - (RowKit.intOf i).toNat)
    case atStart => exact ⟨rfl, HO0.out, (Ext.refl _).alloc _⟩
    case round =>
      obtain ⟨rfl, hO, he⟩ := hrel
      have q0 := d0 wr he; have q1 := d1 wr he; have q2 := d2 wr he
      by_cases h0 : 0 < m
      · have h0' : (0 : Int) < (m : Int) := by omega
        cases hd : diskOk s t l with
        | false =>
          simp only [hd] at Cd
          clear hv hd Cq
          have hO2 := Lib.hid hO; clear hO
          go_wp2_with (go_at_call 19; refine (Cd _ he).mono ?_; rintro e w2 ⟨rfl, he2⟩)
          go_ret
          exact ⟨_, rfl, by rw [Hr.out]; exact (hO2.out.ext estr_ok he2).sl estr_ok e0.size (by simp), e0.trans (he.trans he2)⟩
        | true =>
          rw [hd, Bool.true_and] at hv
          simp only [hd] at Cd
          simp only [hv] at Cq
          clear hv hd
          have hO2 := Lib.hid hO; clear hO
          go_wp2_with (first | (go_at_call 19; refine (Cd _ he).mono ?_; rintro e w2 ⟨rfl, he2⟩) | (go_at_call 20; refine (Cq _ (he.trans he2)).mono ?_; rintro e w3 ⟨rfl, he3⟩))
          go_ret
          exact ⟨_, rfl, by rw [Hr.out]; exact (hO2.out.ext estr_ok (he2.trans he3)).sl estr_ok e0.size (by simp), e0.trans (he.trans (he2.trans he3))⟩
      · have h0' : ¬ (0 : Int) < (m : Int) := by omega
        have hO2 := Lib.hid hO; clear hO
        go_wp2
        go_ret
        exact ⟨_, rfl, by rw [Hr.out]; exact hO2.out.sl estr_ok e0.size (by simp), e0.trans he⟩
  | true =>
  have Hr : Hid (overOf s t l q = overL s t q) := Lib.hid (by unfold overOf; rw [hv]; rfl)
  rw [Bool.and_eq_true] at hv
  obtain ⟨hd, hqo⟩ := hv
  simp only [hd] at Cd
  simp only [hqo] at Cq
  obtain ⟨hso, hto, hfit, -, -⟩ := disk_parts hd
  have h12 := (treeOk_iff'.1 hto).1
  have Cu := fun d (hd : d.size < lim) W (e : Ext w W) => l15Used_c d ⟨#[]⟩ W (HS.out.ext e) (HT.out.ext e) (HN.out.ext e) hso hfit h12 hd
  clear hd hqo hso hto hfit h12
  go_enter Tryz.func17, Tryz.ntmps17
  go_wp2
  go_loopw [5, 6] (fun v i wr => ∃ k : Nat, k ≤ m ∧ i = .int .i64 k ∧ OwnS (w.alloc (.cells #[.slice A s.length c, .slice A2 t.length c2, .slice A3 l.length c3] 27)).heap.size 9 1 EStr wr v (overL s t (q.take k)) ∧ Ext (w.alloc (.cells #[.slice A s.length c, .slice A2 t.length c2, .slice A3 l.length c3] 27)) wr) (fun _ i _ => m - (RowKit.intOf i).toNat)
  case atStart => exact ⟨0, by omega, rfl, HO0.out, (Ext.refl _).alloc _⟩
  case round =>
    obtain ⟨k, hk, rfl, hO, he⟩ := hrel
    have q0 := d0 wr he; have q1 := d1 wr he; have q2 := d2 wr he
    by_cases hlt : k < m
    · obtain ⟨x, hx⟩ := get_of_lt (l := q) (k := k) (by rw [Hm.out]; exact hlt)
      obtain ⟨b, o, rfl, -, -, hps, hmi, hc0, hc1⟩ := Qts.at_ HA.out hx
      have hlen : (overL s t (q.take k)).length ≤ k := Nat.le_trans (over_len _) (List.length_take_le _ _)
      have hst := over_take (s := s) (t := t) hx
      have hdf : qtOver s t x = decide (x.most < (usedBut s t x.dir ⟨#[]⟩ : Nat)) := rfl
      have Cx := fun W (e : Ext wr W) => Cu x.dir hps W ((e0.trans he).trans e)
      have a0 := fun W (e : Ext wr W) => hc0 W ((e0.trans he).trans e)
      have a1 := fun W (e : Ext wr W) => hc1 W ((e0.trans he).trans e)
      have D0 := fun W (e : Ext wr W) => d0 W (he.trans e)
      have D1 := fun W (e : Ext wr W) => d1 W (he.trans e)
      have D2 := fun W (e : Ext wr W) => d2 W (he.trans e)
      obtain ⟨A6, c6, rfl⟩ := hO.form
      have HO := Lib.hid hO
      generalize overL s t (q.take k) = ps at *
      generalize usedBut s t x.dir ⟨#[]⟩ = u at *
      by_cases hgt : x.most < (u : Int)
      · have hst2 : overL s t (q.take (k + 1)) = ps ++ [x.dir] := by rw [hst, hdf, decide_eq_true hgt]; rfl
        have Hst := Lib.hid hst2
        clear hst hst2 hdf hc0 hc1 hx d0 d1 d2 hO Cu
        go_wp2_with (first | (go_at_call 19; refine (Cd _ he).mono ?_; rintro e w2 ⟨rfl, he2⟩) | (go_at_call 20; refine (Cq _ (he.trans he2)).mono ?_; rintro e w3 ⟨rfl, he3⟩))
        have E3 := he2.trans he3
        refine wp_region_hold (fun W => Ext wr W) 12 [(0, true), (1, true), (2, true), (3, true), (4, true), (5, true), (7, true), (8, true), (9, true), (10, true), (11, true), (6, false)] (by kernel_rfl) (by kernel_rfl) ?_ ?_
        · exact E3.drew
        (repeat (first | (apply hw_read (by rfl) (by rfl); (· (intro W hW; (try dsimp only at hW); go_simp; (first | done | rfl | (rw [if_pos] <;> first | omega | rfl)))); (try simp only [Act.put, List.setIfInBounds_toArray, List.set_cons_zero, List.set_cons_succ])) | (refine hw_skip (by rfl) (by rfl) ?_; (try simp only [Act.put, List.setIfInBounds_toArray, List.set_cons_zero, List.set_cons_succ]))))
        refine hw_step (by rfl) ?_
        go_wp2_with (go_at_call 50; refine (Cx _ E3.drew).mono ?_; rintro e w6 ⟨rfl, he6⟩)
        have E7 := E3.drew.trans he6
        refine ⟨E7, ?_⟩
        (try (repeat (first | (apply hw_read (by rfl) (by rfl); (· (intro W hW; (try dsimp only at hW); go_simp; (first | done | rfl | (rw [if_pos] <;> first | omega | rfl)))); (try simp only [Act.put, List.setIfInBounds_toArray, List.set_cons_zero, List.set_cons_succ])) | (refine hw_skip (by rfl) (by rfl) ?_; (try simp only [Act.put, List.setIfInBounds_toArray, List.set_cons_zero, List.set_cons_succ])))))
        (refine hw_nil ?_; (try simp only [List.drop_succ_cons, List.drop_zero]))
        go_wp2
        refine NoPanic.normal ?_
        (try dsimp only [Exit.then])
        have he7 := he.trans E7
        have hO7 := HO.out.ext estr_ok E7
        go_wp2_with (at_builtin; go_must (refine wp_ap1 (w0 := (w.alloc (.cells #[.slice A s.length c, .slice A2 t.length c2, .slice A3 l.length c3] 27))) (by rfl) _ _ (by rfl) el_string estr_ok he7 _ ps [x.dir] (by rfl) hO7 1 1 rfl #[.string x.dir] _ (by rfl) (by first | rfl | simp) rfl (one_cells rfl) (one_E ⟨rfl, hps⟩) ?_ ?_))
        · simp; unfold lim; omega
        · intro v' w' hO' he' hg'
          clear hO7 he7
          go_wp2
          go_roundw
          case rel => exact ⟨k + 1, by omega, by go_num, by rw [Hst.out, show (w.alloc (.cells #[.slice A s.length c, .slice A2 t.length c2, .slice A3 l.length c3] 27)).heap.size = w.heap.size + 1 from by simp]; exact hO', he'⟩
          case measure => simp [RowKit.intOf]; omega
      · have hst2 : overL s t (q.take (k + 1)) = ps := by rw [hst, hdf, decide_eq_false hgt]; simp
        have Hst := Lib.hid hst2
        clear hst hst2 hdf hc0 hc1 hx d0 d1 d2 hO Cu
        go_wp2_with (first | (go_at_call 19; refine (Cd _ he).mono ?_; rintro e w2 ⟨rfl, he2⟩) | (go_at_call 20; refine (Cq _ (he.trans he2)).mono ?_; rintro e w3 ⟨rfl, he3⟩))
        have E3 := he2.trans he3
        refine wp_region_hold (fun W => Ext wr W) 12 [(0, true), (1, true), (2, true), (3, true), (4, true), (5, true), (7, true), (8, true), (9, true), (10, true), (11, true), (6, false)] (by kernel_rfl) (by kernel_rfl) ?_ ?_
        · exact E3.drew
        (repeat (first | (apply hw_read (by rfl) (by rfl); (· (intro W hW; (try dsimp only at hW); go_simp; (first | done | rfl | (rw [if_pos] <;> first | omega | rfl)))); (try simp only [Act.put, List.setIfInBounds_toArray, List.set_cons_zero, List.set_cons_succ])) | (refine hw_skip (by rfl) (by rfl) ?_; (try simp only [Act.put, List.setIfInBounds_toArray, List.set_cons_zero, List.set_cons_succ]))))
        refine hw_step (by rfl) ?_
        go_wp2_with (go_at_call 50; refine (Cx _ E3.drew).mono ?_; rintro e w6 ⟨rfl, he6⟩)
        have E7 := E3.drew.trans he6
        refine ⟨E7, ?_⟩
        (try (repeat (first | (apply hw_read (by rfl) (by rfl); (· (intro W hW; (try dsimp only at hW); go_simp; (first | done | rfl | (rw [if_pos] <;> first | omega | rfl)))); (try simp only [Act.put, List.setIfInBounds_toArray, List.set_cons_zero, List.set_cons_succ])) | (refine hw_skip (by rfl) (by rfl) ?_; (try simp only [Act.put, List.setIfInBounds_toArray, List.set_cons_zero, List.set_cons_succ])))))
        (refine hw_nil ?_; (try simp only [List.drop_succ_cons, List.drop_zero]))
        go_wp2
        refine NoPanic.normal ?_
        (try dsimp only [Exit.then])
        (try go_wp2)
        go_roundw
        case rel => exact ⟨k + 1, by omega, by go_num, by rw [Hst.out]; exact HO.out.ext estr_ok E7, he.trans E7⟩
        case measure => simp [RowKit.intOf]; omega
    · have hks : k = m := by omega
      subst hks
      have HO : Hid (OwnS (w.alloc (.cells #[.slice A s.length c, .slice A2 t.length c2, .slice A3 l.length c3] 27)).heap.size 9 1 EStr wr _ (overL s t q)) := Lib.hid (by have := hO; rwa [List.take_of_length_le (by rw [Hm.out]; exact Nat.le_refl _)] at this)
      clear hO
      go_wp2
      go_ret
      exact ⟨_, rfl, by rw [Hr.out]; exact HO.out.sl estr_ok e0.size (by have := over_len (s := s) (t := t) q; have := Hm.out; unfold lim; omega), e0.trans he⟩
end Go.Sf

/-! The turns of a path: plain, and the reference's way. -/
namespace Go.Sf
open Go Go.RowKit Go.Proofs Go.Maps
end Go.Sf

/-! The turns of a path: the program's way. -/
namespace Go.Sf
open Go Go.RowKit Go.Proofs Go.Maps
end Go.Sf

/-! The turns of a path come one by one: the program's iterator, and the list that is made of it. -/
namespace Go.Sf
open Go Go.RowKit Go.Proofs Go.Maps Go.Shelf
attribute [local go_sem] Oper.semAt_some
end Go.Sf
