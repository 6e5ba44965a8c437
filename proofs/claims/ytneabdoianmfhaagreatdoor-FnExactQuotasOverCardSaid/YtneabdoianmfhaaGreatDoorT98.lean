/- How many bytes the files of a directory have: the reference and the program. -/
import Derived.Test.YtneabdoianmfhaaGreatDoorT97
import Derived.Test.YtneabdoianmfhaaGreatDoorGJ
import Derived.Test.YtneabdoianmfhaaGreatDoorGK
import Derived.Test.YtneabdoianmfhaaGreatDoorGS
namespace Go.Sf
open Go Go.RowKit Go.Proofs Go.Maps
def dirOk (d : ByteArray) : Bool := eqb d ⟨#[]⟩ || pathOk d
noncomputable def useOf (s : List Hd) (d : ByteArray) (x : It) : Nat := if within x.path d = true then (loadOf s x.ids).length else 0
noncomputable def useBut (s : List Hd) (d but : ByteArray) (x : It) : Nat := if x.path = but then 0 else useOf s d x
noncomputable def usedBut (s : List Hd) (t : List It) (d but : ByteArray) : Nat := (t.map (useBut s d but)).sum
noncomputable def usedT (s : List Hd) (t : List It) (d : ByteArray) : Nat := (t.map (useOf s d)).sum
noncomputable def quotaU (s : List Hd) (t : List It) (l : List Sn) (d : ByteArray) : Int := if diskOk s t l = true ∧ dirOk d = true then (usedT s t d : Nat) else -1
theorem sum_take {α : Type} (f : α → Nat) {l : List α} {k : Nat} {x : α} (h : l[k]? = some x) : ((l.take (k + 1)).map f).sum = ((l.take k).map f).sum + f x := by
  rw [List.take_add_one, h]; simp
theorem load32 {s : List Hd} (hs : StoreOk s) {ids : List Int} (h : IdsFit s ids) : (loadOf s ids).length ≤ 32 := by
  have := loadOf_len hs ids
  have := h.1
  omega
theorem use_le {s : List Hd} (hs : StoreOk s) {d : ByteArray} {x : It} (h : IdsFit s x.ids) : useOf s d x ≤ 32 := by
  unfold useOf; split
  · exact load32 hs h
  · omega
theorem sum_le2 {α : Type} (f : α → Nat) (b : Nat) (l : List α) (h : ∀ x, x ∈ l → f x ≤ b) : (l.map f).sum ≤ l.length * b := by
  induction l with
  | nil => simp
  | cons a l ih =>
    have h1 := h a (by simp)
    have h2 := ih fun x hx => h x (by simp [hx])
    rw [List.map_cons, List.sum_cons, List.length_cons, Nat.add_mul, Nat.one_mul]
    omega
theorem used_take_le {s : List Hd} (hs : StoreOk s) {t : List It} (hf : ∀ x, x ∈ t → IdsFit s x.ids) (h12 : t.length ≤ 12) (d : ByteArray) (k : Nat) : ((t.take k).map (useOf s d)).sum ≤ 384 := by
  have h1 := sum_le2 (useOf s d) 32 (t.take k) fun x hx => use_le hs (hf x (List.mem_of_mem_take hx))
  have h2 : (t.take k).length ≤ 12 := Nat.le_trans (List.length_take_le' _ _) h12
  omega
theorem usedb_take_le {s : List Hd} (hs : StoreOk s) {t : List It} (hf : ∀ x, x ∈ t → IdsFit s x.ids) (h12 : t.length ≤ 12) (d but : ByteArray) (k : Nat) : ((t.take k).map (useBut s d but)).sum ≤ 384 := by
  have h1 := sum_le2 (useBut s d but) 32 (t.take k) fun x hx => by
    unfold useBut; split
    · omega
    · exact use_le hs (hf x (List.mem_of_mem_take hx))
  have h2 : (t.take k).length ≤ 12 := Nat.le_trans (List.length_take_le' _ _) h12
  omega
theorem path_ne {p : ByteArray} (h : pathOk p = true) : p ≠ ⟨#[]⟩ := by
  rintro rfl
  exact absurd h (by decide)
theorem used_none {s : List Hd} {t : List It} (ht : treeOk t = true) (d : ByteArray) : usedBut s t d ⟨#[]⟩ = usedT s t d := by
  unfold usedBut usedT
  congr 1
  refine List.map_congr_left fun x hx => ?_
  unfold useBut
  rw [if_neg (path_ne (itemOk_path ((treeOk_iff'.1 ht).2.fits hx).1))]
set_option maxHeartbeats 1000000 in
theorem l1Dir_c (d : ByteArray) (w : World) (hd : d.size < lim) : Calls Tryz.prog 147 #[.string d] w (Ret (.bool (dirOk d)) w) := by
  have Cp := fun W => specPathValid_c d W hd
  by_cases h : d = ⟨#[]⟩
  · subst h
    clear Cp
    go_enter Tryz.func147, Tryz.ntmps147
    go_wp2
    go_ret
    exact ⟨ret_b (by simp [dirOk, eqb_iff]), Ext.refl w⟩
  · have hb : (d.toList == (⟨#[]⟩ : ByteArray).toList) = false := by rw [bytes_ne_iff, decide_eq_false_iff_not]; exact h
    have Hr : Hid (pathOk d = dirOk d) := Lib.hid (by unfold dirOk; rw [eqb_false.2 h, Bool.false_or])
    have hb2 : d.toList.isEmpty = false := emp_false fun e => h (bl_inj (e.trans (by decide)))
    go_enter Tryz.func147, Tryz.ntmps147
    go_wp2_with (go_at_call 68; refine (Cp _).mono ?_; rintro e w2 ⟨rfl, he2⟩)
    go_ret
    exact ⟨ret_b Hr.out, he2⟩
set_option maxHeartbeats 1000000 in
theorem dirValid_c (d : ByteArray) (w : World) (hd : d.size < lim) (hm : ML w) : Calls Tryz.prog 150 #[.string d] w (Ret (.bool (dirOk d)) w) := by
  have Cp := PathValid_c d w hd hm
  by_cases h : d = ⟨#[]⟩
  · subst h
    clear Cp hm
    go_enter Tryz.func150, Tryz.ntmps150
    go_wp2
    go_ret
    exact ⟨ret_b (by simp [dirOk, eqb_iff]), Ext.refl w⟩
  · have hb : (d.toList == (⟨#[]⟩ : ByteArray).toList) = false := by rw [bytes_ne_iff, decide_eq_false_iff_not]; exact h
    have Hr : Hid (pathOk d = dirOk d) := Lib.hid (by unfold dirOk; rw [eqb_false.2 h, Bool.false_or])
    have hb2 : d.toList.isEmpty = false := emp_false fun e => h (bl_inj (e.trans (by decide)))
    have HM := Lib.hid hm
    clear hm
    go_enter Tryz.func150, Tryz.ntmps150
    go_wp2_with (go_at_call 71; refine Cp.mono ?_; rintro e w2 ⟨rfl, he2⟩)
    go_ret
    exact ⟨ret_b Hr.out, he2⟩
set_option maxRecDepth 8000 in
set_option maxHeartbeats 2000000 in
theorem l15Used_c {B B' B2 : Nat} {vs vt vn : Value} {s : List Hd} {t : List It} {l : List Sn} (d but : ByteArray) (w : World) (hs : Hds B w vs s) (ht : Its B' w vt t) (hn : Sns B2 w vn l) (hS : StoreOk s) (hf : ∀ x, x ∈ t → IdsFit s x.ids) (h12 : t.length ≤ 12) (hd : d.size < lim) :
    Calls Tryz.prog 89 #[.agg #[vs, vt, vn], .string d, .string but] w (Ret (.int .i64 (usedBut s t d but : Nat)) w) := by
  have HS := Lib.hid hs
  have HF := Lib.hid hf; have HO := Lib.hid hS
  obtain ⟨A, c, rfl, -⟩ := hs
  obtain ⟨A2, c2, rfl, hA⟩ := ht
  obtain ⟨A3, c3, rfl, -⟩ := hn
  have e0 : Ext w (w.alloc (.cells #[.slice A s.length c, .slice A2 t.length c2, .slice A3 l.length c3] 33)) := (Ext.refl w).alloc _
  have hbk := Blk.new w 33 #[.slice A s.length c, .slice A2 t.length c2, .slice A3 l.length c3]
  have d0 := fun W (e : Ext _ W) => hbk.at_ (i := 0) (u := .slice A s.length c) rfl W e
  have d1 := fun W (e : Ext _ W) => hbk.at_ (i := 1) (u := .slice A2 t.length c2) rfl W e
  have HA := Lib.hid hA
  have hbd := Lib.hid (usedb_take_le hS hf h12 d but)
  clear hbk hA hS hf
  generalize hnn : t.length = n at *
  have Hn := Lib.hid hnn; clear hnn
  go_enter Tryz.func89, Tryz.ntmps89
  go_wp2
  go_loopw [7, 8] (fun o i wr => ∃ k : Nat, k ≤ n ∧ i = .int .i64 k ∧ o = .int .i64 (((t.take k).map (useBut s d but)).sum : Nat) ∧ Ext (w.alloc (.cells #[.slice A s.length c, .slice A2 n c2, .slice A3 l.length c3] 33)) wr) (fun _ i _ => n - (intOf i).toNat)
  case atStart => exact ⟨0, by omega, rfl, rfl, Ext.refl _⟩
  case round =>
    obtain ⟨k, hk, rfl, rfl, he⟩ := hrel
    have q1 := d1 wr he
    by_cases hlt : k < n
    · obtain ⟨x, hx⟩ := get_of_lt (l := t) (k := k) (by rw [Hn.out]; exact hlt)
      obtain ⟨b, o, u, rfl, -, -, hps, hu, hc0, -, hc2⟩ := Its.at_ HA.out hx
      have HU := Lib.hid hu
      have hfit := HF.out x (List.mem_of_getElem? hx)
      have h32 := load32 HO.out hfit
      have a0 := fun W (e : Ext wr W) => hc0 W ((e0.trans he).trans e)
      have a2 := fun W (e : Ext wr W) => hc2 W ((e0.trans he).trans e)
      obtain ⟨Au, cu, rfl, -⟩ := hu
      have D0 := fun W (e : Ext wr W) => d0 W (he.trans e)
      have D1 := fun W (e : Ext wr W) => d1 W (he.trans e)
      have Cw := fun W => l1Within_c x.path d W hps hd
      have Cl := fun W (e : Ext wr W) => l4Load_c W HO.out hfit (HS.out.ext ((e0.trans he).trans e)) (HU.out.ext ((e0.trans he).trans e))
      have hst := sum_take (useBut s d but) hx
      have hb0 := hbd.out k
      generalize ((t.take k).map (useBut s d but)).sum = acc at *
      have aa0 := a0 wr (Ext.refl _)
      cases hwi : within x.path d with
      | false =>
        rw [hwi] at Cw
        have hst2 : useBut s d but x = 0 := by
          unfold useBut useOf; rw [hwi]; simp
        have hst := hst.trans (by rw [hst2]; rfl : _ = acc)
        have Hst := Lib.hid hst
        clear hst hst2 hx hc0 hc2 hwi Cl
        go_wp2_with (go_at_call 149; refine (Cw _).mono ?_; rintro e w2 ⟨rfl, he2⟩)
        go_roundw
        case rel => exact ⟨k + 1, by omega, by go_num, by rw [Hst.out], he.trans he2⟩
        case measure => simp [intOf]; omega
      | true =>
        rw [hwi] at Cw
        by_cases hpb : x.path = but
        · have hst2 : useBut s d but x = 0 := by
            unfold useBut; rw [if_pos hpb]
          have hb : (x.path.toList != but.toList) = false := by rw [hpb]; simp
          have hb1 : (x.path.toList == but.toList) = true := by rw [hpb]; simp
          have hst := hst.trans (by rw [hst2]; rfl : _ = acc)
          have Hst := Lib.hid hst
          clear hst hst2 hx hc0 hc2 hwi Cl hpb
          go_wp2_with (go_at_call 149; refine (Cw _).mono ?_; rintro e w2 ⟨rfl, he2⟩; have r1 := D1 w2 he2; have r2 := a0 w2 he2)
          go_roundw
          case rel => exact ⟨k + 1, by omega, by go_num, by rw [Hst.out], he.trans he2⟩
          case measure => simp [intOf]; omega
        · have hst2 : useBut s d but x = (loadOf s x.ids).length := by
            unfold useBut useOf; rw [if_neg hpb, if_pos hwi]
          have hb1 : (x.path.toList == but.toList) = false := by rw [bytes_ne_iff, decide_eq_false_iff_not]; exact hpb
          have hb : (x.path.toList != but.toList) = true := by simp [bne, hb1]
          rw [hst2] at hst
          have Hst := Lib.hid hst
          clear hst hst2 hx hc0 hc2 hwi hpb
          generalize hll : (loadOf s x.ids).length = ll at *
          go_wp2_with (go_at_call 149; refine (Cw _).mono ?_; rintro e w2 ⟨rfl, he2⟩; have r1 := D1 w2 he2; have r2 := a0 w2 he2)
          refine wp_region_hold (fun W => W.cell? ⟨w.heap.size, 0, none⟩ = some (.slice A s.length c) ∧ W.cell? ⟨w.heap.size, 1, none⟩ = some (.slice (some ⟨b, o, none⟩) n c2) ∧ W.cell? ⟨b, o + k * 3 + 2, none⟩ = some (.slice Au x.ids.length cu)) 11 [(0, true), (1, true), (2, true), (3, true), (4, true), (5, true), (6, true), (7, true), (8, true), (9, false), (10, true)] (by kernel_rfl) (by kernel_rfl) ?_ ?_
          · exact ⟨D0 _ he2.drew, D1 _ he2.drew, a2 _ he2.drew⟩
          (repeat (first | (apply hw_read (by rfl) (by rfl); (· (intro W hW; (try dsimp only at hW); go_simp; (first | done | rfl | (rw [if_pos] <;> first | omega | rfl)))); (try simp only [Act.put, List.setIfInBounds_toArray, List.set_cons_zero, List.set_cons_succ])) | (refine hw_skip (by rfl) (by rfl) ?_; (try simp only [Act.put, List.setIfInBounds_toArray, List.set_cons_zero, List.set_cons_succ]))))
          refine hw_step (by rfl) ?_
          go_wp2_with (go_at_call 80; refine (Cl _ he2.drew).mono ?_; rintro e w4 ⟨u9, rfl, ⟨A9, c9, rfl, -⟩, he9⟩)
          have he5 := he2.drew.trans he9
          (try rw [hll])
          refine ⟨⟨D0 _ he5, D1 _ he5, a2 _ he5⟩, ?_⟩
          (repeat (first | (apply hw_read (by rfl) (by rfl); (· (intro W hW; (try dsimp only at hW); go_simp; (first | done | rfl | (rw [if_pos] <;> first | omega | rfl)))); (try simp only [Act.put, List.setIfInBounds_toArray, List.set_cons_zero, List.set_cons_succ])) | (refine hw_skip (by rfl) (by rfl) ?_; (try simp only [Act.put, List.setIfInBounds_toArray, List.set_cons_zero, List.set_cons_succ]))))
          (refine hw_nil ?_; (try simp only [List.drop_succ_cons, List.drop_zero]))
          go_wp2
          refine NoPanic.normal ?_
          (try dsimp only [Exit.then])
          (try go_wp2)
          go_roundw
          case rel => exact ⟨k + 1, by omega, by go_num, by rw [Hst.out]; go_num, he.trans he5⟩
          case measure => simp [intOf]; omega
    · have hks : k = n := by omega
      subst hks
      have Hf : Hid (((t.take k).map (useBut s d but)).sum = usedBut s t d but) := Lib.hid (by rw [List.take_of_length_le (by rw [Hn.out]; exact Nat.le_refl _)]; rfl)
      generalize ((t.take k).map (useBut s d but)).sum = acc at *
      go_wp2
      go_ret
      exact ⟨by rw [← Hf.out]; rfl, e0.trans he⟩
set_option maxRecDepth 4000 in
set_option maxHeartbeats 2000000 in
theorem sizeOf_c {B B' b n : Nat} {v : Value} {s : List Hd} {ids : List Int} (w : World) (hs : StoreOk s) (h : StoreAt B b n s w) (hi : Ints B' w v ids) (hfit : IdsFit s ids) :
    Calls Tryz.prog 152 #[.map (some b), v] w (Ret (.int .i64 ((loadOf s ids).length : Nat)) w) := by
  obtain ⟨M, hV, hM⟩ := h
  have HV : Hid (∀ W, Ext w W → MapV Tryz.prog 3 b n M W) := Lib.hid fun W e => hV.ext e
  have HMd := Lib.hid hM; have HS := Lib.hid hs; have HFit := Lib.hid hfit
  obtain ⟨A2, c2, rfl, hA2⟩ := hi
  have hn4 : ids.length ≤ 4 := hfit.1
  generalize hn : ids.length = m at *
  have Hn := Lib.hid hn; have HA2 := Lib.hid hA2
  clear hn hA2 hs hV hM hfit
  go_enter Tryz.func152, Tryz.ntmps152
  go_wp2
  go_loopw [5, 10] (fun o i wr => ∃ k : Nat, k ≤ m ∧ i = .int .i64 k ∧ o = .int .i64 ((loadOf s (ids.take k)).length : Nat) ∧ Ext w wr) (fun _ i _ => m - (intOf i).toNat)
  case atStart => exact ⟨0, by omega, rfl, rfl, Ext.refl _⟩
  case round =>
    obtain ⟨k, hk, rfl, rfl, he⟩ := hrel
    by_cases hlt : k < m
    · obtain ⟨x, hx⟩ := get_of_lt (l := ids) (k := k) (by rw [Hn.out]; exact hlt)
      obtain ⟨b2, o, rfl, -, -, hxi, hc⟩ := Ints.at_ HA2.out hx
      have a0 := hc wr he
      obtain ⟨y, hfy, -⟩ := HFit.out.2 k x hx
      obtain ⟨u, hr, hu⟩ := (HMd.out x).2 y hfy
      have hy8 := block8 HS.out hfy
      have Ht : Hid ((loadOf s (ids.take (k + 1))).length = (loadOf s (ids.take k)).length + y.bytes.length) := Lib.hid (by rw [loadOf_take hx hfy, List.length_append])
      obtain ⟨Ay, cy, rfl, -⟩ := hu
      obtain ⟨yk, yb, yu⟩ := y
      simp only at hr Ht hy8
      have hkey := keyI hxi
      have hVr := HV.out wr he
      have hlb : (loadOf s (ids.take k)).length ≤ 32 := by
        have := loadOf_len HS.out (ids.take k)
        rw [List.length_take] at this
        omega
      generalize (loadOf s (ids.take k)).length = acc at *
      clear hc hx hfy
      have hfd : ∀ W : World, (Instr.field 84 (.agg #[.int .i64 yk, .slice Ay yb.length cy, .int .i64 yu]) 1).run Tryz.prog W = .ok (.slice Ay yb.length cy) W := fun _ => by kernel_rfl
      go_wp2_with (at_lookup; refine wp_mlook_some rfl _ _ rfl lawI underStore (zeroHd _) rfl hVr _ _ rfl hkey hr ?_)
      go_roundw
      case rel => exact ⟨k + 1, by omega, by go_num, by rw [Ht.out]; go_num, he.trans (by (repeat' (first | exact Ext.refl _ | assumption | refine Ext.alloc ?_ _ | refine Ext.drew ?_ | refine Ext.drewN ?_ _)))⟩
      case measure => simp [intOf]; omega
    · have hks : k = m := by omega
      subst hks
      have Hf : Hid ((loadOf s (ids.take k)).length = (loadOf s ids).length) := Lib.hid (by rw [List.take_of_length_le (by rw [Hn.out]; exact Nat.le_refl _)])
      generalize (loadOf s (ids.take k)).length = acc at *
      go_wp2
      go_ret
      exact ⟨by rw [← Hf.out]; rfl, he⟩
set_option maxRecDepth 8000 in
set_option maxHeartbeats 2000000 in
theorem used_c {B b n : Nat} {s : List Hd} {t : List It} {adr : Key → Nat} {kv : Key → Value} (d : ByteArray) (w : World) (hS : StoreOk s) (h : StoreAt B b n s w) (ht : treeOk t = true) (hT : TreeAt B w t adr kv) (hf : ∀ x, x ∈ t → IdsFit s x.ids) (hd : d.size < lim) (hm : ML w) :
    Calls Tryz.prog 93 #[.agg #[.map (some b), .pointer (some ⟨adr [], 0, none⟩)], .string d] w (Ret (.int .i64 (usedT s t d : Nat)) w) := by
  have hg := treeOk_iff'.1 ht
  have h12 := hg.1
  have HSt := Lib.hid h; have HF := Lib.hid hf; have HO := Lib.hid hS; have HM := Lib.hid hm; have HG := Lib.hid hg.2
  have e0 : Ext w (w.alloc (.cells #[.map (some b), .pointer (some ⟨adr [], 0, none⟩)] 111)) := (Ext.refl w).alloc _
  have hbk := Blk.new w 111 #[.map (some b), .pointer (some ⟨adr [], 0, none⟩)]
  have d0 := fun W (e : Ext _ W) => hbk.at_ (i := 0) (u := .map (some b)) rfl W e
  have Cl := list_c (hT.ext e0) hg.2 hg.1
  have hbd := Lib.hid (used_take_le hS hf h12 d)
  clear hbk h hT hf hS hm hg ht
  go_enter Tryz.func93, Tryz.ntmps93
  go_wp2_with fail
  refine Cl.mono ?_
  rintro e w1 ⟨v1, rfl, hI, he1⟩
  obtain ⟨A2, c2, rfl, hA⟩ := hI
  have HA := Lib.hid hA
  generalize hnn : t.length = n2 at *
  have Hn := Lib.hid hnn
  clear hnn hA Cl
  go_wp2
  go_loopw [5, 12] (fun o i wr => ∃ k : Nat, k ≤ n2 ∧ i = .int .i64 k ∧ o = .int .i64 (((t.take k).map (useOf s d)).sum : Nat) ∧ Ext w1 wr) (fun _ i _ => n2 - (intOf i).toNat)
  case atStart => exact ⟨0, by omega, rfl, rfl, Ext.refl _⟩
  case round =>
    obtain ⟨k, hk, rfl, rfl, he⟩ := hrel
    by_cases hlt : k < n2
    · obtain ⟨x, hx⟩ := get_of_lt (l := t) (k := k) (by rw [Hn.out]; exact hlt)
      obtain ⟨b2, o, u, rfl, -, -, hps, hu, hc0, hc1, hc2⟩ := Its.at_ HA.out hx
      have HU := Lib.hid (hu.ext he)
      have hxm := List.mem_of_getElem? hx
      have hfit := HF.out x hxm
      have hpok := itemOk_path (HG.out.fits hxm).1
      have h32 := load32 HO.out hfit
      obtain ⟨Au, cu, rfl, -⟩ := hu
      have a0 := hc0 wr he; have a1 := hc1 wr he; have a2 := hc2 wr he
      have hbs := Blk.new wr 100 #[.string x.path, .bool x.dir, .slice Au x.ids.length cu]
      have s2 := fun W (e : Ext _ W) => hbs.at_ (i := 2) (u := .slice Au x.ids.length cu) rfl W e
      have ea : Ext wr (wr.alloc (.cells #[.string x.path, .bool x.dir, .slice Au x.ids.length cu] 100)) := (Ext.refl wr).alloc _
      have Ew := (e0.trans he1).trans he
      have Cw := PathWithin_c x.path d _ hps hd (HM.out.ext (Ew.trans ea))
      rw [hpok, Bool.true_and] at Cw
      have Cz := fun W (e : Ext wr W) => sizeOf_c W HO.out (HSt.out.ext (Ew.trans e)) (HU.out.ext e) hfit
      have hst := sum_take (useOf s d) hx
      have hb0 := hbd.out k
      generalize ((t.take k).map (useOf s d)).sum = acc at *
      cases hwi : within x.path d with
      | false =>
        rw [hwi] at Cw
        have hst2 : useOf s d x = 0 := by unfold useOf; rw [hwi]; simp
        have hst := hst.trans (by rw [hst2]; rfl : _ = acc)
        have Hst := Lib.hid hst
        clear hst hst2 hx hc0 hc1 hc2 hwi Cz hbs
        go_wp2_with (go_at_call 151; refine Cw.mono ?_; rintro e w2 ⟨rfl, he2⟩)
        go_roundw
        case rel => exact ⟨k + 1, by omega, by go_num, by rw [Hst.out], he.trans (ea.trans he2)⟩
        case measure => simp [intOf]; omega
      | true =>
        rw [hwi] at Cw
        have hst2 : useOf s d x = (loadOf s x.ids).length := by unfold useOf; rw [if_pos hwi]
        rw [hst2] at hst
        have Hst := Lib.hid hst
        clear hst hst2 hx hc0 hc1 hc2 hwi hbs
        generalize (loadOf s x.ids).length = ll at *
        have D0 := fun W (e : Ext wr W) => d0 W (he1.trans (he.trans e))
        go_wp2_with (first | (go_at_call 151; refine Cw.mono ?_; rintro e w2 ⟨rfl, he2⟩; have z0 := D0 w2 (ea.trans he2); have z2 := s2 w2 he2) | (go_at_call 152; refine (Cz _ (ea.trans he2)).mono ?_; rintro e w3 ⟨rfl, he3⟩))
        go_roundw
        case rel => exact ⟨k + 1, by omega, by go_num, by rw [Hst.out]; go_num, he.trans ((ea.trans he2).trans he3)⟩
        case measure => simp [intOf]; omega
    · have hks : k = n2 := by omega
      subst hks
      have Hf : Hid (((t.take k).map (useOf s d)).sum = usedT s t d) := Lib.hid (by rw [List.take_of_length_le (by rw [Hn.out]; exact Nat.le_refl _)]; rfl)
      generalize ((t.take k).map (useOf s d)).sum = acc at *
      go_wp2
      go_ret
      exact ⟨by rw [← Hf.out]; rfl, (e0.trans he1).trans he⟩
end Go.Sf
