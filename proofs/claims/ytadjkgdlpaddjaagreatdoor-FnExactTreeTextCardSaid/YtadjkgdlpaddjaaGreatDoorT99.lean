/- Trees as text: plain, and the reference's way. -/
import Derived.Test.YtadjkgdlpaddjaaGreatDoorT98
import Derived.Test.YtadjkgdlpaddjaaGreatDoorGL
import Derived.Test.YtadjkgdlpaddjaaGreatDoorGA
import Derived.Lib.ItoaNum
import Derived.Test.YtadjkgdlpaddjaaGreatDoorW16
set_option linter.all false
namespace Go.Sf
open Go Go.RowKit Go.Proofs Go.Maps
def decB (n : Nat) : ByteArray := ⟨(Lib.decDigits n).toArray⟩
noncomputable def lineB (s : List Hd) (x : It) : ByteArray := if x.dir = true then x.path ++ ⟨#[47]⟩ else x.path ++ ⟨#[32]⟩ ++ decB (loadOf s x.ids).length
noncomputable def textStep (s : List Hd) (a : ByteArray) (x : It) : ByteArray := a ++ lineB s x ++ ⟨#[10]⟩
noncomputable def textB (s : List Hd) (t : List It) : ByteArray := t.foldl (textStep s) ⟨#[]⟩
noncomputable def treeTextOf (s : List Hd) (t : List It) : ByteArray := if (storeOk s && (treeOk t && filesFit s t)) = true then textB s t else ⟨#[]⟩
theorem decB_lo {n : Nat} (h : n < 10) : decB n = ⟨#[UInt8.ofNat (48 + n)]⟩ := by unfold decB; rw [Lib.decDigits, dif_pos h]
theorem decB_hi {n : Nat} (h : ¬ n < 10) : decB n = decB (n / 10) ++ ⟨#[UInt8.ofNat (48 + n % 10)]⟩ := by
  apply bl_inj
  rw [bl_append]
  unfold decB bl
  conv => lhs; rw [Lib.decDigits, dif_neg h]
theorem decB_size {n : Nat} (h : n < 100) : (decB n).size ≤ 2 := by
  by_cases h1 : n < 10
  · rw [decB_lo h1]; show 1 ≤ 2; omega
  · rw [decB_hi h1, decB_lo (by omega), ByteArray.size_append]; show 1 + 1 ≤ 2; omega
theorem line_size {s : List Hd} (hs : StoreOk s) {x : It} (hf : IdsFit s x.ids) (hp : pathOk x.path = true) : (lineB s x).size ≤ 30 := by
  have h1 := pathOk_len hp
  have h2 := decB_size (n := (loadOf s x.ids).length) (by have := load32 hs hf; omega)
  have e1 : (⟨#[47]⟩ : ByteArray).size = 1 := rfl
  have e2 : (⟨#[32]⟩ : ByteArray).size = 1 := rfl
  unfold lineB; split
  · rw [ByteArray.size_append]; omega
  · rw [ByteArray.size_append, ByteArray.size_append]; omega
theorem text_size {s : List Hd} (hs : StoreOk s) : ∀ (t : List It) (a : ByteArray), (∀ x, x ∈ t → IdsFit s x.ids ∧ pathOk x.path = true) → (t.foldl (textStep s) a).size ≤ a.size + 31 * t.length := by
  intro t
  induction t with
  | nil => intro a _; simp
  | cons x t ih =>
    intro a h
    rw [List.foldl_cons]
    have h1 := ih (textStep s a x) fun y hy => h y (by simp [hy])
    have h2 := line_size hs (h x (by simp)).1 (h x (by simp)).2
    have e : (textStep s a x).size = a.size + (lineB s x).size + 1 := by
      unfold textStep; rw [ByteArray.size_append, ByteArray.size_append]; rfl
    rw [List.length_cons]
    omega
theorem tree_ok_paths {s : List Hd} {t : List It} (ht : treeOk t = true) (hf : ∀ x, x ∈ t → IdsFit s x.ids) : ∀ x, x ∈ t → IdsFit s x.ids ∧ pathOk x.path = true := fun x hx => ⟨hf x hx, itemOk_path ((treeOk_iff'.1 ht).2.fits hx).1⟩
theorem take_size {s : List Hd} (hs : StoreOk s) {t : List It} (h : ∀ x, x ∈ t → IdsFit s x.ids ∧ pathOk x.path = true) (h12 : t.length ≤ 12) (k : Nat) : ((t.take k).foldl (textStep s) ⟨#[]⟩).size ≤ 372 := by
  have h1 := text_size hs (t.take k) ⟨#[]⟩ fun x hx => h x (List.mem_of_mem_take hx)
  have h2 : (t.take k).length ≤ 12 := Nat.le_trans (List.length_take_le' _ _) h12
  have e : (⟨#[]⟩ : ByteArray).size = 0 := rfl
  omega
theorem byte_text2 (d : Nat) (hd : d < 10) (W : World) (g : Nat) (hb : W.cell? ⟨g, 0, none⟩ = some (.int .u8 (48 + (d : Int)))) : (convert 236 9 (.slice (some ⟨g, 0, none⟩) 1 1)).run Tryz.prog W = .ok (.string ⟨#[UInt8.ofNat (48 + d)]⟩) W := by
  refine Lib.run_convert_whole (P := Tryz.prog) _ 236 5 9 Tryz.underlying236 Tryz.underlying5 Tryz.underlying9 g 0 ⟨#[UInt8.ofNat (48 + d)]⟩ ?_ 1
  intro i hi
  have h0 : i = 0 := by
    have : (⟨#[UInt8.ofNat (48 + d)]⟩ : ByteArray).size = 1 := rfl
    omega
  subst h0
  rw [Nat.zero_add, hb]
  show some (Value.int .u8 (48 + (d : Int))) = some (.int .u8 ((UInt8.ofNat (48 + d)).toNat : Int))
  rw [UInt8.toNat_ofNat']
  congr 2
  omega
set_option maxRecDepth 4000 in
set_option maxHeartbeats 1000000 in
theorem l6Dec_lo (n : Nat) (hn : n < 10) (w : World) : Calls Tryz.prog 209 #[.int .i64 n] w (Ret (.string (decB n)) w) := by
  have h0 : ¬ ((n : Int) < -9223372036854775807) := by omega
  have h1 : ¬ ((n : Int) < 0) := by omega
  have h2 : (n : Int) < 10 := by omega
  have hcv := byte_text2 n hn (w.alloc (.cells #[.int .u8 (48 + (n : Int))] 5)) w.heap.size (by rw [(Blk.new w _ _).cell]; rfl)
  have hw : IntKind.u8.wrap (48 + (n : Int)) = 48 + (n : Int) := by simp [IntKind.wrap, IntKind.min, IntKind.max, IntKind.signed, IntKind.bits]; omega
  have hd0 := decB_lo hn
  have hbb : ∃ bb, UInt8.ofNat (48 + n) = bb := ⟨_, rfl⟩
  obtain ⟨bb, hbb⟩ := hbb
  rw [hbb] at hd0 hcv
  have Hd := Lib.hid hd0
  clear hd0 hbb
  go_enter Tryz.func209, Tryz.ntmps209
  go_wp2
  go_ret
  exact ⟨ret_s Hd.out.symm, (Ext.refl w).alloc _⟩
set_option maxRecDepth 4000 in
set_option maxHeartbeats 2000000 in
theorem l6Dec_c (n : Nat) (hn : n < 100) (w : World) : Calls Tryz.prog 209 #[.int .i64 n] w (Ret (.string (decB n)) w) := by
  by_cases hlo : n < 10
  · exact l6Dec_lo n hlo w
  have h0 : ¬ ((n : Int) < -9223372036854775807) := by omega
  have h1 : ¬ ((n : Int) < 0) := by omega
  have h2 : ¬ ((n : Int) < 10) := by omega
  have hdv : (n : Int) / 10 = ((n / 10 : Nat) : Int) := by omega
  have em : ((n % 10 : Nat) : Int) = (n : Int) % 10 := by omega
  have C := fun W => l6Dec_lo (n / 10) (by omega) W
  have hm10 : n % 10 < 10 := by omega
  have hsz : (decB (n / 10)).size ≤ 2 := decB_size (by omega)
  have hcv1 := fun (W : World) => byte_text2 (n % 10) hm10 (W.alloc (.cells #[.int .u8 (48 + ((n % 10 : Nat) : Int))] 5)) W.heap.size (by rw [(Blk.new W _ _).cell]; rfl)
  have hcv2 := fun (W W' : World) (e : Ext (W.alloc (.cells #[.int .u8 (48 + ((n % 10 : Nat) : Int))] 5)) W') => byte_text2 (n % 10) hm10 W' W.heap.size (e.cell (by rw [(Blk.new W _ _).cell]; rfl))
  have hbb : ∃ bb, UInt8.ofNat (48 + n % 10) = bb := ⟨_, rfl⟩
  obtain ⟨bb, hbb⟩ := hbb
  rw [hbb] at hcv1 hcv2
  have hd0 := decB_hi hlo
  rw [hbb] at hd0
  have Hd := Lib.hid hd0
  clear hd0 hbb
  have hw8 : IntKind.u8.wrap (48 + ((n % 10 : Nat) : Int)) = 48 + ((n % 10 : Nat) : Int) := by simp [IntKind.wrap, IntKind.min, IntKind.max, IntKind.signed, IntKind.bits]; omega
  simp only [em] at hcv1 hcv2 hw8
  clear em hm10
  generalize n / 10 = q at *
  generalize hdq : decB q = dq at *
  have hs1 : ¬ 9223372036854775807 < dq.size + 1 := by omega
  clear hlo hdq
  go_enter Tryz.func209, Tryz.ntmps209
  go_wp2
  refine wp_region_br (fun W => Ext w W) [0, 1, 3, 4, 5, 6] 5 (by kernel_rfl) (by kernel_rfl) ?_ ?_
  · exact (Ext.refl w).drew
  (repeat (apply rb_read (by rfl) (by rfl); (· (intro W hW; (try dsimp only at hW); go_simp; (first | done | rfl | (rw [if_pos] <;> first | omega | rfl)))); (try simp only [Act.put, List.setIfInBounds_toArray, List.set_cons_zero, List.set_cons_succ])))
  refine rb_nil ?_
  have E0 := (Ext.refl w).drew
  refine br_two 2 7 (by kernel_rfl) (by rfl) (by rfl) ?_ ?_
  · go_wp2_with (go_at_call 209; refine (C _).mono ?_; rintro e w1 ⟨rfl, he1⟩)
    have E1 := E0.trans he1
    refine ⟨E1, ?_⟩
    refine br_one 7 (by kernel_rfl) (by rfl) ?_
    go_wp2
    refine ⟨by (repeat' (first | exact Ext.refl _ | assumption | refine Ext.alloc ?_ _ | refine Ext.drew ?_ | refine Ext.drewN ?_ _)), ?_⟩
    refine br_one 8 (by kernel_rfl) (by rfl) ?_
    go_wp2
    refine ⟨by (repeat' (first | exact Ext.refl _ | assumption | refine Ext.alloc ?_ _ | refine Ext.drew ?_ | refine Ext.drewN ?_ _)), ?_⟩
    refine br_one 9 (by kernel_rfl) (by rfl) ?_
    go_wp2
    refine ⟨by (repeat' (first | exact Ext.refl _ | assumption | refine Ext.alloc ?_ _ | refine Ext.drew ?_ | refine Ext.drewN ?_ _)), ?_⟩
    refine br_one 10 (by kernel_rfl) (by rfl) ?_
    go_wp2
    refine ⟨by (repeat' (first | exact Ext.refl _ | assumption | refine Ext.alloc ?_ _ | refine Ext.drew ?_ | refine Ext.drewN ?_ _)), ?_⟩
    refine br_nil (by kernel_rfl) ?_
    refine NoPanic.normal ?_
    (try dsimp only [Exit.then])
    go_wp2
    go_ret
    exact ⟨ret_s Hd.out.symm, by (repeat' (first | exact Ext.refl _ | assumption | refine Ext.alloc ?_ _ | refine Ext.drew ?_ | refine Ext.drewN ?_ _))⟩
  · go_wp2
    refine ⟨by (repeat' (first | exact Ext.refl _ | assumption | refine Ext.alloc ?_ _ | refine Ext.drew ?_ | refine Ext.drewN ?_ _)), ?_⟩
    refine br_two 2 8 (by kernel_rfl) (by rfl) (by rfl) ?_ ?_
    · go_wp2_with (go_at_call 209; refine (C _).mono ?_; rintro e w1 ⟨rfl, he1⟩)
      have hcv3 := hcv2 w w1 (((Ext.refl _).drew).trans he1)
      have E3 : Ext w w1 := Ext.trans (by (repeat' (first | exact Ext.refl _ | assumption | refine Ext.alloc ?_ _ | refine Ext.drew ?_ | refine Ext.drewN ?_ _))) he1
      refine ⟨E3, ?_⟩
      refine br_one 8 (by kernel_rfl) (by rfl) ?_
      go_wp2
      refine ⟨by (repeat' (first | exact Ext.refl _ | assumption | refine Ext.alloc ?_ _ | refine Ext.drew ?_ | refine Ext.drewN ?_ _)), ?_⟩
      refine br_one 9 (by kernel_rfl) (by rfl) ?_
      go_wp2
      refine ⟨by (repeat' (first | exact Ext.refl _ | assumption | refine Ext.alloc ?_ _ | refine Ext.drew ?_ | refine Ext.drewN ?_ _)), ?_⟩
      refine br_one 10 (by kernel_rfl) (by rfl) ?_
      go_wp2
      refine ⟨by (repeat' (first | exact Ext.refl _ | assumption | refine Ext.alloc ?_ _ | refine Ext.drew ?_ | refine Ext.drewN ?_ _)), ?_⟩
      refine br_nil (by kernel_rfl) ?_
      refine NoPanic.normal ?_
      (try dsimp only [Exit.then])
      go_wp2
      go_ret
      exact ⟨ret_s Hd.out.symm, by (repeat' (first | exact Ext.refl _ | assumption | refine Ext.alloc ?_ _ | refine Ext.drew ?_ | refine Ext.drewN ?_ _))⟩
    · have hcv3 := hcv2 w _ ((Ext.refl (w.alloc (.cells #[.int .u8 (48 + (n : Int) % 10)] 5))).drew)
      go_wp2
      refine ⟨by (repeat' (first | exact Ext.refl _ | assumption | refine Ext.alloc ?_ _ | refine Ext.drew ?_ | refine Ext.drewN ?_ _)), ?_⟩
      refine br_one 2 (by kernel_rfl) (by rfl) ?_
      go_wp2_with (go_at_call 209; refine (C _).mono ?_; rintro e w1 ⟨rfl, he1⟩)
      have E3 : Ext w w1 := Ext.trans (by (repeat' (first | exact Ext.refl _ | assumption | refine Ext.alloc ?_ _ | refine Ext.drew ?_ | refine Ext.drewN ?_ _))) he1
      refine ⟨E3, ?_⟩
      refine br_one 9 (by kernel_rfl) (by rfl) ?_
      go_wp2
      refine ⟨by (repeat' (first | exact Ext.refl _ | assumption | refine Ext.alloc ?_ _ | refine Ext.drew ?_ | refine Ext.drewN ?_ _)), ?_⟩
      refine br_one 10 (by kernel_rfl) (by rfl) ?_
      go_wp2
      refine ⟨by (repeat' (first | exact Ext.refl _ | assumption | refine Ext.alloc ?_ _ | refine Ext.drew ?_ | refine Ext.drewN ?_ _)), ?_⟩
      refine br_nil (by kernel_rfl) ?_
      refine NoPanic.normal ?_
      (try dsimp only [Exit.then])
      go_wp2
      go_ret
      exact ⟨ret_s Hd.out.symm, by (repeat' (first | exact Ext.refl _ | assumption | refine Ext.alloc ?_ _ | refine Ext.drew ?_ | refine Ext.drewN ?_ _))⟩
theorem line_dir {s : List Hd} {x : It} (h : x.dir = true) : lineB s x = x.path ++ ⟨#[47]⟩ := if_pos h
theorem line_file {s : List Hd} {x : It} (h : x.dir = false) : lineB s x = x.path ++ ⟨#[32]⟩ ++ decB (loadOf s x.ids).length := if_neg (by simp [h])
set_option maxRecDepth 4000 in
set_option maxHeartbeats 2000000 in
theorem l41Item_c {B B' : Nat} {v xv : Value} {s : List Hd} {x : It} (w : World) (h : Hds B w v s) (hx : ItV B' w xv x) (hs : StoreOk s) (hf : IdsFit s x.ids) (hp : pathOk x.path = true) :
    Calls Tryz.prog 167 #[v, xv] w (Ret (.string (lineB s x)) w) := by
  have H := Lib.hid h
  obtain ⟨A, c, rfl, -⟩ := h
  obtain ⟨u, rfl, hps, hu⟩ := hx
  have HU := Lib.hid hu
  obtain ⟨Au, cu, rfl, -⟩ := hu
  have hp23 := pathOk_len hp
  have h32 := load32 hs hf
  obtain ⟨xp, xd, xi⟩ := x
  simp only at hps hf hp23 h32 HU
  have e0 : Ext w (w.alloc (.cells #[.string xp, .bool xd, .slice Au xi.length cu] 136)) := (Ext.refl w).alloc _
  have hbk := Blk.new w 136 #[.string xp, .bool xd, .slice Au xi.length cu]
  have d0 := fun W (e : Ext _ W) => hbk.at_ (i := 0) (u := .string xp) rfl W e
  have d2 := fun W (e : Ext _ W) => hbk.at_ (i := 2) (u := .slice Au xi.length cu) rfl W e
  have HS := Lib.hid hs; have HF := Lib.hid hf
  clear hbk hs hf hp
  cases xd with
  | true =>
    have Hr := Lib.hid (line_dir (s := s) (x := ⟨xp, true, xi⟩) rfl)
    have hs1 : ¬ 9223372036854775807 < xp.size + 1 := by omega
    go_enter Tryz.func167, Tryz.ntmps167
    go_wp2
    go_ret
    exact ⟨ret_s Hr.out.symm, e0⟩
  | false =>
    have Hr := Lib.hid (line_file (s := s) (x := ⟨xp, false, xi⟩) rfl)
    have Cl := fun W (e : Ext (w.alloc (.cells #[.string xp, .bool false, .slice Au xi.length cu] 136)) W) => l4Load_c W HS.out HF.out (H.out.ext (e0.trans e)) (HU.out.ext (e0.trans e))
    have Cd := fun W => l6Dec_c (loadOf s xi).length (by omega) W
    have hd2 : (decB (loadOf s xi).length).size ≤ 2 := decB_size (by omega)
    simp only at Hr
    have hs1 : ¬ 9223372036854775807 < xp.size + 1 := by omega
    have e1 : (xp ++ (⟨#[32]⟩ : ByteArray)).size = xp.size + 1 := by rw [ByteArray.size_append]; rfl
    generalize hdd : decB (loadOf s xi).length = dd at *
    have hs2 : ¬ 9223372036854775807 < (xp ++ (⟨#[32]⟩ : ByteArray)).size + dd.size := by omega
    generalize hll : (loadOf s xi).length = ll at *
    go_enter Tryz.func167, Tryz.ntmps167
    go_wp2
    refine wp_region_hold (fun W => W.cell? ⟨w.heap.size, 0, none⟩ = some (.string xp) ∧ W.cell? ⟨w.heap.size, 2, none⟩ = some (.slice Au xi.length cu)) 9 [(0, true), (1, true), (2, true), (3, true), (4, true), (5, true), (6, false), (7, true), (8, false)] (by kernel_rfl) (by kernel_rfl) ?_ ?_
    · exact ⟨d0 _ (Ext.refl _).drew, d2 _ (Ext.refl _).drew⟩
    (repeat (first | (apply hw_read (by rfl) (by rfl); (· (intro W hW; (try dsimp only at hW); go_simp; (first | done | rfl | (rw [if_pos] <;> first | omega | rfl)))); (try simp only [Act.put, List.setIfInBounds_toArray, List.set_cons_zero, List.set_cons_succ])) | (refine hw_skip (by rfl) (by rfl) ?_; (try simp only [Act.put, List.setIfInBounds_toArray, List.set_cons_zero, List.set_cons_succ]))))
    refine hw_step (by rfl) ?_
    go_wp2_with (go_at_call 101; refine (Cl _ (Ext.refl _).drew).mono ?_; rintro e w4 ⟨u9, rfl, ⟨A9, c9, rfl, -⟩, he9⟩)
    have he5 := (Ext.refl (w.alloc (.cells #[.string xp, .bool false, .slice Au xi.length cu] 136))).drew.trans he9
    (try rw [hll])
    refine ⟨⟨d0 _ he5, d2 _ he5⟩, ?_⟩
    (repeat (first | (apply hw_read (by rfl) (by rfl); (· (intro W hW; (try dsimp only at hW); go_simp; (first | done | rfl | (rw [if_pos] <;> first | omega | rfl)))); (try simp only [Act.put, List.setIfInBounds_toArray, List.set_cons_zero, List.set_cons_succ])) | (refine hw_skip (by rfl) (by rfl) ?_; (try simp only [Act.put, List.setIfInBounds_toArray, List.set_cons_zero, List.set_cons_succ]))))
    refine hw_step (by rfl) ?_
    go_wp2_with (go_at_call 209; refine (Cd _).mono ?_; rintro e w6 ⟨rfl, he6⟩)
    refine ⟨⟨d0 _ (he5.trans he6), d2 _ (he5.trans he6)⟩, ?_⟩
    (try (repeat (first | (apply hw_read (by rfl) (by rfl); (· (intro W hW; (try dsimp only at hW); go_simp; (first | done | rfl | (rw [if_pos] <;> first | omega | rfl)))); (try simp only [Act.put, List.setIfInBounds_toArray, List.set_cons_zero, List.set_cons_succ])) | (refine hw_skip (by rfl) (by rfl) ?_; (try simp only [Act.put, List.setIfInBounds_toArray, List.set_cons_zero, List.set_cons_succ])))))
    (refine hw_nil ?_; (try simp only [List.drop_succ_cons, List.drop_zero]))
    go_wp2
    refine NoPanic.normal ?_
    (try dsimp only [Exit.then])
    (try go_wp2)
    go_ret
    exact ⟨ret_s Hr.out.symm, e0.trans (he5.trans he6)⟩
set_option maxRecDepth 4000 in
set_option maxHeartbeats 2000000 in
theorem l41Tree_c {B B' : Nat} {v vt : Value} {s : List Hd} {t : List It} (w : World) (h : Hds B w v s) (ht : Its B' w vt t) (hs : StoreOk s) (hf : ∀ x, x ∈ t → IdsFit s x.ids ∧ pathOk x.path = true) (h12 : t.length ≤ 12) :
    Calls Tryz.prog 92 #[v, vt] w (Ret (.string (textB s t)) w) := by
  have H := Lib.hid h
  obtain ⟨A, c, rfl, -⟩ := h
  obtain ⟨A2, c2, rfl, hA⟩ := ht
  have HA := Lib.hid hA
  have hbd := Lib.hid (take_size hs hf h12)
  have HS := Lib.hid hs; have HF := Lib.hid hf
  generalize hnn : t.length = n at *
  have Hn := Lib.hid hnn
  clear hnn hA hs hf
  go_enter Tryz.func92, Tryz.ntmps92
  go_wp2
  go_loopw [5, 6] (fun o i wr => ∃ k : Nat, k ≤ n ∧ i = .int .i64 k ∧ o = .string ((t.take k).foldl (textStep s) ⟨#[]⟩) ∧ Ext w wr) (fun _ i _ => n - (intOf i).toNat)
  case atStart => exact ⟨0, by omega, rfl, rfl, Ext.refl _⟩
  case round =>
    obtain ⟨k, hk, rfl, rfl, he⟩ := hrel
    by_cases hlt : k < n
    · obtain ⟨x, hx⟩ := get_of_lt (l := t) (k := k) (by rw [Hn.out]; exact hlt)
      obtain ⟨b2, o, u, rfl, -, -, hps, hu, hc0, hc1, hc2⟩ := Its.at_ HA.out hx
      obtain ⟨hfit, hpok⟩ := HF.out x (List.mem_of_getElem? hx)
      have Ci := l41Item_c wr (H.out.ext he) (⟨_, rfl, hps, hu.ext he⟩ : ItV B' wr _ x) HS.out hfit hpok
      obtain ⟨Au, cu, rfl, -⟩ := hu
      have a0 := hc0 wr he; have a1 := hc1 wr he; have a2 := hc2 wr he
      have hst := foldl_take (textStep s) ⟨#[]⟩ hx
      have hb0 := hbd.out k
      have hls := line_size HS.out hfit hpok
      generalize (t.take k).foldl (textStep s) ⟨#[]⟩ = acc at *
      have hst2 : textStep s acc x = acc ++ lineB s x ++ ⟨#[10]⟩ := rfl
      rw [hst2] at hst
      generalize lineB s x = ln at *
      have Hst := Lib.hid hst
      have e1 : (acc ++ ln).size = acc.size + ln.size := ByteArray.size_append
      have hs1 : ¬ 9223372036854775807 < acc.size + ln.size := by omega
      have hs2 : ¬ 9223372036854775807 < (acc ++ ln).size + 1 := by omega
      clear hst hst2 hx hc0 hc1 hc2
      go_wp2_with (go_at_call 167; refine Ci.mono ?_; rintro e w2 ⟨rfl, he2⟩)
      go_roundw
      case rel => exact ⟨k + 1, by omega, by go_num, by rw [Hst.out], he.trans he2⟩
      case measure => simp [intOf]; omega
    · have hks : k = n := by omega
      subst hks
      have Hf : Hid ((t.take k).foldl (textStep s) ⟨#[]⟩ = textB s t) := Lib.hid (by rw [List.take_of_length_le (by rw [Hn.out]; exact Nat.le_refl _)]; rfl)
      generalize (t.take k).foldl (textStep s) ⟨#[]⟩ = acc at *
      go_wp2
      go_ret
      exact ⟨ret_s Hf.out, he⟩
set_option maxRecDepth 4000 in
set_option maxHeartbeats 2000000 in
theorem specTreeText_c {B B' : Nat} {v vt : Value} {s : List Hd} {t : List It} (w : World) (h : Hds B w v s) (ht : Its B' w vt t) : Calls Tryz.prog 26 #[v, vt] w (Ret (.string (treeTextOf s t)) w) := by
  have H := Lib.hid h; have HT := Lib.hid ht
  have C1 := specStoreValid_c w h
  have C2 := fun W (e : Ext w W) => specTreeValid_c W (HT.out.ext e)
  have C3 := fun W (e : Ext w W) => l11Files_c W (H.out.ext e) (HT.out.ext e)
  obtain ⟨A, c, rfl, -⟩ := h
  obtain ⟨A2, c2, rfl, -⟩ := ht
  cases h1 : storeOk s with
  | false =>
    rw [h1] at C1
    have Hr : Hid (treeTextOf s t = ⟨#[]⟩) := Lib.hid (by unfold treeTextOf; rw [h1]; rfl)
    clear h1 C2 C3
    go_enter Tryz.func26, Tryz.ntmps26
    go_wp2_with (go_at_call 89; refine C1.mono ?_; rintro e w2 ⟨rfl, he2⟩)
    go_ret
    exact ⟨ret_s Hr.out.symm, he2⟩
  | true =>
  rw [h1] at C1
  cases h2 : treeOk t with
  | false =>
    rw [h2] at C2
    have Hr : Hid (treeTextOf s t = ⟨#[]⟩) := Lib.hid (by unfold treeTextOf; rw [h1, h2]; rfl)
    clear h1 h2 C3
    go_enter Tryz.func26, Tryz.ntmps26
    go_wp2_with (first | (go_at_call 89; refine C1.mono ?_; rintro e w2 ⟨rfl, he2⟩) | (go_at_call 90; refine (C2 _ he2).mono ?_; rintro e w3 ⟨rfl, he3⟩))
    go_ret
    exact ⟨ret_s Hr.out.symm, he2.trans he3⟩
  | true =>
  rw [h2] at C2
  cases h3 : filesFit s t with
  | false =>
    rw [h3] at C3
    have Hr : Hid (treeTextOf s t = ⟨#[]⟩) := Lib.hid (by unfold treeTextOf; rw [h1, h2, h3]; rfl)
    clear h1 h2 h3
    go_enter Tryz.func26, Tryz.ntmps26
    go_wp2_with (first | (go_at_call 89; refine C1.mono ?_; rintro e w2 ⟨rfl, he2⟩) | (go_at_call 90; refine (C2 _ he2).mono ?_; rintro e w3 ⟨rfl, he3⟩) | (go_at_call 91; refine (C3 _ (he2.trans he3)).mono ?_; rintro e w4 ⟨rfl, he4⟩))
    go_ret
    exact ⟨ret_s Hr.out.symm, (he2.trans he3).trans he4⟩
  | true =>
    rw [h3] at C3
    have Hr : Hid (textB s t = treeTextOf s t) := Lib.hid (by unfold treeTextOf; rw [h1, h2, h3]; rfl)
    have C4 := fun W (e : Ext w W) => l41Tree_c W (H.out.ext e) (HT.out.ext e) (storeOk_iff.1 h1) (tree_ok_paths h2 (fits_all h3)) (treeOk_iff'.1 h2).1
    rw [Hr.out] at C4
    clear h1 h2 h3
    go_enter Tryz.func26, Tryz.ntmps26
    go_wp2_with (first | (go_at_call 89; refine C1.mono ?_; rintro e w2 ⟨rfl, he2⟩) | (go_at_call 90; refine (C2 _ he2).mono ?_; rintro e w3 ⟨rfl, he3⟩) | (go_at_call 91; refine (C3 _ (he2.trans he3)).mono ?_; rintro e w4 ⟨rfl, he4⟩) | (go_at_call 92; refine (C4 _ ((he2.trans he3).trans he4)).mono ?_; rintro e w5 ⟨rfl, he5⟩))
    go_ret
    exact ⟨rfl, ((he2.trans he3).trans he4).trans he5⟩
end Go.Sf
