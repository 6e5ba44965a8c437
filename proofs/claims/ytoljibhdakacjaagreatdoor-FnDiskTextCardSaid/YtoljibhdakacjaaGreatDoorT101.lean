/- Disks as text: the reference and the program. -/
import Derived.Test.YtoljibhdakacjaaGreatDoorT100
import Derived.Test.YtoljibhdakacjaaGreatDoorHI
namespace Go.Sf
open Go Go.RowKit Go.Proofs Go.Maps
noncomputable def snStep (s : List Hd) (a : ByteArray) (x : Sn) : ByteArray := a ++ ⟨#[64]⟩ ++ x.name ++ ⟨#[10]⟩ ++ textB s x.tree
noncomputable def snStep2 (s : List Hd) (a : ByteArray) (x : Sn) : ByteArray := a ++ (⟨#[64]⟩ ++ x.name ++ ⟨#[10]⟩) ++ textB s x.tree
noncomputable def snapsB (s : List Hd) (l : List Sn) : ByteArray := l.foldl (snStep2 s) ⟨#[]⟩
noncomputable def diskTextOf (s : List Hd) (t : List It) (l : List Sn) : ByteArray := if diskOk s t l = true then l.foldl (snStep s) (textB s t) else ⟨#[]⟩
theorem ba_assoc (a b c : ByteArray) : a ++ b ++ c = a ++ (b ++ c) := bl_inj (by simp only [bl_append, List.append_assoc])
theorem ba_nil (a : ByteArray) : a ++ (⟨#[]⟩ : ByteArray) = a := bl_inj (by rw [bl_append]; exact List.append_nil _)
theorem snaps_split (s : List Hd) (T : ByteArray) : ∀ (l : List Sn) (a : ByteArray), l.foldl (snStep s) (T ++ a) = T ++ l.foldl (snStep2 s) a := by
  intro l
  induction l with
  | nil => intro a; rfl
  | cons x l ih =>
    intro a
    rw [List.foldl_cons, List.foldl_cons, ← ih]
    congr 1
    unfold snStep snStep2
    simp only [ba_assoc]
theorem diskText_split {s : List Hd} {t : List It} {l : List Sn} (h : diskOk s t l = true) : diskTextOf s t l = textB s t ++ snapsB s l := by
  unfold diskTextOf snapsB
  rw [if_pos h, ← snaps_split, ba_nil]
theorem word_size {b : ByteArray} (h : wordOk (bl b) = true) : b.size ≤ 5 := by
  simp [wordOk] at h
  have := h.2.2
  rwa [bl_length] at this
/-- a tree whose text is at hand -/
def TxtOk (s : List Hd) (t : List It) : Prop := treeOk t = true ∧ ∀ x, x ∈ t → IdsFit s x.ids
theorem TxtOk.size {s : List Hd} (hs : StoreOk s) {t : List It} (h : TxtOk s t) : (textB s t).size ≤ 372 := by
  have := take_size hs (tree_ok_paths h.1 h.2) (treeOk_iff'.1 h.1).1 t.length
  rwa [List.take_length] at this
theorem sn_size {s : List Hd} (hs : StoreOk s) {x : Sn} (h1 : wordOk (bl x.name) = true) (h2 : TxtOk s x.tree) (a : ByteArray) : (snStep s a x).size ≤ a.size + 379 ∧ (snStep2 s a x).size ≤ a.size + 379 := by
  have a1 := word_size h1; have a2 := h2.size hs
  have e1 : (⟨#[64]⟩ : ByteArray).size = 1 := rfl
  have e2 : (⟨#[10]⟩ : ByteArray).size = 1 := rfl
  unfold snStep snStep2
  simp only [ByteArray.size_append]
  omega
theorem fold_size {f : ByteArray → Sn → ByteArray} (l : List Sn) (hf : ∀ a x, x ∈ l → (f a x).size ≤ a.size + 379) : ∀ a, (l.foldl f a).size ≤ a.size + 379 * l.length := by
  induction l with
  | nil => intro a; simp
  | cons x l ih =>
    intro a
    rw [List.foldl_cons, List.length_cons]
    have h1 := ih (fun a y hy => hf a y (by simp [hy])) (f a x)
    have h2 := hf a x (by simp)
    omega
theorem fold_take_size {f : ByteArray → Sn → ByteArray} {l : List Sn} (h6 : l.length ≤ 6) (hf : ∀ a x, x ∈ l → (f a x).size ≤ a.size + 379) (a : ByteArray) (k : Nat) : ((l.take k).foldl f a).size ≤ a.size + 2274 := by
  have h1 := fold_size (l.take k) (fun a x hx => hf a x (List.mem_of_mem_take hx)) a
  have h2 : (l.take k).length ≤ 6 := Nat.le_trans (List.length_take_le' _ _) h6
  omega
theorem disk_txt {s : List Hd} {t : List It} {l : List Sn} (h : diskOk s t l = true) : StoreOk s ∧ TxtOk s t ∧ l.length ≤ 6 ∧ ∀ x, x ∈ l → wordOk (bl x.name) = true ∧ TxtOk s x.tree :=
  let ⟨a, b, c, d, e⟩ := disk_parts h; ⟨a, ⟨b, c⟩, d, fun x hx => let ⟨p, q, r⟩ := e x hx; ⟨p, q, r⟩⟩
set_option maxRecDepth 8000 in
set_option maxHeartbeats 2000000 in
theorem specDiskText_c {B B' B2 : Nat} {vs vt vn : Value} {s : List Hd} {t : List It} {l : List Sn} (w : World) (hs : Hds B w vs s) (ht : Its B' w vt t) (hn : Sns B2 w vn l) :
    Calls Tryz.prog 31 #[.agg #[vs, vt, vn]] w (Ret (.string (diskTextOf s t l)) w) := by
  have HS := Lib.hid hs; have HT := Lib.hid ht; have HN := Lib.hid hn
  obtain ⟨A, c, rfl, -⟩ := hs
  obtain ⟨A2, c2, rfl, -⟩ := ht
  obtain ⟨A3, c3, rfl, hA⟩ := hn
  have hl := hA.2.2.1
  unfold lim at hl
  have e0 : Ext w (w.alloc (.cells #[.slice A s.length c, .slice A2 t.length c2, .slice A3 l.length c3] 27)) := (Ext.refl w).alloc _
  have hbk := Blk.new w 27 #[.slice A s.length c, .slice A2 t.length c2, .slice A3 l.length c3]
  have d0 := fun W (e : Ext _ W) => hbk.at_ (i := 0) (u := .slice A s.length c) rfl W e
  have d1 := fun W (e : Ext _ W) => hbk.at_ (i := 1) (u := .slice A2 t.length c2) rfl W e
  have d2 := fun W (e : Ext _ W) => hbk.at_ (i := 2) (u := .slice A3 l.length c3) rfl W e
  have Cd := specDiskValid_c _ (HS.out.ext e0) (HT.out.ext e0) (HN.out.ext e0)
  have HA := Lib.hid hA
  clear hbk hA
  cases hd : diskOk s t l with
  | false =>
    rw [hd] at Cd
    have Hr : Hid (diskTextOf s t l = ⟨#[]⟩) := Lib.hid (by unfold diskTextOf; rw [hd]; rfl)
    clear hd
    go_enter Tryz.func31, Tryz.ntmps31
    go_wp2_with (go_at_call 19; refine Cd.mono ?_; rintro e w2 ⟨rfl, he2⟩)
    go_ret
    exact ⟨ret_s Hr.out.symm, e0.trans he2⟩
  | true =>
  rw [hd] at Cd
  obtain ⟨hso, hto, h6, hsn⟩ := disk_txt hd
  have Ct := fun W (e : Ext w W) => l41Tree_c W (HS.out.ext e) (HT.out.ext e) hso (tree_ok_paths hto.1 hto.2) (treeOk_iff'.1 hto.1).1
  have Hr : Hid (l.foldl (snStep s) (textB s t) = diskTextOf s t l) := Lib.hid (by unfold diskTextOf; rw [hd]; rfl)
  have Hsz := Lib.hid (fold_take_size h6 (fun a x hx => (sn_size hso (hsn x hx).1 (hsn x hx).2 a).1) (textB s t))
  have Ht := Lib.hid (hto.size hso)
  have HSO := Lib.hid hso; have HSN := Lib.hid hsn
  clear hd hso hto h6 hsn
  generalize hnn : l.length = n at *
  have Hn := Lib.hid hnn; clear hnn
  generalize textB s t = T0 at *
  go_enter Tryz.func31, Tryz.ntmps31
  go_wp2_with (first | (go_at_call 19; refine Cd.mono ?_; rintro e w2 ⟨rfl, he2⟩; have q0 := d0 w2 he2; have q1 := d1 w2 he2) | (go_at_call 69; refine (Ct _ (e0.trans he2)).mono ?_; rintro e w3 ⟨rfl, he3⟩))
  have E3 := he2.trans he3
  clear Cd Ct q0 q1 he2 he3
  go_loopw [3, 4] (fun o i wr => ∃ k : Nat, k ≤ n ∧ i = .int .i64 k ∧ o = .string ((l.take k).foldl (snStep s) T0) ∧ Ext (w.alloc (.cells #[.slice A s.length c, .slice A2 t.length c2, .slice A3 n c3] 27)) wr) (fun _ i _ => n - (RowKit.intOf i).toNat)
  case atStart => exact ⟨0, by omega, rfl, rfl, E3⟩
  case round =>
    obtain ⟨k, hk, rfl, rfl, he⟩ := hrel
    have q0 := d0 wr he; have q2 := d2 wr he
    by_cases hlt : k < n
    · obtain ⟨x, hx⟩ := get_of_lt (l := l) (k := k) (by rw [Hn.out]; exact hlt)
      obtain ⟨b, o, u, rfl, -, -, -, hu, hc0, hc1⟩ := Sns.at_ HA.out hx
      obtain ⟨hw5, htx⟩ := HSN.out x (List.mem_of_getElem? hx)
      have HU := Lib.hid hu
      obtain ⟨Au, cu, rfl, -⟩ := hu
      have a0 := fun W (e : Ext wr W) => hc0 W ((e0.trans he).trans e)
      have a1 := fun W (e : Ext wr W) => hc1 W ((e0.trans he).trans e)
      have D0 := fun W (e : Ext wr W) => d0 W (he.trans e)
      have D2 := fun W (e : Ext wr W) => d2 W (he.trans e)
      have Cx := fun W (e : Ext wr W) => l41Tree_c W (HS.out.ext ((e0.trans he).trans e)) (HU.out.ext ((e0.trans he).trans e)) HSO.out (tree_ok_paths htx.1 htx.2) (treeOk_iff'.1 htx.1).1
      have hb0 := Hsz.out k
      have ht0 := Ht.out
      have hx5 := word_size hw5
      have hx7 := htx.size HSO.out
      have hst := foldl_take (snStep s) T0 hx
      generalize (l.take k).foldl (snStep s) T0 = acc at *
      have hst2 : snStep s acc x = acc ++ ⟨#[64]⟩ ++ x.name ++ ⟨#[10]⟩ ++ textB s x.tree := rfl
      rw [hst2] at hst
      have Hst := Lib.hid hst
      have e1 : (acc ++ (⟨#[64]⟩ : ByteArray)).size = acc.size + 1 := by rw [ByteArray.size_append]; rfl
      have e2 : (acc ++ (⟨#[64]⟩ : ByteArray) ++ x.name).size = acc.size + 1 + x.name.size := by rw [ByteArray.size_append, e1]
      have e3 : (acc ++ (⟨#[64]⟩ : ByteArray) ++ x.name ++ (⟨#[10]⟩ : ByteArray)).size = acc.size + 1 + x.name.size + 1 := by rw [ByteArray.size_append, e2]; rfl
      generalize textB s x.tree = T1 at *
      have hs1 : ¬ 9223372036854775807 < acc.size + 1 := by omega
      have hs2 : ¬ 9223372036854775807 < acc.size + 1 + x.name.size := by omega
      have hs3 : ¬ 9223372036854775807 < acc.size + 1 + x.name.size + 1 := by omega
      have hs4 : ¬ 9223372036854775807 < acc.size + 1 + x.name.size + 1 + T1.size := by omega
      have Z := Lib.hid (And.intro e1 (And.intro e2 e3))
      clear hst hst2 hc0 hc1 hx d0 d1 d2 q0 e1 e2 e3 hw5 htx
      go_wp2
      refine wp_region_hold (fun W => Ext wr W ∧ W.cell? ⟨w.heap.size, 0, none⟩ = some (.slice A s.length c) ∧ W.cell? ⟨w.heap.size, 2, none⟩ = some (.slice (some ⟨b, o, none⟩) n c3) ∧ W.cell? ⟨b, o + k * 2, none⟩ = some (.string x.name) ∧ W.cell? ⟨b, o + k * 2 + 1, none⟩ = some (.slice Au x.tree.length cu)) 19 [(0, true), (1, true), (2, true), (3, true), (4, true), (5, true), (6, true), (7, true), (8, true), (9, true), (10, true), (11, true), (12, true), (13, true), (14, true), (15, true), (16, true), (17, true), (18, false)] (by kernel_rfl) (by kernel_rfl) ?_ ?_
      · have e := (Ext.refl wr).drew
        exact ⟨e, D0 _ e, D2 _ e, a0 _ e, a1 _ e⟩
      (repeat (first | (apply hw_read (by rfl) (by rfl); (· (intro W hW; (try dsimp only at hW); go_simp; (first | done | rfl | (rw [if_pos] <;> first | omega | rfl)))); (try simp only [Act.put, List.setIfInBounds_toArray, List.set_cons_zero, List.set_cons_succ])) | (refine hw_skip (by rfl) (by rfl) ?_; (try simp only [Act.put, List.setIfInBounds_toArray, List.set_cons_zero, List.set_cons_succ]))))
      refine hw_step (by rfl) ?_
      go_wp2_with (go_at_call 69; refine (Cx _ (Ext.refl _).drew).mono ?_; rintro e w4 ⟨rfl, he4⟩)
      have he5 := (Ext.refl wr).drew.trans he4
      refine ⟨⟨he5, D0 _ he5, D2 _ he5, a0 _ he5, a1 _ he5⟩, ?_⟩
      clear a0 a1 D0 D2
      (try (repeat (first | (apply hw_read (by rfl) (by rfl); (· (intro W hW; (try dsimp only at hW); go_simp; (first | done | rfl | (rw [if_pos] <;> first | omega | rfl)))); (try simp only [Act.put, List.setIfInBounds_toArray, List.set_cons_zero, List.set_cons_succ])) | (refine hw_skip (by rfl) (by rfl) ?_; (try simp only [Act.put, List.setIfInBounds_toArray, List.set_cons_zero, List.set_cons_succ])))))
      (refine hw_nil ?_; (try simp only [List.drop_succ_cons, List.drop_zero]))
      go_wp2
      refine NoPanic.normal ?_
      (try dsimp only [Exit.then])
      (try go_wp2)
      go_roundw
      case rel => exact ⟨k + 1, by omega, by go_num, by rw [Hst.out], he.trans he5⟩
      case measure => simp [RowKit.intOf]; omega
    · have hks : k = n := by omega
      subst hks
      have Hf : Hid ((l.take k).foldl (snStep s) T0 = diskTextOf s t l) := Lib.hid (by rw [← Hr.out, List.take_of_length_le (by rw [Hn.out]; exact Nat.le_refl _)])
      generalize (l.take k).foldl (snStep s) T0 = acc at *
      go_wp2
      go_ret
      exact ⟨ret_s Hf.out, e0.trans he⟩
/-- all rows but a builder's own are as they were -/
def KeepsB (w w' : World) : Prop := ∀ (k : Nat) (t : TypeId) (cs : Array Value), t ≠ 167 → t ≠ 5 → w.heap[k]? = some (.cells cs t (0, 0)) → w'.heap[k]? = some (.cells cs t (0, 0))
theorem KeepsB.refl (w : World) : KeepsB w w := fun _ _ _ _ _ h => h
theorem KeepsB.trans {a b c : World} (h : KeepsB a b) (k : KeepsB b c) : KeepsB a c := fun i t cs h1 h2 h3 => k i t cs h1 h2 (h i t cs h1 h2 h3)
theorem KeepsB.set {w : World} {b i : Nat} {cs : Array Value} (hb : w.heap[b]? = some (.cells cs 167 (0, 0))) (u : Value) : KeepsB w (w.setCell ⟨b, i, none⟩ u) := fun k t cs' h1 _ h3 => by
  refine (Below.heap_setCell w ⟨b, i, none⟩ u k ?_).trans h3
  rintro rfl
  rw [hb] at h3
  injection h3 with h3
  injection h3 with _ h4 _
  exact h1 h4.symm
theorem KeepsB.grown {w w' : World} {B n : Nat} {v : Value} {xs : List Value} (ho : w.ownsRow B 5 1 v n xs) (hg : w.grownBy w' v.ownBlock) : KeepsB w w' := fun k t cs _ h2 h3 => by
  refine (hg.block k (heap_lt h3) fun e => ?_).trans h3
  rcases ho.2 with ⟨rfl, -⟩ | ⟨g, cap, cur, rfl, -, hh, -⟩
  · cases e
  · simp only [Value.ownBlock, Option.some.injEq] at e
    subst e
    rw [hh] at h3
    injection h3 with h3
    injection h3 with _ h4 _
    exact h2 h4.symm
theorem KeepsB.cell {w w' : World} (h : KeepsB w w') {k i : Nat} {t : TypeId} {cs : Array Value} {u : Value} (hb : Blk w k t cs) (h1 : t ≠ 167) (h2 : t ≠ 5) (hu : cs[i]? = some u) : w'.cell? ⟨k, i, none⟩ = some u :=
  (Blk.cell (h k t cs h1 h2 hb) i).trans hu
theorem copyCheck_c {B b : Nat} {bs : List Value} (w : World) (h : Lib.IsBuilder 167 5 B b bs w) :
    Calls Tryz.prog 150 #[.pointer (some ⟨b, 0, none⟩)] w fun e w' => e = .returned (.tuple #[]) ∧ Lib.BuilderAt 167 5 B b (.pointer (some ⟨b, 0, none⟩)) bs w' ∧ Below B w w' ∧ KeepsB w w' := by
  rcases h with h | h
  · refine (Any.Builder_copyCheck_fresh (ρ := Tryz.lays166_ren) { Tryz.lays166 with } Tryz.Builder_Extra_166.toX72 b w h.cell0 h.shape h.frozen0).mono ?_
    rintro e w' ⟨rfl, rfl⟩
    refine ⟨rfl, h.used _, (Below.refl B w).setCell (p := ⟨b, 0, none⟩) h.1 _, ?_⟩
    obtain ⟨-, v, hb, -⟩ := h
    exact KeepsB.set hb _
  · refine (Any.Builder_copyCheck_used (ρ := Tryz.lays166_ren) { Tryz.lays166 with } Tryz.Builder_Extra_166.toX72 b w h.cell0).mono ?_
    rintro e w' ⟨rfl, rfl⟩
    exact ⟨rfl, h, Below.refl B _, KeepsB.refl _⟩
set_option maxRecDepth 100000 in
set_option maxHeartbeats 2000000 in
/-- a text is written behind a builder's: what else is kept -/
theorem WriteStringK_c {B : Nat} {t : ByteArray} (s : ByteArray) (w : World) (h : Bld B t w) (hl : t.size + s.size ≤ 1000000) (hBw : B ≤ w.heap.size) :
    Calls Tryz.prog 117 #[.pointer (some ⟨B, 0, none⟩), .string s] w fun e w' => e = .returned (.tuple #[.int .i64 s.size, .nilIface]) ∧ Bld B (t ++ s) w' ∧ Below B w w' ∧ KeepsB w w' := by
  have hbs : (Lib.byteCells (bl t)).length = t.size := bld_size
  have happ : Lib.byteCells (bl (t ++ s)) = Lib.byteCells (bl t) ++ Lib.strCells s := by rw [bl_append, Lib.byteCells_append, bl_str s]
  unfold Bld at h
  obtain ⟨i0, hi, hz0, hz1, hz2⟩ := info_parts Tryz.Builder_Extra_166.infoByte
  go_enter Tryz.func117, Tryz.ntmps117
  go_wp2_with (go_at_call 150; refine (copyCheck_c _ h).mono ?_)
  rintro e w1 ⟨rfl, h1, hb1, hk1⟩
  obtain ⟨hB, v, hbk, hown, hne⟩ := h1
  have c0 : w1.cell? ⟨B, 0, none⟩ = some (.pointer (some ⟨B, 0, none⟩)) := by rw [Lib.cell_of_heap hbk]; rfl
  have c1 : w1.cell? ⟨B, 1, none⟩ = some v := by rw [Lib.cell_of_heap hbk]; rfl
  have hsz1 := hb1.size
  go_wp2_with (at_builtin; refine Lib.wpList_append_own_string _ rfl _ _ 22 9 rfl B 5 i0 Tryz.underlying22 Tryz.underlying9 hi hz0 hz1 hz2 _ _ _ rfl hown s rfl ?c3 ?c4 ?c5 ?_)
  case c3 => unfold maxLen; omega
  case c4 => omega
  case c5 => omega
  intro v' w2 hown' hgrow _
  have hlt : B < w1.heap.size := heap_lt hbk
  have hb2 : w2.heap[B]? = some (.cells #[.pointer (some ⟨B, 0, none⟩), v] 167 (0, 0)) := by
    rw [hgrow.block B hlt (fun e => hne e.symm)]
    exact hbk
  have d0 : w2.cell? ⟨B, 0, none⟩ = some (.pointer (some ⟨B, 0, none⟩)) := by rw [Lib.cell_of_heap hb2]; rfl
  have d1 : w2.cell? ⟨B, 1, none⟩ = some v := by rw [Lib.cell_of_heap hb2]; rfl
  have f1 : w2.frozen? ⟨B, 1, none⟩ = false := Lib.frozen_of_heap hb2 1
  obtain ⟨ao, n', cap, rfl⟩ : ∃ ao n' cap, v' = .slice ao n' cap := by
    rcases hown'.2 with ⟨hv, _⟩ | ⟨g, cap, cur, hv, _⟩
    · exact ⟨_, _, _, hv⟩
    · exact ⟨_, _, _, hv⟩
  go_wp2
  go_ret2
  refine ⟨rfl, .inr ?_, ?_, (hk1.trans (KeepsB.grown hown hgrow)).trans (KeepsB.set hb2 _)⟩
  · rw [happ]
    exact Lib.BuilderAt.put (T := 167) (e := 5) hB hb2 (bs' := Lib.byteCells (bl t) ++ Lib.strCells s) (by rw [List.length_append, Lib.strCells_length, hbs]; exact hown') (by decide)
  · exact (hb1.grown hgrow (by omega) (fun k hk => (hown.lt k hk).1)).setCell (p := ⟨B, 1, none⟩) hB _
set_option maxRecDepth 8000 in
set_option maxHeartbeats 2000000 in
theorem snapsText_c {B b g n0 : Nat} {v : Value} {rt : Nat} {s : List Hd} {l : List Sn} {aq : List (ByteArray × Nat)} (w : World) (hD : Blk w g 86 #[.int .i32 0, .int .u32 0, .map (some b), .pointer (some ⟨rt, 0, none⟩), v]) (hst : StoreAt B b n0 s w)
    (hO : SlOf B 88 2 ESP w v aq) (hSn : SnapsIn B w l aq none) (hs : StoreOk s) (h6 : l.length ≤ 6) (hsn : ∀ x, x ∈ l → wordOk (bl x.name) = true ∧ TxtOk s x.tree) :
    Calls Tryz.prog 73 #[.pointer (some ⟨g, 0, none⟩)] w (Ret (.string (snapsB s l)) w) := by
  have hal := hSn.1
  obtain ⟨A8, c8, rfl, hA8⟩ := hO
  have c4 := fun W (e : Ext w W) => hD.at_ (i := 4) (u := .slice A8 aq.length c8) rfl W e
  have c2 := fun W (e : Ext w W) => hD.at_ (i := 2) (u := .map (some b)) rfl W e
  rw [hal] at c4
  have Hsz := Lib.hid (fold_take_size h6 (fun a x hx => (sn_size hs (hsn x hx).1 (hsn x hx).2 a).2) ⟨#[]⟩)
  have HA8 := Lib.hid hA8; have HSn := Lib.hid hSn; have HS := Lib.hid hs; have HSN := Lib.hid hsn; have HSt := Lib.hid hst; have H6 := Lib.hid h6
  clear hA8 hSn hs hsn hst hD hal
  generalize hnn : l.length = n at *
  have Hn := Lib.hid hnn; clear hnn
  have hB0 := Lib.hid (Bld.fresh w)
  have q4 := c4 _ ((Ext.refl w).alloc (.cells #[.pointer none, .slice none 0 0] 167))
  go_enter Tryz.func73, Tryz.ntmps73
  go_wp2
  go_loopw [11] (fun i wr => ∃ k : Nat, k ≤ n ∧ i = .int .i64 k ∧ Ext w wr ∧ w.heap.size < wr.heap.size ∧ Hid (Bld w.heap.size ((l.take k).foldl (snStep2 s) ⟨#[]⟩) wr)) (fun i _ => n - (RowKit.intOf i).toNat)
  case atStart => exact ⟨0, by omega, rfl, (Ext.refl w).alloc _, by simp, hB0⟩
  case round =>
    clear hB0 q4
    obtain ⟨k, hk, rfl, he, hlt0, hBl⟩ := hrel
    by_cases hlt : k < n
    · obtain ⟨x, hx⟩ := get_of_lt (l := l) (k := k) (by rw [Hn.out]; exact hlt)
      obtain ⟨hns, hok, adr2, kv2, has, hT2, -⟩ := HSn.out.2 k x hx
      obtain ⟨b8, o8, rfl, -, hc0, hc1⟩ := Sps.at_ HA8.out has
      simp only at hc0 hc1
      have a0 := hc0 wr he; have a1 := hc1 wr he
      obtain ⟨hw5, htx⟩ := HSN.out x (List.mem_of_getElem? hx)
      have ea : Ext wr (wr.alloc (.cells #[.string x.name, .pointer (some ⟨adr2 [], 0, none⟩)] 88)) := (Ext.refl wr).alloc _
      have hbs := Blk.new wr 88 #[.string x.name, .pointer (some ⟨adr2 [], 0, none⟩)]
      have s0 := fun W (e : Ext _ W) => hbs.at_ (i := 0) (u := .string x.name) rfl W e
      have s1 := fun W (e : Ext _ W) => hbs.at_ (i := 1) (u := .pointer (some ⟨adr2 [], 0, none⟩)) rfl W e
      have Ct := fun W (e : Ext w W) => treeText_c W (HSt.out.ext e) HS.out htx.1 (hT2.ext e) htx.2
      have hst := foldl_take (snStep2 s) ⟨#[]⟩ hx
      have hb0 := Hsz.out k
      have hx5 := word_size hw5
      have hx7 := htx.size HS.out
      have hz : (⟨#[]⟩ : ByteArray).size = 0 := rfl
      rw [hz] at hb0
      clear hz
      generalize (l.take k).foldl (snStep2 s) ⟨#[]⟩ = acc at *
      have hst2 : snStep2 s acc x = acc ++ (⟨#[64]⟩ ++ x.name ++ ⟨#[10]⟩) ++ textB s x.tree := rfl
      rw [hst2] at hst
      have Hst := Lib.hid hst
      have e1 : ((⟨#[64]⟩ : ByteArray) ++ x.name).size = 1 + x.name.size := by rw [ByteArray.size_append]; rfl
      have e2 : ((⟨#[64]⟩ : ByteArray) ++ x.name ++ (⟨#[10]⟩ : ByteArray)).size = 1 + x.name.size + 1 := by rw [ByteArray.size_append, e1]; rfl
      have e3 : (acc ++ ((⟨#[64]⟩ : ByteArray) ++ x.name ++ (⟨#[10]⟩ : ByteArray))).size = acc.size + (1 + x.name.size + 1) := by rw [ByteArray.size_append, e2]
      generalize textB s x.tree = T1 at *
      have hs1 : ¬ 9223372036854775807 < 1 + x.name.size := by omega
      have hs2 : ¬ 9223372036854775807 < 1 + x.name.size + 1 := by omega
      have Z := Lib.hid (And.intro e1 (And.intro e2 e3))
      have Z2 := Lib.hid (And.intro hx5 (And.intro hx7 hb0))
      clear hst hst2 hc0 hc1 hx e1 e2 e3 hx5 hx7 hb0 htx hw5 has hT2
      have t0 := s0 _ (Ext.refl _)
      have hsza := ea.size
      have Cw := WriteStringK_c (⟨#[64]⟩ ++ x.name ++ ⟨#[10]⟩) _ (hBl.out.ext ea) (by have := Z.out; have := Z2.out; omega) (by omega)
      clear hBl
      go_wp2_with fail
      refine Cw.mono ?_
      rintro e w3 ⟨rfl, hB3, hl3, hk3⟩
      have HB3 := Lib.hid hB3
      have E3 : Hid (Ext w w3) := Lib.hid (Below.trans (he.trans ea) hl3)
      have hsz3 := hl3.size
      have u2 := c2 _ E3.out
      have u1 := hk3.cell hbs (i := 1) (u := .pointer (some ⟨adr2 [], 0, none⟩)) (by decide) (by decide) rfl
      clear Cw hB3 a0 a1 hs1 hs2 t0 s0 hk3 hl3
      go_wp2
      refine wp_region_hold (fun W => W.cell? ⟨g, 2, none⟩ = some (.map (some b)) ∧ W.cell? ⟨wr.heap.size, 1, none⟩ = some (.pointer (some ⟨adr2 [], 0, none⟩))) 7 [(0, true), (1, true), (2, true), (3, true), (4, true), (5, true), (6, true)] (by kernel_rfl) (by kernel_rfl) ?_ ?_
      · exact ⟨u2, u1⟩
      (repeat (first | (apply hw_read (by rfl) (by rfl); (· (intro W hW; (try dsimp only at hW); go_simp; (first | done | rfl | (rw [if_pos] <;> first | omega | rfl)))); (try simp only [Act.put, List.setIfInBounds_toArray, List.set_cons_zero, List.set_cons_succ])) | (refine hw_skip (by rfl) (by rfl) ?_; (try simp only [Act.put, List.setIfInBounds_toArray, List.set_cons_zero, List.set_cons_succ]))))
      (refine hw_nil ?_; (try simp only [List.drop_succ_cons, List.drop_zero]))
      go_wp2_with (go_at_call 68; refine (Ct _ E3.out.drew).mono ?_; rintro e w5 ⟨rfl, he5⟩)
      have he6 : Ext w3 w5 := (Ext.refl w3).drew.trans he5
      have hsz5 := he6.size
      have Cv := WriteStringK_c T1 w5 (HB3.out.ext he6) (by have := Z.out; have := Z2.out; omega) (by omega)
      clear HB3
      go_wp2_with fail
      refine Cv.mono ?_
      rintro e w7 ⟨rfl, hB7, hl7, -⟩
      have HB7 := Lib.hid hB7
      have E7 : Ext w w7 := Below.trans (E3.out.trans he6) hl7
      have hsz7 := hl7.size
      clear Cv hB7
      go_wp2
      refine NoPanic.normal ?_
      (try dsimp only [Exit.then])
      (try go_wp2)
      go_roundw
      case rel => exact ⟨k + 1, by omega, by go_num, E7, by omega, by rw [Hst.out]; exact HB7⟩
      case measure => simp [RowKit.intOf]; omega
    · have hks : k = n := by omega
      subst hks
      have Hf : Hid ((l.take k).foldl (snStep2 s) ⟨#[]⟩ = snapsB s l) := Lib.hid (by rw [List.take_of_length_le (by rw [Hn.out]; exact Nat.le_refl _)]; rfl)
      rw [Hf.out] at hBl
      have Cs := BString_c wr hBl.out (by omega)
      clear Hf hBl
      go_wp2_with (go_at_call 118; refine Cs.mono ?_; rintro e w4 ⟨rfl, hl4⟩)
      go_ret
      exact ⟨rfl, Below.trans he hl4⟩
set_option maxRecDepth 8000 in
set_option maxHeartbeats 2000000 in
theorem DiskText_c {B B' B2 : Nat} {vs vt vn : Value} {s : List Hd} {t : List It} {l : List Sn} (w : World) (hs : Hds B w vs s) (ht : Its B' w vt t) (hn : Sns B2 w vn l) (hm : ML w) :
    Calls Tryz.prog 30 #[.agg #[vs, vt, vn]] w (Ret (.string (diskTextOf s t l)) w) := by
  have HS := Lib.hid hs; have HT := Lib.hid ht; have HN := Lib.hid hn; have HM := Lib.hid hm
  obtain ⟨A, c, rfl, -⟩ := hs
  obtain ⟨A2, c2, rfl, -⟩ := ht
  obtain ⟨A3, c3, rfl, -⟩ := hn
  have e0 : Ext w (w.alloc (.cells #[.slice A s.length c, .slice A2 t.length c2, .slice A3 l.length c3] 27)) := (Ext.refl w).alloc _
  have Cn := newDisk_c _ (HS.out.ext e0) (HT.out.ext e0) (HN.out.ext e0) (HM.out.ext e0)
  clear hm
  go_enter Tryz.func30, Tryz.ntmps30
  go_wp2_with fail
  refine Cn.mono ?_
  rintro e w1 ⟨he1, ⟨hv, rfl⟩ | ⟨hv, g, rfl, b, adr, kv, v, aq, -, hD, hSt, hT, hO, hSn⟩⟩
  · have Hr : Hid (diskTextOf s t l = ⟨#[]⟩) := Lib.hid (by unfold diskTextOf; rw [hv]; rfl)
    clear hv Cn
    go_wp2
    go_ret
    exact ⟨ret_s Hr.out.symm, e0.trans he1⟩
  have Hr : Hid (diskTextOf s t l = textB s t ++ snapsB s l) := Lib.hid (diskText_split hv)
  obtain ⟨hso, hto, h6, hsn⟩ := disk_txt hv
  have hsl := hO.sl esp_ok (Nat.le_refl _) (by rw [hSn.1]; unfold lim; omega)
  have Ct := fun W (e : Ext w1 W) => treeText_c W (hSt.ext e) hso hto.1 (hT.ext e) hto.2
  have Cs := fun W (e : Ext w1 W) => snapsText_c W (hD.ext e) (hSt.ext e) (sps_ext hsl e) (hSn.ext e) hso h6 hsn
  have u2 := fun W (e : Ext w1 W) => hD.at_ (i := 2) (u := .map (some b)) rfl W e
  have u3 := fun W (e : Ext w1 W) => hD.at_ (i := 3) (u := .pointer (some ⟨adr [], 0, none⟩)) rfl W e
  have hz0 := hto.size hso
  have hz1 := fold_take_size h6 (fun a x hx => (sn_size hso (hsn x hx).1 (hsn x hx).2 a).2) ⟨#[]⟩ l.length
  rw [List.take_of_length_le (Nat.le_refl _)] at hz1
  have hz2 : (snapsB s l).size ≤ 2274 := by
    have e9 : (⟨#[]⟩ : ByteArray).size = 0 := rfl
    unfold snapsB; omega
  have E1 := Lib.hid (e0.trans he1)
  clear hv Cn hSt hT hO hSn hD hsl hso hto h6 hsn hz1 e0 he1
  generalize textB s t = T0 at *
  generalize snapsB s l = T1 at *
  have hs1 : ¬ 9223372036854775807 < T0.size + T1.size := by omega
  clear hz0 hz2
  go_wp2
  refine wp_region_hold (fun W => W.cell? ⟨g, 2, none⟩ = some (.map (some b)) ∧ W.cell? ⟨g, 3, none⟩ = some (.pointer (some ⟨adr [], 0, none⟩))) 12 [(0, true), (1, true), (2, true), (3, true), (4, true), (5, true), (6, true), (7, true), (8, true), (9, true), (11, true), (10, false)] (by kernel_rfl) (by kernel_rfl) ?_ ?_
  · exact ⟨u2 _ (Ext.refl _).drew, u3 _ (Ext.refl _).drew⟩
  (repeat (first | (apply hw_read (by rfl) (by rfl); (· (intro W hW; (try dsimp only at hW); go_simp; (first | done | rfl | (rw [if_pos] <;> first | omega | rfl)))); (try simp only [Act.put, List.setIfInBounds_toArray, List.set_cons_zero, List.set_cons_succ])) | (refine hw_skip (by rfl) (by rfl) ?_; (try simp only [Act.put, List.setIfInBounds_toArray, List.set_cons_zero, List.set_cons_succ]))))
  refine hw_step (by rfl) ?_
  go_wp2_with (go_at_call 68; refine (Ct _ (Ext.refl _).drew).mono ?_; rintro e w4 ⟨rfl, he4⟩)
  have he5 := (Ext.refl w1).drew.trans he4
  refine ⟨⟨u2 _ he5, u3 _ he5⟩, ?_⟩
  (try (repeat (first | (apply hw_read (by rfl) (by rfl); (· (intro W hW; (try dsimp only at hW); go_simp; (first | done | rfl | (rw [if_pos] <;> first | omega | rfl)))); (try simp only [Act.put, List.setIfInBounds_toArray, List.set_cons_zero, List.set_cons_succ])) | (refine hw_skip (by rfl) (by rfl) ?_; (try simp only [Act.put, List.setIfInBounds_toArray, List.set_cons_zero, List.set_cons_succ])))))
  (refine hw_nil ?_; (try simp only [List.drop_succ_cons, List.drop_zero]))
  go_wp2_with (go_at_call 73; refine (Cs _ he5).mono ?_; rintro e w6 ⟨rfl, he6⟩)
  refine NoPanic.normal ?_
  (try dsimp only [Exit.then])
  (try go_wp2)
  go_ret
  exact ⟨ret_s Hr.out.symm, E1.out.trans (he5.trans he6)⟩
end Go.Sf
