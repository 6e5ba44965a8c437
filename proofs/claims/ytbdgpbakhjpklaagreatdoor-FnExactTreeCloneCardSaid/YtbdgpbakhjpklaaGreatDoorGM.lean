/- The items of a tree of nodes are listed: each one's ids in a block of its own. -/
import Derived.Test.YtbdgpbakhjpklaaGreatDoorGF
import Derived.Test.YtbdgpbakhjpklaaGreatDoorGL
import Derived.Test.YtbdgpbakhjpklaaGreatDoorGA
import Derived.Laws.AppendOwn
import Derived.Test.YtbdgpbakhjpklaaGreatDoorGG
/-! The items of a tree of nodes are listed: each one's ids in a block of its own. -/
namespace Go.Sf
open Go Go.RowKit Go.Proofs
section
variable {P : Program} {α : Type} {ops : Array Oper} {rest : List Oper} {o : Oper} {a : Act} {Q : Exit → Act → World → Prop}
/-- the same for all elements of a slice, with what it leaves told block by block -/
theorem wp_apSG {W : World} {T t sz B B' : Nat} {E : World → Array Value → Nat → α → Prop} (hgd : o.guard = none) (s x : Operand)
    (ho : o.op = .call { callee := .builtin .append, args := #[s, x], argTypes := #[T, T] })
    (el : Elem P T t sz) (ok : ElOk t sz E) (hB : B ≤ W.heap.size) (v v2 : Value) (l ys : List α) (hs : a.eval s = v) (hown : OwnS B t sz E W v l)
    (hx : a.eval x = v2) (h2 : SlOf B' t sz E W v2 ys) (hl : l.length + ys.length ≤ lim)
    (h : ∀ v' w', OwnS B t sz E w' v' (l ++ ys) → W.grownBy w' v.ownBlock → KeepsT t W w' → wpList P ops Q rest (a.put o.dst v') w') : wpList P ops Q (o :: rest) a W := by
  obtain ⟨A, c, rfl, hn, ⟨hc, hc0⟩, -, hel⟩ := h2
  cases A with
  | none =>
    have hy : ys = [] := by
      cases ys with
      | nil => rfl
      | cons y ys => obtain ⟨b, o, cs, e, -⟩ := hel 0 y rfl; cases e
    subst hy
    obtain ⟨i, z, by_, hi, hz, hsz, hby, hb128, hzs⟩ := el.info
    obtain ⟨xs, hrow, hxs⟩ := hown
    refine wpList_append_own_none (w := W) hgd s x T ho B t i sz el.under hi v l.length xs hs hrow (by simpa [hc0 rfl] using hx) ?_
    simpa using h v W ⟨xs, by simpa using hrow, by simpa using hxs⟩ ⟨rfl, rfl, rfl, Nat.le_refl _, fun _ _ _ => rfl⟩ (fun _ _ _ _ hb => hb)
  | some ad =>
    by_cases hy : ys = []
    · subst hy
      exact wp_apG hgd s x ho el ok hB v l [] hs hown ad 0 c rfl #[] hx (by simp) (by simp) (fun j u hj => by simp at hj) (fun k y hk => by simp at hk) hl h
    · have hlen : 0 < ys.length := List.length_pos_iff.2 hy
      obtain ⟨b, o', cs, e, -, hb, -⟩ := hel 0 ys[0] (by simp [hlen])
      simp only [Option.some.injEq] at e
      subst e
      have hall : ∀ k y, ys[k]? = some y → E W cs (o' + k * sz) y := fun k y hk => by
        obtain ⟨b2, o2, cs2, e2, -, hb2, he2⟩ := hel k y hk
        simp only [Option.some.injEq, Addr.mk.injEq, and_true] at e2
        obtain ⟨rfl, rfl⟩ := e2
        have : cs2 = cs := by
          unfold Blk at hb hb2
          rw [hb] at hb2
          simp only [Option.some.injEq, Obj.cells.injEq] at hb2
          exact hb2.1.symm
        rw [← this]; exact he2
      have hget : ∀ j, j < ys.length * sz → ∃ u, cs[o' + j]? = some u ∧ u.oneCell' = true := fun j hj => by
        have hp := el.pos
        have hk : j / sz < ys.length := Nat.div_lt_of_lt_mul (by rw [Nat.mul_comm]; exact hj)
        have := ok.full _ _ _ _ (hall (j / sz) ys[j / sz] (by simp [hk])) (j % sz) (Nat.mod_lt _ hp)
        rwa [Nat.add_assoc, Nat.mul_comm, Nat.div_add_mod] at this
      have hcsz : o' + ys.length * sz ≤ cs.size := by
        have hp := el.pos
        have hm : 0 < ys.length * sz := Nat.mul_pos hlen hp
        obtain ⟨u, hu, -⟩ := hget (ys.length * sz - 1) (by omega)
        have := (Array.getElem?_eq_some_iff.1 hu).1
        omega
      have hcut : ∀ j, j < ys.length * sz → (cs.extract o' (o' + ys.length * sz))[j]? = cs[o' + j]? := fun j hj => by
        rw [Array.getElem?_extract, if_pos (by omega)]
      have hsize : (cs.extract o' (o' + ys.length * sz)).size = ys.length * sz := by rw [Array.size_extract]; omega
      refine wp_apG hgd s x ho el ok hB v l ys hs hown ⟨b, o', none⟩ ys.length c rfl (cs.extract o' (o' + ys.length * sz)) hx hsize ?_ ?_ ?_ hl h
      · intro u hu
        obtain ⟨j, hj⟩ := List.mem_iff_getElem?.1 hu
        rw [Array.getElem?_toList] at hj
        have hlt := (Array.getElem?_eq_some_iff.1 hj).1
        rw [hsize] at hlt
        rw [hcut j hlt] at hj
        obtain ⟨u', hu', h1⟩ := hget j hlt
        rw [hu'] at hj
        rw [← Option.some.inj hj]; exact h1
      · intro j u hj
        have hlt := (Array.getElem?_eq_some_iff.1 hj).1
        rw [hsize] at hlt
        rw [hcut j hlt] at hj
        have e : (⟨b, o', none⟩ : Addr).add j = ⟨b, o' + j, none⟩ := by
          unfold Addr.add; split
          · next h => subst h; rfl
          · rfl
        rw [e, hb.cell, hj]
      · intro k y hk
        refine ok.loc _ _ _ _ _ _ (fun j hj => ?_) (hall k y hk)
        have hk' : k < ys.length := by
          rcases Nat.lt_or_ge k ys.length with h | h
          · exact h
          · rw [List.getElem?_eq_none h] at hk; cases hk
        have : (k + 1) * sz ≤ ys.length * sz := Nat.mul_le_mul_right _ hk'
        rw [Nat.add_mul, Nat.one_mul] at this
        rw [hcut _ (by omega), Nat.add_assoc]
end
/-- the inner slices lie in blocks that came between w and w' -/
def Within {α : Type} (w w' : World) (l : List (α × Value)) : Prop := ∀ q, q ∈ l → ∀ b, q.2.ownBlock = some b → w.heap.size ≤ b ∧ b < w'.heap.size
theorem Within.mono {α : Type} {w w' w0 w1 : World} {l : List (α × Value)} (h : Within w w' l) (h0 : w0.heap.size ≤ w.heap.size) (h1 : w'.heap.size ≤ w1.heap.size) : Within w0 w1 l :=
  fun q hq b hb => let ⟨a, c⟩ := h q hq b hb; ⟨Nat.le_trans h0 a, Nat.lt_of_lt_of_le c h1⟩
theorem Within.append {α : Type} {w w' : World} {l l' : List (α × Value)} (h : Within w w' l) (h' : Within w w' l') : Within w w' (l ++ l') :=
  fun q hq => by rw [List.mem_append] at hq; exact hq.elim (h q) (h' q)
theorem Sep.append {α : Type} {w0 w w' w'' : World} {l l' : List (α × Value)} (h : Sep l) (h' : Sep l') (hw : Within w0 w l) (hw' : Within w' w'' l') (hs : w.heap.size ≤ w'.heap.size) : Sep (l ++ l') := by
  unfold Sep at *
  rw [List.pairwise_append]
  exact ⟨h, h', fun a ha b hb g hg hg' => by have := (hw a ha g hg).2; have := (hw' b hb g hg').1; omega⟩
theorem Clone_intN_c {B : Nat} {u : Value} {xs : List Int} (w : World) (h : Ints B w u xs) : Calls Tryz.prog 113 #[u] w (RetP (fun v w' => Ints w.heap.size w' v xs ∧ ∀ b, v.ownBlock = some b → w.heap.size ≤ b ∧ b < w'.heap.size) w) := by
  have hlim := h.len
  obtain ⟨A, c, rfl, hA⟩ := h
  have own : ∀ (v' : Value) (w' : World), w'.ownsRow w.heap.size 3 1 v' xs.length (xs.map (Value.int .i64)) → Ints w.heap.size w' v' xs := fun v' w' ho =>
    SlOf.of_own ho (Nat.le_refl _) hlim fun k x cs hx hj => by
      have h0 := hj 0 (by omega)
      obtain ⟨b, o, cs', -, -, -, he⟩ := hA.2.2.2 k x hx
      refine ⟨?_, he.2⟩
      rw [Nat.add_zero, Nat.mul_one] at h0
      rw [Nat.mul_one, h0, List.getElem?_map, hx]; rfl
  have new : ∀ (v' : Value) (w' : World) (n : Nat) (l : List Value), w'.ownsRow w.heap.size 3 1 v' n l → ∀ b, v'.ownBlock = some b → w.heap.size ≤ b ∧ b < w'.heap.size := fun v' w' n l ho b hb => by
    rcases ho.2 with ⟨rfl, -⟩ | ⟨g, cap, cur, rfl, hg, hh, -⟩
    · cases hb
    · simp only [Value.ownBlock, Option.some.injEq] at hb
      subst hb
      exact ⟨hg, Blk.lt (cs := cur) (t := 3) hh⟩
  cases A with
  | none =>
    have hx : xs = [] := by
      cases xs with
      | nil => rfl
      | cons y ys => obtain ⟨b, o, cs, e, -⟩ := hA.2.2.2 0 y rfl; cases e
    subst hx
    refine (Tryz.slices_Clone_int_nil _ _ w).mono ?_
    rintro e w' ⟨rfl, rfl⟩
    exact ⟨_, rfl, ⟨SlOf.nil _ _ _ _ _, fun b hb => by cases hb⟩, Ext.refl _⟩
  | some a =>
    by_cases hx : xs = []
    · subst hx
      refine (Tryz.slices_Clone_int_zero a c w).mono ?_
      rintro e w' ⟨v', rfl, ho, -, hb⟩
      exact ⟨_, rfl, ⟨own v' w' ho, new _ _ _ _ ho⟩, hb⟩
    · have hlen : 0 < xs.length := List.length_pos_iff.2 hx
      obtain ⟨b, o, cs, e, -, hb, -⟩ := hA.2.2.2 0 xs[0] (by simp [hlen])
      simp only [Option.some.injEq] at e
      subst e
      unfold lim at hlim
      refine (Tryz.slices_Clone_int b o xs.length c xs w (Nat.le_refl _) (by omega) fun j hj => ?_).mono ?_
      · obtain ⟨b2, o2, cs2, e2, -, hb2, he2⟩ := hA.2.2.2 j xs[j] (by simp [hj])
        simp only [Option.some.injEq, Addr.mk.injEq, and_true] at e2
        obtain ⟨rfl, rfl⟩ := e2
        rw [hb2.cell]
        have := he2.1
        rw [Nat.mul_one] at this
        rw [this]; simp [List.getD_eq_getElem?_getD, hj]
      · rintro e w' ⟨v', rfl, ho, -, hb'⟩
        rw [List.take_length] at ho
        exact ⟨_, rfl, ⟨own v' w' ho, new _ _ _ _ ho⟩, hb'⟩
theorem eitU_of {B : Nat} {w : World} {x : It} {u : Value} (h1 : x.path.size < lim) (h2 : Ints B w u x.ids) : EItU B w #[.string x.path, .bool x.dir, u] 0 (x, u) := ⟨rfl, h1, rfl, rfl, h2⟩
section
variable {B : Nat} {l : List It} {adr : Key → Nat} {kv : Key → Value}
set_option maxRecDepth 4000 in
set_option maxHeartbeats 2000000 in
theorem listInU_c (hg : Grow l) (hl : l.length ≤ 12) : ∀ (d : Nat) (w : World) (k : Key), TreeAt B w l adr kv → isKey l k → 4 ≤ k.length + d → d ≤ 4 →
    Calls Tryz.prog 89 #[.pointer (some ⟨adr k, 0, none⟩), .string (mkB (startOf k))] w (RetP (fun v w' => ∃ lu, lu.map Prod.fst = flat l d k ∧ OwnS w.heap.size 32 3 (EItU w.heap.size) w' v lu ∧ Sep lu ∧ Within w w' lu) w) := by
  intro d
  induction d with
  | zero =>
    intro w k h hk hd _
    obtain ⟨A, c, hkv, -⟩ := h.kids hk
    obtain ⟨dir, ids, ⟨-, -, u, hb, -⟩, -⟩ := h.node hk
    have hn : (namesOf l k).length = 0 := by unfold namesOf; rw [kids_deep hg (by simpa using hd)]; rfl
    rw [hkv, hn] at hb
    have cc3 := hb.cell 3
    simp at cc3
    clear hkv hb h hk hn hg
    go_enter Tryz.func89, Tryz.ntmps89
    go_wp2
    refine wp_loop_rounds 1 ?_; rw [rounds_succ]
    go_wp2
    go_ret
    exact ⟨_, rfl, ⟨[], rfl, OwnS.nil _ _ _ _ _, List.Pairwise.nil, fun q hq => by simp at hq⟩, Ext.refl w⟩
  | succ d ih =>
    intro w k h hk hd hd4
    have H := Lib.hid h
    have HG := Lib.hid hg
    have Hk := Lib.hid hk
    have IH := Lib.hid ih
    obtain ⟨A, c, hkv, hP⟩ := h.kids hk
    obtain ⟨dir, ids, ⟨hB, hO, u, hb, hu⟩, -⟩ := h.node hk
    rw [hkv] at hb
    have c3 := hb.at_ (i := 3) (u := .slice A (namesOf l k).length c) rfl
    have cc3 := c3 w (Ext.refl w)
    have HP := Lib.hid hP
    have hnl := namesOf_le l k
    have hlen : (namesOf l k).length = (kidsOf l k).length := by simp [namesOf]
    have Hlen := Lib.hid hlen
    clear hkv hb hO hu hP h hg hk ih hlen
    generalize hn : (namesOf l k).length = n at *
    have Hn := Lib.hid hn; clear hn
    go_enter Tryz.func89, Tryz.ntmps89
    go_wp2
    go_loopw [5, 14] (fun v i wr => ∃ (j : Nat) (lu : List (It × Value)), j ≤ n ∧ i = .int .i64 j ∧ Ext w wr ∧ OwnS w.heap.size 32 3 (EItU w.heap.size) wr v lu ∧ Hid (lu.map Prod.fst = ((kidsOf l k).take j).flatMap fun x => x :: flat l d (key x)) ∧ Hid (Sep lu ∧ Within w wr lu)) (fun _ i _ => n - (intOf i).toNat)
    case atStart => exact ⟨0, [], by omega, rfl, Ext.refl w, OwnS.nil _ _ _ _ _, Lib.hid rfl, Lib.hid ⟨List.Pairwise.nil, fun q hq => by simp at hq⟩⟩
    case round =>
      obtain ⟨j, L, hj, rfl, he, hO, hLm, hSW⟩ := hrel
      by_cases hlt : j < n
      · obtain ⟨x, hx⟩ := get_of_lt (l := kidsOf l k) (k := j) (by rw [← Hlen.out]; exact hlt)
        have hnm : (namesOf l k)[j]? = some (nameOf (key x)) := by unfold namesOf; rw [List.getElem?_map, hx]; rfl
        obtain ⟨ab, ao, pb, hpb, hAe, h1, h2⟩ := HP.out j _ hnm
        subst hAe
        have hxk : x ∈ kidsOf l k := List.mem_of_getElem? hx
        have hxl := (mem_kids.1 hxk).1
        have hpe : pb = adr (key x) := by
          rw [List.getElem?_map, hx] at hpb; exact (Option.some.inj hpb).symm
        subst hpe
        obtain ⟨-, -, ux, hbx, hux⟩ := H.out.nodes x hxl
        obtain ⟨Ax, cx, rfl, hAx⟩ := hux
        have f1 := fun W (e : Ext wr W) => h1 W (he.trans e)
        have g0 := fun W (e : Ext wr W) => hbx.at_ (i := 0) (u := .string (nameOf (key x))) rfl W (he.trans e)
        have g1 := fun W (e : Ext wr W) => hbx.at_ (i := 1) (u := .bool x.dir) rfl W (he.trans e)
        have g2 := fun W (e : Ext wr W) => hbx.at_ (i := 2) (u := .slice Ax x.ids.length cx) rfl W (he.trans e)
        have HI : Hid (∀ W, Ext wr W → Ints B W (.slice Ax x.ids.length cx) x.ids) := Lib.hid fun W e => Ints.ext ⟨_, _, rfl, hAx⟩ (he.trans e)
        have hcat := kid_path hxk
        have hcat2 := kid_start x
        have Hft := Lib.hid (flat_take (d := d) hx)
        have Hx := Lib.hid hx
        have HO := Lib.hid hO
        have Hkx : Hid (isKey l (key x) ∧ 4 ≤ (key x).length + d) := Lib.hid ⟨.inr ⟨x, hxl, rfl⟩, by rw [name_kid hxk]; simp; omega⟩
        have hp23 := pathOk_len (itemOk_path (HG.out.fits hxl).1)
        have hs1 : (mkB (startOf k)).size + (nameOf (key x)).size = x.path.size := by rw [← hcat]; simp
        have hs2 : ¬ 9223372036854775807 < (mkB (startOf k)).size + (nameOf (key x)).size := by omega
        have hs3 : ¬ 9223372036854775807 < x.path.size + 1 := by omega
        have hps : x.path.size < lim := by unfold lim; omega
        have Hps := Lib.hid hps
        have hlen1 := flat_take_len hl hd4 k j
        have hlen2 := flat_take_len hl hd4 k (j + 1)
        rw [Hft.out] at hlen2
        simp only [List.length_append, List.length_singleton] at hlen2
        have Hl1 := Lib.hid hlen1; have Hl2 := Lib.hid hlen2
        clear h1 h2 hbx hAx hx hnm hpb hxk hxl hO hs1 hps hlen1 hlen2
        have hLl : L.length = (((kidsOf l k).take j).flatMap fun x => x :: flat l d (key x)).length := by rw [← hLm.out, List.length_map]
        rw [← hLl] at Hl1 Hl2
        clear hLl
        have q1 := f1 wr (Ext.refl _)
        have q0 := g0 wr (Ext.refl _)
        go_wp2
        refine wp_region_hold (fun W => W.cell? ⟨adr (key x), 1, none⟩ = some (.bool x.dir) ∧ W.cell? ⟨adr (key x), 2, none⟩ = some (.slice Ax x.ids.length cx)) 13 [(0, true), (1, true), (2, true), (3, true), (4, true), (5, true), (6, true), (7, true), (8, true), (9, true), (10, false), (11, true), (12, false)] (by kernel_rfl) (by kernel_rfl) ?_ ?_
        · exact ⟨g1 _ (Ext.refl _).drew, g2 _ (Ext.refl _).drew⟩
        (repeat (first | (apply hw_read (by rfl) (by rfl); (· (intro W hW; (try dsimp only at hW); go_simp; (first | done | rfl | (rw [if_pos] <;> first | omega | rfl)))); (try simp only [Act.put, List.setIfInBounds_toArray, List.set_cons_zero, List.set_cons_succ])) | (refine hw_skip (by rfl) (by rfl) ?_; (try simp only [Act.put, List.setIfInBounds_toArray, List.set_cons_zero, List.set_cons_succ]))))
        refine hw_step (by rfl) ?_
        go_wp2_with (go_at_call 113; refine (Clone_intN_c (xs := x.ids) _ (HI.out _ (Ext.refl _).drew)).mono ?_; rintro e w4 ⟨u9, rfl, ⟨⟨A9, c9, rfl, hu9⟩, hnw⟩, he9⟩)
        have he5 := (Ext.refl wr).drew.trans he9
        have he6 := he.trans he5
        have he6' := he6
        have Hu9 : Hid (Ints w.heap.size w4 (.slice A9 x.ids.length c9) x.ids) := Lib.hid (Ints.keep ⟨_, _, rfl, hu9⟩ (he.trans (Ext.refl _).drew).size (fun _ _ _ => rfl))
        have HO6 := Lib.hid (HO.out.ext (EItU_ok _) he5)
        have hsz5 : wr.heap.size ≤ wr.drew.heap.size := (Ext.refl wr).drew.size
        have HSW1 : Hid (Sep (L ++ [(x, .slice A9 x.ids.length c9)]) ∧ Within w w4 (L ++ [(x, .slice A9 x.ids.length c9)])) := Lib.hid (by
          have hW1 : Within wr.drew w4 [(x, Value.slice A9 x.ids.length c9)] := fun q hq b hb => by rw [List.mem_singleton] at hq; subst hq; exact hnw b hb
          exact ⟨hSW.out.1.append (List.pairwise_singleton _ _) hSW.out.2 hW1 hsz5, (hSW.out.2.mono (Nat.le_refl _) he5.size).append (hW1.mono (Nat.le_trans he.size hsz5) (Nat.le_refl _))⟩)
        clear he9 hu9 hnw hsz5 hSW
        refine ⟨⟨g1 _ he5, g2 _ he5⟩, ?_⟩
        (repeat (first | (apply hw_read (by rfl) (by rfl); (· (intro W hW; (try dsimp only at hW); go_simp; (first | done | rfl | (rw [if_pos] <;> first | omega | rfl)))); (try simp only [Act.put, List.setIfInBounds_toArray, List.set_cons_zero, List.set_cons_succ])) | (refine hw_skip (by rfl) (by rfl) ?_; (try simp only [Act.put, List.setIfInBounds_toArray, List.set_cons_zero, List.set_cons_succ]))))
        refine hw_step (by rfl) ?_
        go_wp2
        refine ⟨⟨g1 _ (he5.alloc _), g2 _ (he5.alloc _)⟩, ?_⟩
        (refine hw_nil ?_; simp only [List.drop_succ_cons, List.drop_zero])
        go_wp2_with (at_builtin; go_must (refine wp_ap1G (B := w.heap.size) (by rfl) _ _ (by rfl) el_It (EItU_ok _) he6.size _ L [(x, .slice A9 x.ids.length c9)] (by rfl) HO6.out 1 1 rfl #[.string x.path, .bool x.dir, .slice A9 x.ids.length c9] _ (by rfl) (by first | rfl | simp) rfl (one3 rfl) (one_E (eitU_of Hps.out Hu9.out)) ?_ ?_))
        · have := Hl1.out; simp; unfold lim; omega
        · intro v' w' hO' hgr _
          have he' : Ext w w' := OwnS.grown_ext (HO6.out.ext (EItU_ok _) ((Ext.refl _).alloc _)) (he6.alloc _) hgr
          have hz' : Hid (w4.heap.size ≤ w'.heap.size) := Lib.hid (by have := hgr.size; simp at this; omega)
          have HO' := Lib.hid hO'
          clear hgr
          clear hO' f1 g0 g1 g2 q0 q1 he5 he6
          go_wp2
          refine NoPanic.normal ?_
          dsimp only [Exit.then]
          obtain ⟨A', c', rfl⟩ := HO'.out.form
          have HO1 := HO'.out
          rw [show (L ++ [(x, Value.slice A9 x.ids.length c9)]).length = L.length + 1 by simp] at HO1 ⊢
          have HO' := Lib.hid HO1
          clear HO1
          go_wp2_with fail
          refine (IH.out _ (key x) (H.out.ext he') Hkx.out.1 Hkx.out.2 (by omega)).mono ?_
          rintro e w5 ⟨v5, rfl, ⟨lu5, hm5, hO5, hS5, hW5⟩, he7⟩
          have hll5 : lu5.length = (flat l d (key x)).length := by rw [← hm5, List.length_map]
          have hfl := flat_len hl d (key x)
          have hfb := bdF_le (d := d) (by omega)
          have HS5 : Hid (ItsU w.heap.size w5 v5 lu5) := Lib.hid (ItsU.keep (hO5.sl (EItU_ok _) (Nat.le_refl _) (by unfold lim; omega)) (Ext.size he') (fun _ _ _ => rfl))
          have HO7 := Lib.hid (HO'.out.ext (EItU_ok _) he7)
          have HM5 := Lib.hid hm5; have HL5 := Lib.hid hll5; have HQ5 := Lib.hid (And.intro hS5 hW5)
          have he8 := he'.trans he7
          have hz5 : Hid (w'.heap.size ≤ w5.heap.size) := Lib.hid he7.size
          have he4 : Ext w w4 := he6'
          clear hO5 he' he7 hfl hfb hm5 hll5 hS5 hW5
          go_wp2_with (at_builtin; go_must (refine wp_apSG (B := w.heap.size) (by rfl) _ _ (by rfl) el_It (EItU_ok _) he8.size _ v5 (L ++ [(x, .slice A9 x.ids.length c9)]) lu5 (by rfl) HO7.out (by rfl) HS5.out ?_ ?_))
          · have := Hl2.out; have := HL5.out; simp; unfold lim; omega
          · intro v'' w'' hO'' hgr _
            have he'' : Ext w w'' := OwnS.grown_ext HO7.out he8 hgr
            have hz'' := hgr.size
            have HO'' := Lib.hid hO''
            have HSW2 : Hid (Sep (L ++ [(x, .slice A9 x.ids.length c9)] ++ lu5) ∧ Within w w'' (L ++ [(x, .slice A9 x.ids.length c9)] ++ lu5)) := Lib.hid
              ⟨HSW1.out.1.append HQ5.out.1 HSW1.out.2 HQ5.out.2 hz'.out, (HSW1.out.2.mono (Nat.le_refl _) (Nat.le_trans hz'.out (Nat.le_trans hz5.out hz''))).append (HQ5.out.2.mono (Nat.le_trans he4.size hz'.out) hz'')⟩
            clear hO'' he8 hgr hz''
            go_wp2
            go_roundw
            case rel => exact ⟨j + 1, _, by omega, by go_num, he'', HO''.out, Lib.hid (by rw [Hft.out]; simp [hLm.out, HM5.out]), Lib.hid (by simpa using HSW2.out)⟩
            case measure => simp [intOf]; omega
      · have hjs : j = n := by omega
        subst hjs
        have e : (kidsOf l k).take j = kidsOf l k := List.take_of_length_le (by rw [Hlen.out]; omega)
        rw [e] at hLm
        have HO := Lib.hid hO
        clear hO e
        obtain ⟨A', c', rfl⟩ := HO.out.form
        go_wp2
        go_ret
        exact ⟨_, rfl, ⟨L, by rw [hLm.out, flat], HO.out, hSW.out.1, hSW.out.2⟩, he⟩
set_option maxHeartbeats 1000000 in
theorem listU_c {w : World} (h : TreeAt B w l adr kv) (hg : Grow l) (hl : l.length ≤ 12) : Calls Tryz.prog 46 #[.pointer (some ⟨adr [], 0, none⟩)] w (RetP (fun v w' => ∃ lu, lu.map Prod.fst = l ∧ ItsU w.heap.size w' v lu ∧ Sep lu ∧ Within w w' lu) w) := by
  have hc := listInU_c hg hl 4 w [] h (.inl rfl) (by simp) (Nat.le_refl _)
  rw [flat_list l hg] at hc
  have HC := Lib.hid (show Calls Tryz.prog 89 #[.pointer (some ⟨adr [], 0, none⟩), .string ⟨#[]⟩] w _ from hc)
  have Hl : Hid (l.length ≤ lim) := Lib.hid (by unfold lim; omega)
  clear hc h hg hl
  go_enter Tryz.func46, Tryz.ntmps46
  go_wp2_with (go_at_call 89; refine HC.out.mono ?_; rintro e w1 ⟨v, rfl, ⟨lu, hm, hO, hS, hW⟩, he⟩)
  go_ret
  exact ⟨_, rfl, ⟨lu, hm, hO.sl (EItU_ok _) (Nat.le_refl _) (by rw [← List.length_map (f := Prod.fst), hm]; exact Hl.out), hS, hW⟩, he⟩
end
end Go.Sf

/-! The changes between two lists of items, each one's ids told. -/
namespace Go.Sf
open Go Go.RowKit Go.Proofs
def chgU : List (It × Value) → List (It × Value) → List (Ch × Value)
  | [], [] => []
  | a :: az, [] => (⟨2, a.1⟩, a.2) :: chgU az []
  | [], b :: bz => (⟨1, b.1⟩, b.2) :: chgU [] bz
  | a :: az, b :: bz =>
    if blt a.1.path b.1.path = true then (⟨2, a.1⟩, a.2) :: chgU az (b :: bz)
    else if blt b.1.path a.1.path = true then (⟨1, b.1⟩, b.2) :: chgU (a :: az) bz
    else if a.1.dir = b.1.dir then (if eqb a.1 b.1 = true then chgU az bz else (⟨3, b.1⟩, b.2) :: chgU az bz)
    else (⟨2, a.1⟩, a.2) :: (⟨1, b.1⟩, b.2) :: chgU az bz
  termination_by a b => a.length + b.length
theorem chgU_nil : chgU [] [] = [] := by unfold chgU; rfl
theorem chgU_left (a : It × Value) (az : List (It × Value)) : chgU (a :: az) [] = (⟨2, a.1⟩, a.2) :: chgU az [] := by rw [chgU]
theorem chgU_right (b : It × Value) (bz : List (It × Value)) : chgU [] (b :: bz) = (⟨1, b.1⟩, b.2) :: chgU [] bz := by rw [chgU]
theorem chgU_lt {a b : It × Value} (az bz : List (It × Value)) (h : blt a.1.path b.1.path = true) : chgU (a :: az) (b :: bz) = (⟨2, a.1⟩, a.2) :: chgU az (b :: bz) := by
  rw [chgU, if_pos h]
theorem chgU_gt {a b : It × Value} (az bz : List (It × Value)) (h : blt a.1.path b.1.path = false) (h2 : blt b.1.path a.1.path = true) : chgU (a :: az) (b :: bz) = (⟨1, b.1⟩, b.2) :: chgU (a :: az) bz := by
  rw [chgU, if_neg (by simp [h]), if_pos h2]
theorem chgU_two {a b : It × Value} (az bz : List (It × Value)) (h : blt a.1.path b.1.path = false) (h2 : blt b.1.path a.1.path = false) (h3 : ¬ a.1.dir = b.1.dir) : chgU (a :: az) (b :: bz) = (⟨2, a.1⟩, a.2) :: (⟨1, b.1⟩, b.2) :: chgU az bz := by
  rw [chgU, if_neg (by simp [h]), if_neg (by simp [h2]), if_neg h3]
theorem chgU_same {a b : It × Value} (az bz : List (It × Value)) (h : blt a.1.path b.1.path = false) (h2 : blt b.1.path a.1.path = false) (h3 : a.1.dir = b.1.dir) (h4 : eqb a.1 b.1 = true) : chgU (a :: az) (b :: bz) = chgU az bz := by
  rw [chgU, if_neg (by simp [h]), if_neg (by simp [h2]), if_pos h3, if_pos h4]
theorem chgU_other {a b : It × Value} (az bz : List (It × Value)) (h : blt a.1.path b.1.path = false) (h2 : blt b.1.path a.1.path = false) (h3 : a.1.dir = b.1.dir) (h4 : eqb a.1 b.1 = false) : chgU (a :: az) (b :: bz) = (⟨3, b.1⟩, b.2) :: chgU az bz := by
  rw [chgU, if_neg (by simp [h]), if_neg (by simp [h2]), if_pos h3, if_neg (by simp [h4])]
theorem chgU_fst : ∀ (n : Nat) (a b : List (It × Value)), a.length + b.length ≤ n → (chgU a b).map Prod.fst = chg (a.map Prod.fst) (b.map Prod.fst) := by
  intro n
  induction n with
  | zero =>
    intro a b h
    rw [List.length_eq_zero_iff.1 (by omega : a.length = 0), List.length_eq_zero_iff.1 (by omega : b.length = 0), chgU_nil]
    simp [chg_nil]
  | succ n ih =>
    intro l1 l2 h
    cases l1 with
    | nil =>
      cases l2 with
      | nil => rw [chgU_nil]; simp [chg_nil]
      | cons b bz =>
        have := ih [] bz (by simp at h ⊢; omega)
        rw [chgU_right, List.map_cons, this, List.map_nil, List.map_cons, chg_right]
    | cons a az =>
      cases l2 with
      | nil =>
        have := ih az [] (by simp at h ⊢; omega)
        rw [chgU_left, List.map_cons, this, List.map_nil, List.map_cons, chg_left]
      | cons b bz =>
        simp only [List.length_cons] at h
        have h1 := ih az (b :: bz) (by simp; omega)
        have h2 := ih (a :: az) bz (by simp; omega)
        have h3 := ih az bz (by omega)
        simp only [List.map_cons] at h1 h2 ⊢
        rw [chgU, chg]
        repeat' split
        all_goals simp only [List.map_cons, h1, h2, h3]
/-- where a change's ids lie: in the first list's, in the second's -/
theorem chgU_mem : ∀ (n : Nat) (a b : List (It × Value)), a.length + b.length ≤ n → ∀ q, q ∈ chgU a b → (∃ p, p ∈ a ∧ p.2 = q.2) ∨ (∃ p, p ∈ b ∧ p.2 = q.2) := by
  intro n
  induction n with
  | zero =>
    intro a b h q hq
    rw [List.length_eq_zero_iff.1 (by omega : a.length = 0), List.length_eq_zero_iff.1 (by omega : b.length = 0), chgU_nil] at hq
    simp at hq
  | succ n ih =>
    intro l1 l2 h q hq
    have tl : ∀ {l1 l2 r1 r2 : List (It × Value)}, (∀ p, p ∈ r1 → p ∈ l1) → (∀ p, p ∈ r2 → p ∈ l2) → ((∃ p, p ∈ r1 ∧ p.2 = q.2) ∨ (∃ p, p ∈ r2 ∧ p.2 = q.2)) → (∃ p, p ∈ l1 ∧ p.2 = q.2) ∨ (∃ p, p ∈ l2 ∧ p.2 = q.2) := fun h1 h2 h => by
      rcases h with ⟨p, hp, e⟩ | ⟨p, hp, e⟩
      · exact .inl ⟨p, h1 p hp, e⟩
      · exact .inr ⟨p, h2 p hp, e⟩
    cases l1 with
    | nil =>
      cases l2 with
      | nil => rw [chgU_nil] at hq; simp at hq
      | cons b bz =>
        rw [chgU_right] at hq
        rcases List.mem_cons.1 hq with rfl | hq
        · exact .inr ⟨b, by simp, rfl⟩
        · exact tl (fun p h => h) (fun p h => by simp [h]) (ih [] bz (by simp at h ⊢; omega) q hq)
    | cons a az =>
      cases l2 with
      | nil =>
        rw [chgU_left] at hq
        rcases List.mem_cons.1 hq with rfl | hq
        · exact .inl ⟨a, by simp, rfl⟩
        · exact tl (fun p h => by simp [h]) (fun p h => h) (ih az [] (by simp at h ⊢; omega) q hq)
      | cons b bz =>
        simp only [List.length_cons] at h
        have h1 := fun hq => tl (l1 := a :: az) (l2 := b :: bz) (fun p h => by simp [h]) (fun p h => h) (ih az (b :: bz) (by simp; omega) q hq)
        have h2 := fun hq => tl (l1 := a :: az) (l2 := b :: bz) (fun p h => h) (fun p h => by simp [h]) (ih (a :: az) bz (by simp; omega) q hq)
        have h3 := fun hq => tl (l1 := a :: az) (l2 := b :: bz) (fun p h => by simp [h]) (fun p h => by simp [h]) (ih az bz (by omega) q hq)
        rw [chgU] at hq
        repeat' split at hq
        · rcases List.mem_cons.1 hq with rfl | hq
          · exact .inl ⟨a, by simp, rfl⟩
          · exact h1 hq
        · rcases List.mem_cons.1 hq with rfl | hq
          · exact .inr ⟨b, by simp, rfl⟩
          · exact h2 hq
        · exact h3 hq
        · rcases List.mem_cons.1 hq with rfl | hq
          · exact .inr ⟨b, by simp, rfl⟩
          · exact h3 hq
        · rcases List.mem_cons.1 hq with rfl | hq
          · exact .inl ⟨a, by simp, rfl⟩
          · rcases List.mem_cons.1 hq with rfl | hq
            · exact .inr ⟨b, by simp, rfl⟩
            · exact h3 hq
/-- changes of two lists whose ids lie all apart lie apart -/
theorem chgU_sep : ∀ (n : Nat) (a b : List (It × Value)), a.length + b.length ≤ n → Sep a → Sep b → (∀ p, p ∈ a → ∀ q, q ∈ b → ∀ g, p.2.ownBlock = some g → q.2.ownBlock ≠ some g) → Sep (chgU a b) := by
  intro n
  induction n with
  | zero =>
    intro a b h _ _ _
    rw [List.length_eq_zero_iff.1 (by omega : a.length = 0), List.length_eq_zero_iff.1 (by omega : b.length = 0), chgU_nil]
    exact List.Pairwise.nil
  | succ n ih =>
    intro l1 l2 h s1 s2 s3
    have con : ∀ {u : Value} {c : Ch} {r1 r2 : List (It × Value)}, Sep (chgU r1 r2) → (∀ p, p ∈ r1 → ∀ g, u.ownBlock = some g → p.2.ownBlock ≠ some g) → (∀ p, p ∈ r2 → ∀ g, u.ownBlock = some g → p.2.ownBlock ≠ some g) → Sep ((c, u) :: chgU r1 r2) := fun hs k1 k2 => by
      refine List.Pairwise.cons (fun q hq g hg => ?_) hs
      rcases chgU_mem _ _ _ (Nat.le_refl _) q hq with ⟨p, hp, e⟩ | ⟨p, hp, e⟩
      · rw [← e]; exact k1 p hp g hg
      · rw [← e]; exact k2 p hp g hg
    cases l1 with
    | nil =>
      cases l2 with
      | nil => rw [chgU_nil]; exact List.Pairwise.nil
      | cons b bz =>
        rw [chgU_right]
        have s2' := List.pairwise_cons.1 s2
        exact con (ih [] bz (by simp at h ⊢; omega) s1 s2'.2 (fun p hp => by simp at hp)) (fun p hp => by simp at hp) (fun p hp g hg => s2'.1 p hp g hg)
    | cons a az =>
      have s1' := List.pairwise_cons.1 s1
      cases l2 with
      | nil =>
        rw [chgU_left]
        exact con (ih az [] (by simp at h ⊢; omega) s1'.2 s2 (fun p hp q hq => by simp at hq)) (fun p hp g hg => s1'.1 p hp g hg) (fun p hp => by simp at hp)
      | cons b bz =>
        have s2' := List.pairwise_cons.1 s2
        simp only [List.length_cons] at h
        have h1 := ih az (b :: bz) (by simp; omega) s1'.2 s2 (fun p hp q hq => s3 p (by simp [hp]) q hq)
        have h2 := ih (a :: az) bz (by simp; omega) s1 s2'.2 (fun p hp q hq => s3 p hp q (by simp [hq]))
        have h3 := ih az bz (by omega) s1'.2 s2'.2 (fun p hp q hq => s3 p (by simp [hp]) q (by simp [hq]))
        have ka : ∀ p, p ∈ az → ∀ g, a.2.ownBlock = some g → p.2.ownBlock ≠ some g := fun p hp g hg => s1'.1 p hp g hg
        have kb : ∀ p, p ∈ bz → ∀ g, b.2.ownBlock = some g → p.2.ownBlock ≠ some g := fun p hp g hg => s2'.1 p hp g hg
        have kab : ∀ p, p ∈ b :: bz → ∀ g, a.2.ownBlock = some g → p.2.ownBlock ≠ some g := fun p hp g hg => s3 a (by simp) p hp g hg
        have kba : ∀ p, p ∈ a :: az → ∀ g, b.2.ownBlock = some g → p.2.ownBlock ≠ some g := fun p hp g hg hp2 => s3 p hp b (by simp) g hp2 hg
        rw [chgU]
        repeat' split
        · exact con h1 ka kab
        · exact con h2 kba kb
        · exact h3
        · exact con h3 (fun p hp => kba p (by simp [hp])) kb
        · refine List.Pairwise.cons (fun q hq g hg => ?_) (con h3 (fun p hp => kba p (by simp [hp])) kb)
          rcases List.mem_cons.1 hq with rfl | hq
          · exact kab b (by simp) g hg
          · rcases chgU_mem _ _ _ (Nat.le_refl _) q hq with ⟨p, hp, e⟩ | ⟨p, hp, e⟩
            · rw [← e]; exact ka p hp g hg
            · rw [← e]; exact kab p (by simp [hp]) g hg
def ECgU (B : Nat) (w : World) (cs : Array Value) (p : Nat) (c : Ch × Value) : Prop :=
  (c.1.kind = 1 ∨ c.1.kind = 2 ∨ c.1.kind = 3) ∧ c.1.item.path.size < lim ∧ cs[p]? = some (chgV c.1.kind c.1.item c.2) ∧ Ints B w c.2 c.1.item.ids
theorem ECgU_ok (B : Nat) : ElOk 91 1 (ECgU B) := ⟨fun _ _ _ _ _ hk ⟨h1, h2, h3, h4⟩ => ⟨h1, h2, h3, h4.keepT hk (by decide)⟩, fun _ _ _ p p' _ hj ⟨h1, h2, h3, h4⟩ => ⟨h1, h2, by have := hj 0 (by omega); simp only [Nat.add_zero] at this; rw [this]; exact h3, h4⟩, fun _ _ _ c ⟨_, _, h3, _⟩ j hj => ⟨chgV c.1.kind c.1.item c.2, by
  have : j = 0 := by omega
  subst this; exact h3, rfl⟩⟩
theorem ecgU_of {B : Nat} {w : World} {x : It} {u : Value} {k : Int} (hk : k = 1 ∨ k = 2 ∨ k = 3) (h1 : x.path.size < lim) (h2 : Ints B w u x.ids) : ECgU B w #[chgV k x u] 0 (⟨k, x⟩, u) := ⟨hk, h1, rfl, h2⟩
theorem ItsU.head {B : Nat} {w : World} {A : Option Addr} {c : Nat} {x : It} {u : Value} {l : List (It × Value)} (h : SlIn B 32 3 (EItU B) w A c ((x, u) :: l)) :
    ∃ b o A2 c2, u = .slice A2 x.ids.length c2 ∧ A = some ⟨b, o, none⟩ ∧ l.length + 1 ≤ c ∧ c ≤ 9223372036854775807 ∧ x.path.size < lim ∧ Ints B w (.slice A2 x.ids.length c2) x.ids ∧ x.ids.length ≤ lim ∧ (∀ W, Ext w W → W.cell? ⟨b, o, none⟩ = some (.string x.path)) ∧ (∀ W, Ext w W → W.cell? ⟨b, o + 1, none⟩ = some (.bool x.dir)) ∧ (∀ W, Ext w W → W.cell? ⟨b, o + 2, none⟩ = some (.slice A2 x.ids.length c2)) := by
  obtain ⟨b, o, cs, rfl, -, hb, h0, h1, h2, h3, h4⟩ := h.2.2.2 0 (x, u) rfl
  simp only [Nat.zero_mul, Nat.add_zero] at h0 h1 h2 h3 h4
  have hl := h4.len
  obtain ⟨A2, c2, rfl, hu⟩ := h4
  exact ⟨b, o, A2, c2, rfl, rfl, by simpa using h.1, by have := h.2.1.1; unfold maxLen at this; omega, h1, ⟨_, _, rfl, hu⟩, hl, hb.at_ h0, hb.at_ h2, hb.at_ h3⟩
/-- what the loop keeps: la and lb are still to come -/
def CbRelU (B : Nat) (l1 l2 : List (It × Value)) (w : World) (v1 v2 v : Value) (wr : World) : Prop :=
  ∃ la lb out A1 c1 A2 c2, v1 = .slice A1 la.length c1 ∧ v2 = .slice A2 lb.length c2 ∧ Hid (SlIn B 32 3 (EItU B) w A1 c1 la) ∧ Hid (SlIn B 32 3 (EItU B) w A2 c2 lb) ∧ Ext w wr ∧
    Hid (OwnS w.heap.size 91 1 (ECgU B) wr v out) ∧ out.length + (la.length + lb.length) ≤ l1.length + l2.length ∧ Hid (out ++ chgU la lb = chgU l1 l2)
theorem SlIn.tailIfU {B : Nat} {w : World} {b o c : Nat} {x : It × Value} {l : List (It × Value)} (h : SlIn B 32 3 (EItU B) w (some ⟨b, o, none⟩) c (x :: l)) : SlIn B 32 3 (EItU B) w (if c = 1 then some ⟨b, o, none⟩ else some ⟨b, o + 3, none⟩) (c - 1) l := by
  by_cases hc : c = 1
  · rw [if_pos hc]; exact h.tail0 hc (by simp)
  · rw [if_neg hc]; exact h.tail
set_option maxRecDepth 4000 in
set_option maxHeartbeats 4000000 in
theorem changesBetweenU_c {B : Nat} {v1 v2 : Value} {l1 l2 : List (It × Value)} (w : World) (h1 : ItsU B w v1 l1) (h2 : ItsU B w v2 l2) (hlen : l1.length + l2.length ≤ 1000) :
    Calls Tryz.prog 65 #[v1, v2] w (RetP (fun v w' => OwnS w.heap.size 91 1 (ECgU B) w' v (chgU l1 l2)) w) := by
  obtain ⟨A10, c10, rfl, hA10⟩ := h1
  obtain ⟨A20, c20, rfl, hA20⟩ := h2
  have H10 := Lib.hid hA10
  have H20 := Lib.hid hA20
  clear hA10 hA20
  go_enter Tryz.func65, Tryz.ntmps65
  go_wp2
  go_loopw [0, 1, 5] (fun v1 v2 v wr => CbRelU B l1 l2 w v1 v2 v wr) (fun v1 v2 _ _ => lenOf v1 + lenOf v2)
  case atStart => exact ⟨l1, l2, [], A10, c10, A20, c20, rfl, rfl, H10, H20, Ext.refl w, Lib.hid (OwnS.nil _ _ _ _ _), by simp, Lib.hid rfl⟩
  case round =>
    obtain ⟨la, lb, out, A1, c1, A2, c2, rfl, rfl, HA, HB, he, HO, hol, hrest⟩ := hrel
    cases la with
    | nil =>
      cases lb with
      | nil =>
        simp only [List.length_nil]
        have hr : Hid (out = chgU l1 l2) := Lib.hid (by have := hrest.out; rwa [chgU_nil, List.append_nil] at this)
        clear hrest
        go_wp2
        go_ret
        exact ⟨_, rfl, by rw [← hr.out]; exact HO.out, he⟩
      | cons y lb =>
        obtain ⟨y, uy⟩ := y
        obtain ⟨b2, o2, Ay, cy, rfl, rfl, hc1y, hc2y, hpsy, huy, huly, f0, f1, f2⟩ := ItsU.head HB.out
        have HTy := Lib.hid (SlIn.tailIfU HB.out)
        have gy0 := fun W (e : Ext wr W) => f0 W (he.trans e)
        have gy1 := fun W (e : Ext wr W) => f1 W (he.trans e)
        have gy2 := fun W (e : Ext wr W) => f2 W (he.trans e)
        have HUy := Lib.hid huy
        unfold lim at huly
        have HBk := HB
        clear f0 f1 f2 huy HB
        have hr : Hid (∀ c : Ch × Value, c = (⟨1, y⟩, Value.slice Ay y.ids.length cy) → (out ++ [c]) ++ chgU [] lb = chgU l1 l2) := Lib.hid fun c hc => by subst hc; have := hrest.out; rw [chgU_right] at this; simpa using this
        simp only [List.length_nil, List.length_cons] at hol ⊢
        clear hrest
        generalize hmlb : lb.length = mlb at *
        have Hmlb := Lib.hid hmlb; clear hmlb
        have hzlb : ((mlb : Int) + 1 == 0) = false := by rw [beq_eq_false_iff_ne]; omega
        go_wp2
        (refine wp_region_hold (fun W => Ext wr W) 16 [(0, true), (1, true), (2, true), (3, true), (4, true), (5, true), (6, true), (7, true), (8, true), (9, true), (10, true), (11, true), (12, true), (13, true), (14, true), (15, true)] (by kernel_rfl) (by kernel_rfl) ?_ ?_; (· (show Ext _ _); (repeat' (first | exact Ext.refl _ | assumption | refine Ext.alloc ?_ _ | refine Ext.drew ?_ | refine Ext.drewN ?_ _ | refine Ext.trans ?_ (by assumption)))); (repeat (first | (apply hw_read (by rfl) (by rfl); (· (intro W hW; (try dsimp only at hW); go_simp; (first | done | rfl | (rw [if_pos] <;> first | omega | rfl)))); (try simp only [Act.put, List.setIfInBounds_toArray, List.set_cons_zero, List.set_cons_succ])) | (refine hw_skip (by rfl) (by rfl) ?_; (try simp only [Act.put, List.setIfInBounds_toArray, List.set_cons_zero, List.set_cons_succ])))); (refine hw_nil ?_; simp only [List.drop_succ_cons, List.drop_zero]); go_wp2; all_goals (refine NoPanic.normal ?_; (try dsimp only [Exit.then])))
        go_wp2
        (refine wp_region_hold (fun W => Ext wr W) 12 [(0, true), (1, true), (2, true), (3, true), (4, true), (5, true), (6, true), (7, true), (8, true), (9, true), (10, true), (11, true)] (by kernel_rfl) (by kernel_rfl) ?_ ?_; (· (show Ext _ _); (repeat' (first | exact Ext.refl _ | assumption | refine Ext.alloc ?_ _ | refine Ext.drew ?_ | refine Ext.drewN ?_ _ | refine Ext.trans ?_ (by assumption)))); (repeat (first | (apply hw_read (by rfl) (by rfl); (· (intro W hW; (try dsimp only at hW); go_simp; (first | done | rfl | (rw [if_pos] <;> first | omega | rfl)))); (try simp only [Act.put, List.setIfInBounds_toArray, List.set_cons_zero, List.set_cons_succ])) | (refine hw_skip (by rfl) (by rfl) ?_; (try simp only [Act.put, List.setIfInBounds_toArray, List.set_cons_zero, List.set_cons_succ])))); (refine hw_nil ?_; simp only [List.drop_succ_cons, List.drop_zero]); go_wp2; all_goals (refine NoPanic.normal ?_; (try dsimp only [Exit.then])))
        have HO2 := Lib.hid (HO.out.ext (ECgU_ok _) (Ext.refl wr).drew.drew)
        have he2 : Ext w wr.drew.drew := he.drew.drew
        clear HO
        go_wp2_with (at_builtin; go_must (refine wp_ap1 (w0 := w) (by rfl) _ _ (by rfl) el_Cg (ECgU_ok _) he2 _ out [(⟨1, y⟩, .slice Ay y.ids.length cy)] (by rfl) HO2.out 1 1 rfl #[chgV 1 y (.slice Ay y.ids.length cy)] _ (by rfl) (by first | rfl | simp) rfl one1 (one_E (ecgU_of (.inl rfl) hpsy (HUy.out.ext he2))) ?_ ?_))
        · simp; unfold lim; omega
        · intro v' w' hO' he' hk'
          have HO' := Lib.hid hO'
          clear hO' hk' he2 he gy0 gy1 gy2
          go_wp2
          exact ⟨⟨[], lb, out ++ [(⟨1, y⟩, .slice Ay y.ids.length cy)], _, _, _, _, rfl, by rw [Hmlb.out], HA, HTy, he', HO', by have := Hmlb.out; simp; omega, Lib.hid (hr.out _ rfl)⟩, by simp [lenOf]⟩
    | cons x la =>
      obtain ⟨x, ux⟩ := x
      obtain ⟨b1, o1, Ax, cx, rfl, rfl, hc1x, hc2x, hpsx, hux, hulx, f0, f1, f2⟩ := ItsU.head HA.out
      have HTx := Lib.hid (SlIn.tailIfU HA.out)
      have gx0 := fun W (e : Ext wr W) => f0 W (he.trans e)
      have gx1 := fun W (e : Ext wr W) => f1 W (he.trans e)
      have gx2 := fun W (e : Ext wr W) => f2 W (he.trans e)
      have HUx := Lib.hid hux
      unfold lim at hulx
      have HAk := HA
      clear f0 f1 f2 hux HA
      cases lb with
      | nil =>
        have hr : Hid (∀ c : Ch × Value, c = (⟨2, x⟩, Value.slice Ax x.ids.length cx) → (out ++ [c]) ++ chgU la [] = chgU l1 l2) := Lib.hid fun c hc => by subst hc; have := hrest.out; rw [chgU_left] at this; simpa using this
        simp only [List.length_nil, List.length_cons] at hol ⊢
        clear hrest
        generalize hmla : la.length = mla at *
        have Hmla := Lib.hid hmla; clear hmla
        have hzla : ((mla : Int) + 1 == 0) = false := by rw [beq_eq_false_iff_ne]; omega
        go_wp2
        (refine wp_region_hold (fun W => Ext wr W) 16 [(0, true), (1, true), (2, true), (3, true), (4, true), (5, true), (6, true), (7, true), (8, true), (9, true), (10, true), (11, true), (12, true), (13, true), (14, true), (15, true)] (by kernel_rfl) (by kernel_rfl) ?_ ?_; (· (show Ext _ _); (repeat' (first | exact Ext.refl _ | assumption | refine Ext.alloc ?_ _ | refine Ext.drew ?_ | refine Ext.drewN ?_ _ | refine Ext.trans ?_ (by assumption)))); (repeat (first | (apply hw_read (by rfl) (by rfl); (· (intro W hW; (try dsimp only at hW); go_simp; (first | done | rfl | (rw [if_pos] <;> first | omega | rfl)))); (try simp only [Act.put, List.setIfInBounds_toArray, List.set_cons_zero, List.set_cons_succ])) | (refine hw_skip (by rfl) (by rfl) ?_; (try simp only [Act.put, List.setIfInBounds_toArray, List.set_cons_zero, List.set_cons_succ])))); (refine hw_nil ?_; simp only [List.drop_succ_cons, List.drop_zero]); go_wp2; all_goals (refine NoPanic.normal ?_; (try dsimp only [Exit.then])))
        have HO2 := Lib.hid (HO.out.ext (ECgU_ok _) (Ext.refl wr).drew)
        have he2 : Ext w wr.drew := he.drew
        clear HO
        go_wp2_with (at_builtin; go_must (refine wp_ap1 (w0 := w) (by rfl) _ _ (by rfl) el_Cg (ECgU_ok _) he2 _ out [(⟨2, x⟩, .slice Ax x.ids.length cx)] (by rfl) HO2.out 1 1 rfl #[chgV 2 x (.slice Ax x.ids.length cx)] _ (by rfl) (by first | rfl | simp) rfl one1 (one_E (ecgU_of (.inr (.inl rfl)) hpsx (HUx.out.ext he2))) ?_ ?_))
        · simp; unfold lim; omega
        · intro v' w' hO' he' hk'
          have HO' := Lib.hid hO'
          clear hO' hk' he2 he gx0 gx1 gx2
          go_wp2
          exact ⟨⟨la, [], out ++ [(⟨2, x⟩, .slice Ax x.ids.length cx)], _, _, _, _, by rw [Hmla.out], rfl, HTx, HB, he', HO', by have := Hmla.out; simp; omega, Lib.hid (hr.out _ rfl)⟩, by simp [lenOf]⟩
      | cons y lb =>
        obtain ⟨y, uy⟩ := y
        obtain ⟨b2, o2, Ay, cy, rfl, rfl, hc1y, hc2y, hpsy, huy, huly, f0, f1, f2⟩ := ItsU.head HB.out
        have HTy := Lib.hid (SlIn.tailIfU HB.out)
        have gy0 := fun W (e : Ext wr W) => f0 W (he.trans e)
        have gy1 := fun W (e : Ext wr W) => f1 W (he.trans e)
        have gy2 := fun W (e : Ext wr W) => f2 W (he.trans e)
        have HUy := Lib.hid huy
        unfold lim at huly
        have HBk := HB
        clear f0 f1 f2 huy HB
        simp only [List.length_cons] at hol ⊢
        generalize hmla : la.length = mla at *
        have Hmla := Lib.hid hmla; clear hmla
        have hzla : ((mla : Int) + 1 == 0) = false := by rw [beq_eq_false_iff_ne]; omega
        generalize hmlb : lb.length = mlb at *
        have Hmlb := Lib.hid hmlb; clear hmlb
        have hzlb : ((mlb : Int) + 1 == 0) = false := by rw [beq_eq_false_iff_ne]; omega
        cases q1 : Op.bytesLess x.path.toList y.path.toList with
        | true =>
          have hr : Hid (∀ c : Ch × Value, c = (⟨2, x⟩, Value.slice Ax x.ids.length cx) → (out ++ [c]) ++ chgU la ((y, Value.slice Ay y.ids.length cy) :: lb) = chgU l1 l2) := Lib.hid fun c hc => by subst hc; have := hrest.out; rw [chgU_lt (a := (x, Value.slice Ax x.ids.length cx)) (b := (y, Value.slice Ay y.ids.length cy)) _ _ q1] at this; simpa using this
          clear hrest
          go_wp2
          (refine wp_region_hold (fun W => Ext wr W) 16 [(0, true), (1, true), (2, true), (3, true), (4, true), (5, true), (6, true), (7, true), (8, true), (9, true), (10, true), (11, true), (12, true), (13, true), (14, true), (15, true)] (by kernel_rfl) (by kernel_rfl) ?_ ?_; (· (show Ext _ _); (repeat' (first | exact Ext.refl _ | assumption | refine Ext.alloc ?_ _ | refine Ext.drew ?_ | refine Ext.drewN ?_ _ | refine Ext.trans ?_ (by assumption)))); (repeat (first | (apply hw_read (by rfl) (by rfl); (· (intro W hW; (try dsimp only at hW); go_simp; (first | done | rfl | (rw [if_pos] <;> first | omega | rfl)))); (try simp only [Act.put, List.setIfInBounds_toArray, List.set_cons_zero, List.set_cons_succ])) | (refine hw_skip (by rfl) (by rfl) ?_; (try simp only [Act.put, List.setIfInBounds_toArray, List.set_cons_zero, List.set_cons_succ])))); (refine hw_nil ?_; simp only [List.drop_succ_cons, List.drop_zero]); go_wp2; all_goals (refine NoPanic.normal ?_; (try dsimp only [Exit.then])))
          have HO2 := Lib.hid (HO.out.ext (ECgU_ok _) (Ext.refl wr).drew)
          have he2 : Ext w wr.drew := he.drew
          clear HO
          go_wp2_with (at_builtin; go_must (refine wp_ap1 (w0 := w) (by rfl) _ _ (by rfl) el_Cg (ECgU_ok _) he2 _ out [(⟨2, x⟩, .slice Ax x.ids.length cx)] (by rfl) HO2.out 1 1 rfl #[chgV 2 x (.slice Ax x.ids.length cx)] _ (by rfl) (by first | rfl | simp) rfl one1 (one_E (ecgU_of (.inr (.inl rfl)) hpsx (HUx.out.ext he2))) ?_ ?_))
          · simp; unfold lim; omega
          · intro v' w' hO' he' hk'
            have HO' := Lib.hid hO'
            clear hO' hk' he2 he gx0 gx1 gx2 gy0 gy1 gy2
            go_wp2
            exact ⟨⟨la, (y, Value.slice Ay y.ids.length cy) :: lb, out ++ [(⟨2, x⟩, .slice Ax x.ids.length cx)], _, _, _, _, by rw [Hmla.out], by rw [List.length_cons, Hmlb.out], HTx, HBk, he', HO', by have := Hmla.out; have := Hmlb.out; simp; omega, Lib.hid (hr.out _ rfl)⟩, by simp [lenOf]⟩
        | false =>
          cases q2 : Op.bytesLess y.path.toList x.path.toList with
          | true =>
            have hr : Hid (∀ c : Ch × Value, c = (⟨1, y⟩, Value.slice Ay y.ids.length cy) → (out ++ [c]) ++ chgU ((x, Value.slice Ax x.ids.length cx) :: la) lb = chgU l1 l2) := Lib.hid fun c hc => by subst hc; have := hrest.out; rw [chgU_gt (a := (x, Value.slice Ax x.ids.length cx)) (b := (y, Value.slice Ay y.ids.length cy)) _ _ q1 q2] at this; simpa using this
            clear hrest
            go_wp2
            (refine wp_region_hold (fun W => Ext wr W) 16 [(0, true), (1, true), (2, true), (3, true), (4, true), (5, true), (6, true), (7, true), (8, true), (9, true), (10, true), (11, true), (12, true), (13, true), (14, true), (15, true)] (by kernel_rfl) (by kernel_rfl) ?_ ?_; (· (show Ext _ _); (repeat' (first | exact Ext.refl _ | assumption | refine Ext.alloc ?_ _ | refine Ext.drew ?_ | refine Ext.drewN ?_ _ | refine Ext.trans ?_ (by assumption)))); (repeat (first | (apply hw_read (by rfl) (by rfl); (· (intro W hW; (try dsimp only at hW); go_simp; (first | done | rfl | (rw [if_pos] <;> first | omega | rfl)))); (try simp only [Act.put, List.setIfInBounds_toArray, List.set_cons_zero, List.set_cons_succ])) | (refine hw_skip (by rfl) (by rfl) ?_; (try simp only [Act.put, List.setIfInBounds_toArray, List.set_cons_zero, List.set_cons_succ])))); (refine hw_nil ?_; simp only [List.drop_succ_cons, List.drop_zero]); go_wp2; all_goals (refine NoPanic.normal ?_; (try dsimp only [Exit.then])))
            go_wp2
            (refine wp_region_hold (fun W => Ext wr W) 12 [(0, true), (1, true), (2, true), (3, true), (4, true), (5, true), (6, true), (7, true), (8, true), (9, true), (10, true), (11, true)] (by kernel_rfl) (by kernel_rfl) ?_ ?_; (· (show Ext _ _); (repeat' (first | exact Ext.refl _ | assumption | refine Ext.alloc ?_ _ | refine Ext.drew ?_ | refine Ext.drewN ?_ _ | refine Ext.trans ?_ (by assumption)))); (repeat (first | (apply hw_read (by rfl) (by rfl); (· (intro W hW; (try dsimp only at hW); go_simp; (first | done | rfl | (rw [if_pos] <;> first | omega | rfl)))); (try simp only [Act.put, List.setIfInBounds_toArray, List.set_cons_zero, List.set_cons_succ])) | (refine hw_skip (by rfl) (by rfl) ?_; (try simp only [Act.put, List.setIfInBounds_toArray, List.set_cons_zero, List.set_cons_succ])))); (refine hw_nil ?_; simp only [List.drop_succ_cons, List.drop_zero]); go_wp2; all_goals (refine NoPanic.normal ?_; (try dsimp only [Exit.then])))
            have HO2 := Lib.hid (HO.out.ext (ECgU_ok _) (Ext.refl wr).drew.drew)
            have he2 : Ext w wr.drew.drew := he.drew.drew
            clear HO
            go_wp2_with (at_builtin; go_must (refine wp_ap1 (w0 := w) (by rfl) _ _ (by rfl) el_Cg (ECgU_ok _) he2 _ out [(⟨1, y⟩, .slice Ay y.ids.length cy)] (by rfl) HO2.out 1 1 rfl #[chgV 1 y (.slice Ay y.ids.length cy)] _ (by rfl) (by first | rfl | simp) rfl one1 (one_E (ecgU_of (.inl rfl) hpsy (HUy.out.ext he2))) ?_ ?_))
            · simp; unfold lim; omega
            · intro v' w' hO' he' hk'
              have HO' := Lib.hid hO'
              clear hO' hk' he2 he gx0 gx1 gx2 gy0 gy1 gy2
              go_wp2
              exact ⟨⟨(x, Value.slice Ax x.ids.length cx) :: la, lb, out ++ [(⟨1, y⟩, .slice Ay y.ids.length cy)], _, _, _, _, by rw [List.length_cons, Hmla.out], by rw [Hmlb.out], HAk, HTy, he', HO', by have := Hmla.out; have := Hmlb.out; simp; omega, Lib.hid (hr.out _ rfl)⟩, by simp [lenOf]⟩
          | false =>
            have hstep : ∀ W : World, Hid (SlIn B 32 3 (EItU B) w (if c1 = 1 then some ⟨b1, o1, none⟩ else some ⟨b1, o1 + 3, none⟩) (c1 - 1) la ∧ SlIn B 32 3 (EItU B) w (if c2 = 1 then some ⟨b2, o2, none⟩ else some ⟨b2, o2 + 3, none⟩) (c2 - 1) lb) := fun _ => Lib.hid ⟨HTx.out, HTy.out⟩
            have HST := Lib.hid hstep; clear hstep
            by_cases hdir : x.dir = y.dir
            · cases hq : eqb x y with
              | true =>
                have hr : Hid (out ++ chgU la lb = chgU l1 l2) := Lib.hid (by have := hrest.out; rwa [chgU_same (a := (x, Value.slice Ax x.ids.length cx)) (b := (y, Value.slice Ay y.ids.length cy)) _ _ q1 q2 hdir hq] at this)
                have Ce : ∀ W, Ext wr W → Calls Tryz.prog 104 #[.agg #[.string x.path, .bool x.dir, .slice Ax x.ids.length cx], .agg #[.string y.path, .bool y.dir, .slice Ay y.ids.length cy]] W (Ret (.bool true) W) := fun W e => by
                  rw [← hq]; exact impl_itemEqual_c W ⟨_, rfl, hpsx, HUx.out.ext (he.trans e)⟩ ⟨_, rfl, hpsy, HUy.out.ext (he.trans e)⟩
                have hd1 : (x.dir != y.dir) = false := by rw [hdir]; simp
                have hd2 : (x.dir == y.dir) = true := by rw [hdir]; simp
                have Hdir := Lib.hid hdir
                clear hrest hq hdir
                go_wp2
                (refine wp_region_hold (fun W => Ext wr W) 16 [(0, true), (1, true), (2, true), (3, true), (4, true), (5, true), (6, true), (7, true), (8, true), (9, true), (10, true), (11, true), (12, true), (13, true), (14, true), (15, true)] (by kernel_rfl) (by kernel_rfl) ?_ ?_; (· (show Ext _ _); (repeat' (first | exact Ext.refl _ | assumption | refine Ext.alloc ?_ _ | refine Ext.drew ?_ | refine Ext.drewN ?_ _ | refine Ext.trans ?_ (by assumption)))); (repeat (first | (apply hw_read (by rfl) (by rfl); (· (intro W hW; (try dsimp only at hW); go_simp; (first | done | rfl | (rw [if_pos] <;> first | omega | rfl)))); (try simp only [Act.put, List.setIfInBounds_toArray, List.set_cons_zero, List.set_cons_succ])) | (refine hw_skip (by rfl) (by rfl) ?_; (try simp only [Act.put, List.setIfInBounds_toArray, List.set_cons_zero, List.set_cons_succ])))); (refine hw_nil ?_; simp only [List.drop_succ_cons, List.drop_zero]); go_wp2; all_goals (refine NoPanic.normal ?_; (try dsimp only [Exit.then])))
                go_wp2
                (refine wp_region_hold (fun W => Ext wr W) 12 [(0, true), (1, true), (2, true), (3, true), (4, true), (5, true), (6, true), (7, true), (8, true), (9, true), (10, true), (11, true)] (by kernel_rfl) (by kernel_rfl) ?_ ?_; (· (show Ext _ _); (repeat' (first | exact Ext.refl _ | assumption | refine Ext.alloc ?_ _ | refine Ext.drew ?_ | refine Ext.drewN ?_ _ | refine Ext.trans ?_ (by assumption)))); (repeat (first | (apply hw_read (by rfl) (by rfl); (· (intro W hW; (try dsimp only at hW); go_simp; (first | done | rfl | (rw [if_pos] <;> first | omega | rfl)))); (try simp only [Act.put, List.setIfInBounds_toArray, List.set_cons_zero, List.set_cons_succ])) | (refine hw_skip (by rfl) (by rfl) ?_; (try simp only [Act.put, List.setIfInBounds_toArray, List.set_cons_zero, List.set_cons_succ])))); (refine hw_nil ?_; simp only [List.drop_succ_cons, List.drop_zero]); go_wp2; all_goals (refine NoPanic.normal ?_; (try dsimp only [Exit.then])))
                go_wp2
                (refine wp_region_hold (fun W => Ext wr W) 8 [(0, true), (1, true), (2, true), (3, true), (4, true), (5, true), (6, true), (7, true)] (by kernel_rfl) (by kernel_rfl) ?_ ?_; (· (show Ext _ _); (repeat' (first | exact Ext.refl _ | assumption | refine Ext.alloc ?_ _ | refine Ext.drew ?_ | refine Ext.drewN ?_ _ | refine Ext.trans ?_ (by assumption)))); (repeat (first | (apply hw_read (by rfl) (by rfl); (· (intro W hW; (try dsimp only at hW); go_simp; (first | done | rfl | (rw [if_pos] <;> first | omega | rfl)))); (try simp only [Act.put, List.setIfInBounds_toArray, List.set_cons_zero, List.set_cons_succ])) | (refine hw_skip (by rfl) (by rfl) ?_; (try simp only [Act.put, List.setIfInBounds_toArray, List.set_cons_zero, List.set_cons_succ])))); (refine hw_nil ?_; simp only [List.drop_succ_cons, List.drop_zero]); go_wp2; all_goals (refine NoPanic.normal ?_; (try dsimp only [Exit.then])))
                go_wp2
                refine wp_region_hold (fun W => Ext wr W) 6 [(0, true), (1, true), (2, true), (3, true), (4, true), (5, true)] (by kernel_rfl) (by kernel_rfl) ?_ ?_
                · show Ext _ _; (repeat' (first | exact Ext.refl _ | assumption | refine Ext.alloc ?_ _ | refine Ext.drew ?_ | refine Ext.drewN ?_ _ | refine Ext.trans ?_ (by assumption)))
                (repeat (first | (apply hw_read (by rfl) (by rfl); (· (intro W hW; (try dsimp only at hW); go_simp; (first | done | rfl | (rw [if_pos] <;> first | omega | rfl)))); (try simp only [Act.put, List.setIfInBounds_toArray, List.set_cons_zero, List.set_cons_succ])) | (refine hw_skip (by rfl) (by rfl) ?_; (try simp only [Act.put, List.setIfInBounds_toArray, List.set_cons_zero, List.set_cons_succ]))))
                (refine hw_nil ?_; simp only [List.drop_succ_cons, List.drop_zero])
                go_wp2_with (go_at_call 104; refine (Ce _ (by (repeat' (first | exact Ext.refl _ | assumption | refine Ext.alloc ?_ _ | refine Ext.drew ?_ | refine Ext.drewN ?_ _ | refine Ext.trans ?_ (by assumption))))).mono ?_; rintro e w5 ⟨rfl, he5⟩)
                refine NoPanic.normal ?_
                dsimp only [Exit.then]
                have he6 : Ext wr w5 := by (repeat' (first | exact Ext.refl _ | assumption | refine Ext.alloc ?_ _ | refine Ext.drew ?_ | refine Ext.drewN ?_ _ | refine Ext.trans ?_ (by assumption)))
                clear he5
                go_wp2
                have HO6 := Lib.hid (HO.out.ext (ECgU_ok _) he6)
                have he7 := he.trans he6
                clear he6 Ce HO he gx0 gx1 gx2 gy0 gy1 gy2 hd1 hd2
                refine wp_region_hold (fun W => Ext w5 W) 5 [(0, true), (1, true), (2, true), (3, true), (4, true)] (by kernel_rfl) (by kernel_rfl) ?_ ?_
                · exact (Ext.refl _).drew
                (repeat (first | (apply hw_read (by rfl) (by rfl); (· (intro W hW; (try dsimp only at hW); go_simp; (first | done | rfl | (rw [if_pos] <;> first | omega | rfl)))); (try simp only [Act.put, List.setIfInBounds_toArray, List.set_cons_zero, List.set_cons_succ])) | (refine hw_skip (by rfl) (by rfl) ?_; (try simp only [Act.put, List.setIfInBounds_toArray, List.set_cons_zero, List.set_cons_succ]))))
                have HTT : Hid (SlIn B 32 3 (EItU B) w (if c1 = 1 then some ⟨b1, o1, none⟩ else some ⟨b1, o1 + 3, none⟩) (c1 - 1) la ∧ SlIn B 32 3 (EItU B) w (if c2 = 1 then some ⟨b2, o2, none⟩ else some ⟨b2, o2 + 3, none⟩) (c2 - 1) lb) := Lib.hid ⟨HTx.out, HTy.out⟩
                clear HTx HTy HST
                generalize (if c1 = 1 then (some ⟨b1, o1, none⟩ : Option Addr) else some ⟨b1, o1 + 3, none⟩) = X1 at *
                generalize (if c2 = 1 then (some ⟨b2, o2, none⟩ : Option Addr) else some ⟨b2, o2 + 3, none⟩) = X2 at *
                (refine hw_nil ?_; simp only [List.drop_succ_cons, List.drop_zero])
                go_wp2
                refine NoPanic.normal ?_
                (try dsimp only [Exit.then])
                go_wp2
                exact ⟨⟨la, lb, out, _, _, _, _, by rw [Hmla.out], by rw [Hmlb.out], Lib.hid HTT.out.1, Lib.hid HTT.out.2, by (repeat' (first | exact Ext.refl _ | assumption | refine Ext.alloc ?_ _ | refine Ext.drew ?_ | refine Ext.drewN ?_ _ | refine Ext.trans ?_ (by assumption))), Lib.hid (HO6.out.ext (ECgU_ok _) (by (repeat' (first | exact Ext.refl _ | assumption | refine Ext.alloc ?_ _ | refine Ext.drew ?_ | refine Ext.drewN ?_ _ | refine Ext.trans ?_ (by assumption))))), by have := Hmla.out; have := Hmlb.out; omega, hr⟩, by simp [lenOf]; omega⟩
              | false =>
                have hr : Hid (∀ c : Ch × Value, c = (⟨3, y⟩, Value.slice Ay y.ids.length cy) → (out ++ [c]) ++ chgU la lb = chgU l1 l2) := Lib.hid fun c hc => by subst hc; have := hrest.out; rw [chgU_other (a := (x, Value.slice Ax x.ids.length cx)) (b := (y, Value.slice Ay y.ids.length cy)) _ _ q1 q2 hdir hq] at this; simpa using this
                have Ce : ∀ W, Ext wr W → Calls Tryz.prog 104 #[.agg #[.string x.path, .bool x.dir, .slice Ax x.ids.length cx], .agg #[.string y.path, .bool y.dir, .slice Ay y.ids.length cy]] W (Ret (.bool false) W) := fun W e => by
                  rw [← hq]; exact impl_itemEqual_c W ⟨_, rfl, hpsx, HUx.out.ext (he.trans e)⟩ ⟨_, rfl, hpsy, HUy.out.ext (he.trans e)⟩
                have hd1 : (x.dir != y.dir) = false := by rw [hdir]; simp
                have hd2 : (x.dir == y.dir) = true := by rw [hdir]; simp
                have Hdir := Lib.hid hdir
                clear hrest hq hdir
                go_wp2
                (refine wp_region_hold (fun W => Ext wr W) 16 [(0, true), (1, true), (2, true), (3, true), (4, true), (5, true), (6, true), (7, true), (8, true), (9, true), (10, true), (11, true), (12, true), (13, true), (14, true), (15, true)] (by kernel_rfl) (by kernel_rfl) ?_ ?_; (· (show Ext _ _); (repeat' (first | exact Ext.refl _ | assumption | refine Ext.alloc ?_ _ | refine Ext.drew ?_ | refine Ext.drewN ?_ _ | refine Ext.trans ?_ (by assumption)))); (repeat (first | (apply hw_read (by rfl) (by rfl); (· (intro W hW; (try dsimp only at hW); go_simp; (first | done | rfl | (rw [if_pos] <;> first | omega | rfl)))); (try simp only [Act.put, List.setIfInBounds_toArray, List.set_cons_zero, List.set_cons_succ])) | (refine hw_skip (by rfl) (by rfl) ?_; (try simp only [Act.put, List.setIfInBounds_toArray, List.set_cons_zero, List.set_cons_succ])))); (refine hw_nil ?_; simp only [List.drop_succ_cons, List.drop_zero]); go_wp2; all_goals (refine NoPanic.normal ?_; (try dsimp only [Exit.then])))
                go_wp2
                (refine wp_region_hold (fun W => Ext wr W) 12 [(0, true), (1, true), (2, true), (3, true), (4, true), (5, true), (6, true), (7, true), (8, true), (9, true), (10, true), (11, true)] (by kernel_rfl) (by kernel_rfl) ?_ ?_; (· (show Ext _ _); (repeat' (first | exact Ext.refl _ | assumption | refine Ext.alloc ?_ _ | refine Ext.drew ?_ | refine Ext.drewN ?_ _ | refine Ext.trans ?_ (by assumption)))); (repeat (first | (apply hw_read (by rfl) (by rfl); (· (intro W hW; (try dsimp only at hW); go_simp; (first | done | rfl | (rw [if_pos] <;> first | omega | rfl)))); (try simp only [Act.put, List.setIfInBounds_toArray, List.set_cons_zero, List.set_cons_succ])) | (refine hw_skip (by rfl) (by rfl) ?_; (try simp only [Act.put, List.setIfInBounds_toArray, List.set_cons_zero, List.set_cons_succ])))); (refine hw_nil ?_; simp only [List.drop_succ_cons, List.drop_zero]); go_wp2; all_goals (refine NoPanic.normal ?_; (try dsimp only [Exit.then])))
                go_wp2
                (refine wp_region_hold (fun W => Ext wr W) 8 [(0, true), (1, true), (2, true), (3, true), (4, true), (5, true), (6, true), (7, true)] (by kernel_rfl) (by kernel_rfl) ?_ ?_; (· (show Ext _ _); (repeat' (first | exact Ext.refl _ | assumption | refine Ext.alloc ?_ _ | refine Ext.drew ?_ | refine Ext.drewN ?_ _ | refine Ext.trans ?_ (by assumption)))); (repeat (first | (apply hw_read (by rfl) (by rfl); (· (intro W hW; (try dsimp only at hW); go_simp; (first | done | rfl | (rw [if_pos] <;> first | omega | rfl)))); (try simp only [Act.put, List.setIfInBounds_toArray, List.set_cons_zero, List.set_cons_succ])) | (refine hw_skip (by rfl) (by rfl) ?_; (try simp only [Act.put, List.setIfInBounds_toArray, List.set_cons_zero, List.set_cons_succ])))); (refine hw_nil ?_; simp only [List.drop_succ_cons, List.drop_zero]); go_wp2; all_goals (refine NoPanic.normal ?_; (try dsimp only [Exit.then])))
                go_wp2
                refine wp_region_hold (fun W => Ext wr W) 6 [(0, true), (1, true), (2, true), (3, true), (4, true), (5, true)] (by kernel_rfl) (by kernel_rfl) ?_ ?_
                · show Ext _ _; (repeat' (first | exact Ext.refl _ | assumption | refine Ext.alloc ?_ _ | refine Ext.drew ?_ | refine Ext.drewN ?_ _ | refine Ext.trans ?_ (by assumption)))
                (repeat (first | (apply hw_read (by rfl) (by rfl); (· (intro W hW; (try dsimp only at hW); go_simp; (first | done | rfl | (rw [if_pos] <;> first | omega | rfl)))); (try simp only [Act.put, List.setIfInBounds_toArray, List.set_cons_zero, List.set_cons_succ])) | (refine hw_skip (by rfl) (by rfl) ?_; (try simp only [Act.put, List.setIfInBounds_toArray, List.set_cons_zero, List.set_cons_succ]))))
                (refine hw_nil ?_; simp only [List.drop_succ_cons, List.drop_zero])
                go_wp2_with (go_at_call 104; refine (Ce _ (by (repeat' (first | exact Ext.refl _ | assumption | refine Ext.alloc ?_ _ | refine Ext.drew ?_ | refine Ext.drewN ?_ _ | refine Ext.trans ?_ (by assumption))))).mono ?_; rintro e w5 ⟨rfl, he5⟩)
                refine NoPanic.normal ?_
                dsimp only [Exit.then]
                have he6 : Ext wr w5 := by (repeat' (first | exact Ext.refl _ | assumption | refine Ext.alloc ?_ _ | refine Ext.drew ?_ | refine Ext.drewN ?_ _ | refine Ext.trans ?_ (by assumption)))
                clear he5
                have HO6 := Lib.hid (HO.out.ext (ECgU_ok _) he6)
                have he7 := he.trans he6
                have k0 := gy0 w5 he6; have k1 := gy1 w5 he6; have k2 := gy2 w5 he6
                clear Ce HO he gx0 gx1 gx2 gy0 gy1 gy2 hd1 hd2
                go_wp2_with (at_builtin; go_must (refine wp_ap1 (w0 := w) (by rfl) _ _ (by rfl) el_Cg (ECgU_ok _) he7 _ out [(⟨3, y⟩, .slice Ay y.ids.length cy)] (by rfl) HO6.out 1 1 rfl #[chgV 3 y (.slice Ay y.ids.length cy)] _ (by rfl) (by first | rfl | simp) rfl one1 (one_E (ecgU_of (.inr (.inr rfl)) hpsy (HUy.out.ext he7))) ?_ ?_))
                · simp; unfold lim; omega
                · intro v' w' hO' he' hk'
                  have HO' := Lib.hid hO'
                  clear hO' hk' he6 he7 k0 k1 k2
                  go_wp2
                  refine wp_region_hold (fun W => Ext w' W) 5 [(0, true), (1, true), (2, true), (3, true), (4, true)] (by kernel_rfl) (by kernel_rfl) ?_ ?_
                  · exact (Ext.refl _).drew
                  (repeat (first | (apply hw_read (by rfl) (by rfl); (· (intro W hW; (try dsimp only at hW); go_simp; (first | done | rfl | (rw [if_pos] <;> first | omega | rfl)))); (try simp only [Act.put, List.setIfInBounds_toArray, List.set_cons_zero, List.set_cons_succ])) | (refine hw_skip (by rfl) (by rfl) ?_; (try simp only [Act.put, List.setIfInBounds_toArray, List.set_cons_zero, List.set_cons_succ]))))
                  have HTT : Hid (SlIn B 32 3 (EItU B) w (if c1 = 1 then some ⟨b1, o1, none⟩ else some ⟨b1, o1 + 3, none⟩) (c1 - 1) la ∧ SlIn B 32 3 (EItU B) w (if c2 = 1 then some ⟨b2, o2, none⟩ else some ⟨b2, o2 + 3, none⟩) (c2 - 1) lb) := Lib.hid ⟨HTx.out, HTy.out⟩
                  clear HTx HTy HST
                  generalize (if c1 = 1 then (some ⟨b1, o1, none⟩ : Option Addr) else some ⟨b1, o1 + 3, none⟩) = X1 at *
                  generalize (if c2 = 1 then (some ⟨b2, o2, none⟩ : Option Addr) else some ⟨b2, o2 + 3, none⟩) = X2 at *
                  (refine hw_nil ?_; simp only [List.drop_succ_cons, List.drop_zero])
                  go_wp2
                  refine NoPanic.normal ?_
                  (try dsimp only [Exit.then])
                  go_wp2
                  exact ⟨⟨la, lb, out ++ [(⟨3, y⟩, .slice Ay y.ids.length cy)], _, _, _, _, by rw [Hmla.out], by rw [Hmlb.out], Lib.hid HTT.out.1, Lib.hid HTT.out.2, by (repeat' (first | exact Ext.refl _ | assumption | refine Ext.alloc ?_ _ | refine Ext.drew ?_ | refine Ext.drewN ?_ _ | refine Ext.trans ?_ (by assumption))), Lib.hid (HO'.out.ext (ECgU_ok _) (by (repeat' (first | exact Ext.refl _ | assumption | refine Ext.alloc ?_ _ | refine Ext.drew ?_ | refine Ext.drewN ?_ _ | refine Ext.trans ?_ (by assumption))))), by have := Hmla.out; have := Hmlb.out; simp; omega, Lib.hid (hr.out _ rfl)⟩, by simp [lenOf]; omega⟩
            · have hr : Hid (∀ c d : Ch × Value, c = (⟨2, x⟩, Value.slice Ax x.ids.length cx) → d = (⟨1, y⟩, Value.slice Ay y.ids.length cy) → (out ++ [c, d]) ++ chgU la lb = chgU l1 l2) := Lib.hid fun c d hc hd => by subst hc; subst hd; have := hrest.out; rw [chgU_two (a := (x, Value.slice Ax x.ids.length cx)) (b := (y, Value.slice Ay y.ids.length cy)) _ _ q1 q2 hdir] at this; simpa using this
              have hd1 : (x.dir != y.dir) = true := by simpa using hdir
              have hd2 : (x.dir == y.dir) = false := by simpa using hdir
              have Hdir := Lib.hid hdir
              clear hrest hdir
              go_wp2
              (refine wp_region_hold (fun W => Ext wr W) 16 [(0, true), (1, true), (2, true), (3, true), (4, true), (5, true), (6, true), (7, true), (8, true), (9, true), (10, true), (11, true), (12, true), (13, true), (14, true), (15, true)] (by kernel_rfl) (by kernel_rfl) ?_ ?_; (· (show Ext _ _); (repeat' (first | exact Ext.refl _ | assumption | refine Ext.alloc ?_ _ | refine Ext.drew ?_ | refine Ext.drewN ?_ _ | refine Ext.trans ?_ (by assumption)))); (repeat (first | (apply hw_read (by rfl) (by rfl); (· (intro W hW; (try dsimp only at hW); go_simp; (first | done | rfl | (rw [if_pos] <;> first | omega | rfl)))); (try simp only [Act.put, List.setIfInBounds_toArray, List.set_cons_zero, List.set_cons_succ])) | (refine hw_skip (by rfl) (by rfl) ?_; (try simp only [Act.put, List.setIfInBounds_toArray, List.set_cons_zero, List.set_cons_succ])))); (refine hw_nil ?_; simp only [List.drop_succ_cons, List.drop_zero]); go_wp2; all_goals (refine NoPanic.normal ?_; (try dsimp only [Exit.then])))
              go_wp2
              (refine wp_region_hold (fun W => Ext wr W) 12 [(0, true), (1, true), (2, true), (3, true), (4, true), (5, true), (6, true), (7, true), (8, true), (9, true), (10, true), (11, true)] (by kernel_rfl) (by kernel_rfl) ?_ ?_; (· (show Ext _ _); (repeat' (first | exact Ext.refl _ | assumption | refine Ext.alloc ?_ _ | refine Ext.drew ?_ | refine Ext.drewN ?_ _ | refine Ext.trans ?_ (by assumption)))); (repeat (first | (apply hw_read (by rfl) (by rfl); (· (intro W hW; (try dsimp only at hW); go_simp; (first | done | rfl | (rw [if_pos] <;> first | omega | rfl)))); (try simp only [Act.put, List.setIfInBounds_toArray, List.set_cons_zero, List.set_cons_succ])) | (refine hw_skip (by rfl) (by rfl) ?_; (try simp only [Act.put, List.setIfInBounds_toArray, List.set_cons_zero, List.set_cons_succ])))); (refine hw_nil ?_; simp only [List.drop_succ_cons, List.drop_zero]); go_wp2; all_goals (refine NoPanic.normal ?_; (try dsimp only [Exit.then])))
              go_wp2
              (refine wp_region_hold (fun W => Ext wr W) 8 [(0, true), (1, true), (2, true), (3, true), (4, true), (5, true), (6, true), (7, true)] (by kernel_rfl) (by kernel_rfl) ?_ ?_; (· (show Ext _ _); (repeat' (first | exact Ext.refl _ | assumption | refine Ext.alloc ?_ _ | refine Ext.drew ?_ | refine Ext.drewN ?_ _ | refine Ext.trans ?_ (by assumption)))); (repeat (first | (apply hw_read (by rfl) (by rfl); (· (intro W hW; (try dsimp only at hW); go_simp; (first | done | rfl | (rw [if_pos] <;> first | omega | rfl)))); (try simp only [Act.put, List.setIfInBounds_toArray, List.set_cons_zero, List.set_cons_succ])) | (refine hw_skip (by rfl) (by rfl) ?_; (try simp only [Act.put, List.setIfInBounds_toArray, List.set_cons_zero, List.set_cons_succ])))); (refine hw_nil ?_; simp only [List.drop_succ_cons, List.drop_zero]); go_wp2; all_goals (refine NoPanic.normal ?_; (try dsimp only [Exit.then])))
              go_wp2
              refine wp_region_hold (fun W => Ext wr W) 12 [(0, true), (1, true), (2, true), (3, true), (4, true), (5, true), (6, true), (7, true), (8, true), (9, true), (10, true), (11, false)] (by kernel_rfl) (by kernel_rfl) ?_ ?_
              · show Ext _ _; (repeat' (first | exact Ext.refl _ | assumption | refine Ext.alloc ?_ _ | refine Ext.drew ?_ | refine Ext.drewN ?_ _ | refine Ext.trans ?_ (by assumption)))
              (repeat (first | (apply hw_read (by rfl) (by rfl); (· (intro W hW; (try dsimp only at hW); go_simp; (first | done | rfl | (rw [if_pos] <;> first | omega | rfl)))); (try simp only [Act.put, List.setIfInBounds_toArray, List.set_cons_zero, List.set_cons_succ])) | (refine hw_skip (by rfl) (by rfl) ?_; (try simp only [Act.put, List.setIfInBounds_toArray, List.set_cons_zero, List.set_cons_succ]))))
              refine hw_step (by rfl) ?_
              go_wp2
              refine ⟨by (repeat' (first | exact Ext.refl _ | assumption | refine Ext.alloc ?_ _ | refine Ext.drew ?_ | refine Ext.drewN ?_ _ | refine Ext.trans ?_ (by assumption))), ?_⟩
              have HO6 := Lib.hid (HO.out.ext (ECgU_ok _) (Ext.refl wr).drew.drew.drew.drew)
              have he7 := he.drew.drew.drew.drew
              clear HO gx0 gx1 gx2 gy0 gy1 gy2 hd1 hd2
              (refine hw_nil ?_; simp only [List.drop_succ_cons, List.drop_zero])
              go_wp2_with (at_builtin; go_must (refine wp_ap1 (w0 := w) (by rfl) _ _ (by rfl) el_Cg (ECgU_ok _) he7 _ out [(⟨2, x⟩, .slice Ax x.ids.length cx), (⟨1, y⟩, .slice Ay y.ids.length cy)] (by rfl) HO6.out 2 2 rfl #[chgV 2 x (.slice Ax x.ids.length cx), chgV 1 y (.slice Ay y.ids.length cy)] _ (by rfl) (by first | rfl | simp) rfl one2c (two_E (ecgU_of (.inr (.inl rfl)) hpsx (HUx.out.ext he7)) ⟨.inl rfl, hpsy, rfl, HUy.out.ext he7⟩) ?_ ?_))
              · simp; unfold lim; omega
              · intro v' w' hO' he' hk'
                have HO' := Lib.hid hO'
                clear hO' hk' he7 he
                go_wp2
                refine NoPanic.normal ?_
                (try dsimp only [Exit.then])
                go_wp2
                refine wp_region_hold (fun W => Ext w' W) 5 [(0, true), (1, true), (2, true), (3, true), (4, true)] (by kernel_rfl) (by kernel_rfl) ?_ ?_
                · exact (Ext.refl _).drew
                (repeat (first | (apply hw_read (by rfl) (by rfl); (· (intro W hW; (try dsimp only at hW); go_simp; (first | done | rfl | (rw [if_pos] <;> first | omega | rfl)))); (try simp only [Act.put, List.setIfInBounds_toArray, List.set_cons_zero, List.set_cons_succ])) | (refine hw_skip (by rfl) (by rfl) ?_; (try simp only [Act.put, List.setIfInBounds_toArray, List.set_cons_zero, List.set_cons_succ]))))
                have HTT : Hid (SlIn B 32 3 (EItU B) w (if c1 = 1 then some ⟨b1, o1, none⟩ else some ⟨b1, o1 + 3, none⟩) (c1 - 1) la ∧ SlIn B 32 3 (EItU B) w (if c2 = 1 then some ⟨b2, o2, none⟩ else some ⟨b2, o2 + 3, none⟩) (c2 - 1) lb) := Lib.hid ⟨HTx.out, HTy.out⟩
                clear HTx HTy HST
                generalize (if c1 = 1 then (some ⟨b1, o1, none⟩ : Option Addr) else some ⟨b1, o1 + 3, none⟩) = X1 at *
                generalize (if c2 = 1 then (some ⟨b2, o2, none⟩ : Option Addr) else some ⟨b2, o2 + 3, none⟩) = X2 at *
                (refine hw_nil ?_; simp only [List.drop_succ_cons, List.drop_zero])
                go_wp2
                refine NoPanic.normal ?_
                (try dsimp only [Exit.then])
                go_wp2
                exact ⟨⟨la, lb, out ++ [(⟨2, x⟩, .slice Ax x.ids.length cx), (⟨1, y⟩, .slice Ay y.ids.length cy)], _, _, _, _, by rw [Hmla.out], by rw [Hmlb.out], Lib.hid HTT.out.1, Lib.hid HTT.out.2, by (repeat' (first | exact Ext.refl _ | assumption | refine Ext.alloc ?_ _ | refine Ext.drew ?_ | refine Ext.drewN ?_ _ | refine Ext.trans ?_ (by assumption))), Lib.hid (HO'.out.ext (ECgU_ok _) (by (repeat' (first | exact Ext.refl _ | assumption | refine Ext.alloc ?_ _ | refine Ext.drew ?_ | refine Ext.drewN ?_ _ | refine Ext.trans ?_ (by assumption))))), by have := Hmla.out; have := Hmlb.out; simp; omega, Lib.hid (hr.out _ _ rfl rfl)⟩, by simp [lenOf]; omega⟩
end Go.Sf

/-! The program's changes of two trees, each one's ids told apart. -/
namespace Go.Sf
open Go Go.RowKit Go.Proofs
/-- the answer's list, each change's ids in a block of its own -/
def OptChsU (B : Nat) (o : Option (List Ch)) (v : Value) (w : World) : Prop := ∃ u L, v = .tuple #[u, .bool o.isSome] ∧ L.map Prod.fst = o.getD [] ∧ ChsU B w u L ∧ Sep L
theorem OptChsU.nil_ {B : Nat} {w : World} {o : Option (List Ch)} (h : o = none) : OptChsU B o (.tuple #[.slice none 0 0, .bool false]) w := by
  subst h; exact ⟨_, [], rfl, rfl, SlOf.nil _ _ _ _ _, List.Pairwise.nil⟩
theorem OptChsU.some_ {B : Nat} {w : World} {o : Option (List Ch)} {L : List (Ch × Value)} {v : Value} (h : o = some (L.map Prod.fst)) (hs : ChsU B w v L) (hp : Sep L) : OptChsU B o (.tuple #[v, .bool true]) w := by
  subst h; exact ⟨_, L, rfl, rfl, hs, hp⟩
theorem echU_of {B : Nat} {w : World} {k : Int} {x : It} {u : Value} (h0 : inI k) (h1 : x.path.size < lim) (h2 : Ints B w u x.ids) : EChU B w #[.int .i64 k, .string x.path, .bool x.dir, u] 0 (⟨k, x⟩, u) := ⟨rfl, h0, rfl, h1, rfl, rfl, h2⟩
set_option maxRecDepth 8000 in
set_option maxHeartbeats 2000000 in
theorem ChangesOfU_c {B : Nat} {v1 v2 : Value} {l1 l2 : List It} (w : World) (h1 : Its B w v1 l1) (h2 : Its B w v2 l2) (hm : ML w) :
    Calls Tryz.prog 33 #[v1, v2] w (RetP (OptChsU w.heap.size (chgOf l1 l2)) w) := by
  have H1 := Lib.hid h1
  have H2 := Lib.hid h2
  have HM := Lib.hid hm
  clear h1 h2 hm
  cases ht1 : treeOk l1 with
  | false =>
    have Hd : Hid (chgOf l1 l2 = none) := Lib.hid (by simp [chgOf, ht1])
    have Ht1 := Lib.hid ht1; clear ht1
    go_enter Tryz.func33, Tryz.ntmps33
    go_wp2_with fail
    refine (openTree_c w H1.out HM.out).mono ?_
    rintro e w1 ⟨he1, ⟨-, rfl⟩ | ⟨ht, -⟩⟩
    · go_wp2
      go_ret2
      exact ⟨_, rfl, OptChsU.nil_ Hd.out, he1⟩
    · rw [Ht1.out] at ht; cases ht
  | true =>
  cases ht2 : treeOk l2 with
  | false =>
    have Hd : Hid (chgOf l1 l2 = none) := Lib.hid (by simp [chgOf, ht2])
    have Ht1 := Lib.hid ht1; clear ht1
    have Ht2 := Lib.hid ht2; clear ht2
    go_enter Tryz.func33, Tryz.ntmps33
    go_wp2_with fail
    refine (openTree_c w H1.out HM.out).mono ?_
    rintro e w1 ⟨he1, ⟨ht, -⟩ | ⟨-, adr1, kv1, rfl, hT1⟩⟩
    · rw [Ht1.out] at ht; cases ht
    have HT1 := Lib.hid hT1; clear hT1
    go_wp2_with fail
    refine (openTree_c w1 (H2.out.ext he1) (HM.out.ext he1)).mono ?_
    rintro e w2 ⟨he2, ⟨-, rfl⟩ | ⟨ht, -⟩⟩
    · go_wp2
      go_ret2
      exact ⟨_, rfl, OptChsU.nil_ Hd.out, he1.trans he2⟩
    · rw [Ht2.out] at ht; cases ht
  | true =>
  have Hd : Hid (chgOf l1 l2 = some (chg l1 l2)) := Lib.hid (by simp [chgOf, ht1, ht2])
  have hg1 := treeOk_iff'.1 ht1
  have hg2 := treeOk_iff'.1 ht2
  have HG1 := Lib.hid hg1
  have HG2 := Lib.hid hg2
  have Ht1 := Lib.hid ht1; clear ht1
  have Ht2 := Lib.hid ht2; clear ht2
  clear hg1 hg2
  go_enter Tryz.func33, Tryz.ntmps33
  go_wp2_with fail
  refine (openTree_c w H1.out HM.out).mono ?_
  rintro e w1 ⟨he1, ⟨ht, -⟩ | ⟨-, adr1, kv1, rfl, hT1⟩⟩
  · rw [Ht1.out] at ht; cases ht
  have HT1 := Lib.hid hT1; clear hT1
  go_wp2_with fail
  refine (openTree_c w1 (H2.out.ext he1) (HM.out.ext he1)).mono ?_
  rintro e w2 ⟨he2, ⟨ht, -⟩ | ⟨-, adr2, kv2, rfl, hT2⟩⟩
  · rw [Ht2.out] at ht; cases ht
  have HT2 := Lib.hid hT2; clear hT2
  go_wp2_with fail
  refine (listU_c (HT1.out.ext he2) HG1.out.2 HG1.out.1).mono ?_
  rintro e w3 ⟨v3, rfl, ⟨lu1, hm1, hI3, hS3, hW3⟩, he3⟩
  have HI3 : Hid (ItsU w.heap.size w3 v3 lu1) := Lib.hid (hI3.keep (he1.trans he2).size (fun _ _ _ => rfl))
  have HS3 := Lib.hid (And.intro hS3 hW3); have Hm1 := Lib.hid hm1
  clear hI3 hS3 hW3 hm1
  go_wp2_with fail
  refine (listU_c (HT2.out.ext he3) HG2.out.2 HG2.out.1).mono ?_
  rintro e w4 ⟨v4, rfl, ⟨lu2, hm2, hI4, hS4, hW4⟩, he4⟩
  have HI4 : Hid (ItsU w.heap.size w4 v4 lu2) := Lib.hid (hI4.keep ((he1.trans he2).trans he3).size (fun _ _ _ => rfl))
  have Hm2 := Lib.hid hm2
  have Hsep : Hid (Sep (chgU lu1 lu2)) := Lib.hid (chgU_sep _ _ _ (Nat.le_refl _) HS3.out.1 hS4 fun p hp q hq g hg hg' => by
    have h1 := (HS3.out.2 p hp g hg).2; have h2 := (hW4 q hq g hg').1
    omega)
  have hl1 : lu1.length = l1.length := by rw [← Hm1.out, List.length_map]
  have hl2 : lu2.length = l2.length := by rw [← hm2, List.length_map]
  have Hl1 := Lib.hid hl1; have Hl2 := Lib.hid hl2
  clear hI4 hS4 hW4 HS3 hm2 hl1 hl2
  go_wp2_with fail
  refine (changesBetweenU_c w4 (HI3.out.ext he4) HI4.out (by have := HG1.out.1; have := HG2.out.1; have := Hl1.out; have := Hl2.out; omega)).mono ?_
  rintro e w5 ⟨v5, rfl, hO5, he5⟩
  have Hf : Hid ((chgU lu1 lu2).map Prod.fst = chg l1 l2) := Lib.hid (by rw [chgU_fst _ _ _ (Nat.le_refl _), Hm1.out, Hm2.out])
  have hn : (chgU lu1 lu2).length ≤ 24 := by
    rw [← List.length_map (f := Prod.fst), Hf.out]
    have := chg_len _ l1 l2 (Nat.le_refl _)
    have := HG1.out.1; have := HG2.out.1; omega
  have he6 := (((he1.trans he2).trans he3).trans he4).trans he5
  obtain ⟨A5, c5, rfl⟩ := hO5.form
  have HO5 := Lib.hid hO5
  clear hO5
  clear Hm1 Hm2 Hl1 Hl2
  generalize chgU lu1 lu2 = L at *
  generalize hm : L.length = m at *
  have Hm := Lib.hid hm; clear hm
  clear he1 he2 he3 he4 he5
  go_wp2
  go_loopw [9, 32] (fun v i wr => ∃ k : Nat, k ≤ m ∧ i = .int .i64 k ∧ Ext w5 wr ∧ OwnS w5.heap.size 95 4 (EChU w.heap.size) wr v (L.take k)) (fun _ i _ => m - (intOf i).toNat)
  case atStart => exact ⟨0, by omega, rfl, Ext.refl _, OwnS.nil _ _ _ _ _⟩
  case round =>
    obtain ⟨k, hk, rfl, he, hO⟩ := hrel
    by_cases hlt : k < m
    · obtain ⟨ch, hch⟩ := get_of_lt (l := L) (k := k) (by rw [Hm.out]; exact hlt)
      obtain ⟨ch, uu⟩ := ch
      obtain ⟨g, c', cs, hv, hg, hbl, hkd, hps, hcell, hu⟩ := HO5.out.at_ (ECgU_ok _) hch
      simp only at hkd hps hcell hu
      rw [Nat.mul_one] at hcell
      injection hv with hv1 hvx hv2
      clear hvx
      subst hv1; subst hv2
      obtain ⟨Au, cu, rfl, hAu⟩ := hu
      have Hu : Hid (∀ W, Ext wr W → Ints w.heap.size W (.slice Au ch.item.ids.length cu) ch.item.ids) := Lib.hid fun W e => Ints.ext ⟨_, _, rfl, hAu⟩ (he.trans e)
      have hc0 := hbl.at_ hcell wr he
      have Hx := Lib.hid (take_succ_get hch)
      have HO := Lib.hid hO
      have Hbl := Lib.hid hbl
      clear hbl hcell hAu hO hch
      obtain ⟨kd, it⟩ := ch
      simp only at hkd hps hc0 Hu
      have Ck : ∀ W, Calls Tryz.prog 66 #[chgV kd it (.slice Au it.ids.length cu)] W (Ret (.int .i64 kd) W) := fun W => kindOf_c _ _ _ _ _ W hkd
      rcases hkd with rfl | rfl | rfl
      · change wr.cell? _ = some (.iface 135 (.agg #[.string it.path, .bool it.dir, .slice Au it.ids.length cu])) at hc0
        change ∀ W, Calls Tryz.prog 66 #[.iface 135 (.agg #[.string it.path, .bool it.dir, .slice Au it.ids.length cu])] W (Ret (.int .i64 1) W) at Ck
        go_wp2_with (go_at_call 66; refine (Ck _).mono ?_; rintro e w6 ⟨rfl, he7⟩)
        refine upon_item (f := 196) (by kernel_rfl) (by kernel_rfl) (newItem_c it _ _ _ _) ?_
        intro w7 he8
        have he9 := he.trans (he7.trans he8)
        have HO9 := Lib.hid (HO.out.ext (EChU_ok _) (he7.trans he8))
        have he11 := he7.trans he8
        clear he7 he8 Ck hc0
        go_wp2_with (at_builtin; go_must (refine wp_ap1 (w0 := w5) (by rfl) _ _ (by rfl) el_Ch (EChU_ok _) he9 _ (L.take k) [(⟨1, it⟩, .slice Au it.ids.length cu)] (by rfl) HO9.out 1 1 rfl #[.int .i64 1, .string it.path, .bool it.dir, .slice Au it.ids.length cu] _ (by rfl) (by first | rfl | simp) rfl (one4 rfl) (one_E (echU_of (by unfold inI; omega) hps (Hu.out _ he11))) ?_ ?_))
        · simp; unfold lim; omega
        · intro v' w' hO' he' hk'
          have HO' := Lib.hid hO'
          clear hO' hk'
          go_wp2
          go_roundw
          case rel => exact ⟨k + 1, by omega, by go_num, he', by rw [Hx.out]; exact HO'.out⟩
          case measure => simp [intOf]; omega
      · change wr.cell? _ = some (.iface 134 (.agg #[.string it.path, .bool it.dir, .slice Au it.ids.length cu])) at hc0
        change ∀ W, Calls Tryz.prog 66 #[.iface 134 (.agg #[.string it.path, .bool it.dir, .slice Au it.ids.length cu])] W (Ret (.int .i64 2) W) at Ck
        go_wp2_with (go_at_call 66; refine (Ck _).mono ?_; rintro e w6 ⟨rfl, he7⟩)
        refine upon_item (f := 195) (by kernel_rfl) (by kernel_rfl) (goneItem_c it _ _ _ _) ?_
        intro w7 he8
        have he9 := he.trans (he7.trans he8)
        have HO9 := Lib.hid (HO.out.ext (EChU_ok _) (he7.trans he8))
        have he11 := he7.trans he8
        clear he7 he8 Ck hc0
        go_wp2_with (at_builtin; go_must (refine wp_ap1 (w0 := w5) (by rfl) _ _ (by rfl) el_Ch (EChU_ok _) he9 _ (L.take k) [(⟨2, it⟩, .slice Au it.ids.length cu)] (by rfl) HO9.out 1 1 rfl #[.int .i64 2, .string it.path, .bool it.dir, .slice Au it.ids.length cu] _ (by rfl) (by first | rfl | simp) rfl (one4 rfl) (one_E (echU_of (by unfold inI; omega) hps (Hu.out _ he11))) ?_ ?_))
        · simp; unfold lim; omega
        · intro v' w' hO' he' hk'
          have HO' := Lib.hid hO'
          clear hO' hk'
          go_wp2
          go_roundw
          case rel => exact ⟨k + 1, by omega, by go_num, he', by rw [Hx.out]; exact HO'.out⟩
          case measure => simp [intOf]; omega
      · change wr.cell? _ = some (.iface 136 (.agg #[.string it.path, .bool it.dir, .slice Au it.ids.length cu])) at hc0
        change ∀ W, Calls Tryz.prog 66 #[.iface 136 (.agg #[.string it.path, .bool it.dir, .slice Au it.ids.length cu])] W (Ret (.int .i64 3) W) at Ck
        go_wp2_with (go_at_call 66; refine (Ck _).mono ?_; rintro e w6 ⟨rfl, he7⟩)
        refine upon_item (f := 197) (by kernel_rfl) (by kernel_rfl) (otherItem_c it _ _ _ _) ?_
        intro w7 he8
        have he9 := he.trans (he7.trans he8)
        have HO9 := Lib.hid (HO.out.ext (EChU_ok _) (he7.trans he8))
        have he11 := he7.trans he8
        clear he7 he8 Ck hc0
        go_wp2_with (at_builtin; go_must (refine wp_ap1 (w0 := w5) (by rfl) _ _ (by rfl) el_Ch (EChU_ok _) he9 _ (L.take k) [(⟨3, it⟩, .slice Au it.ids.length cu)] (by rfl) HO9.out 1 1 rfl #[.int .i64 3, .string it.path, .bool it.dir, .slice Au it.ids.length cu] _ (by rfl) (by first | rfl | simp) rfl (one4 rfl) (one_E (echU_of (by unfold inI; omega) hps (Hu.out _ he11))) ?_ ?_))
        · simp; unfold lim; omega
        · intro v' w' hO' he' hk'
          have HO' := Lib.hid hO'
          clear hO' hk'
          go_wp2
          go_roundw
          case rel => exact ⟨k + 1, by omega, by go_num, he', by rw [Hx.out]; exact HO'.out⟩
          case measure => simp [intOf]; omega
    · have hks : k = m := by omega
      subst hks
      have e : L.take k = L := List.take_of_length_le (by rw [Hm.out]; omega)
      rw [e] at hO
      have HO := Lib.hid hO
      clear hO e
      go_wp2
      go_ret2
      exact ⟨_, rfl, OptChsU.some_ (L := L) (by rw [Hf.out]; exact Hd.out) ((HO.out.mono (Ext.size he6)).sl (EChU_ok _) (Nat.le_refl _) (by rw [Hm.out]; unfold lim; omega)) Hsep.out, he6.trans he⟩
end Go.Sf
