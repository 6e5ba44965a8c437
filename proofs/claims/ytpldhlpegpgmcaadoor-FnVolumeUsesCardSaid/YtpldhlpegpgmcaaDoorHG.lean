/- The node with a path; TreeFind. -/
import Derived.Test.YtpldhlpegpgmcaaDoorGF
import Derived.Test.YtpldhlpegpgmcaaDoorGL
import Derived.Test.YtpldhlpegpgmcaaDoorGA
import Derived.Laws.AppendOwn
/-! The node with a path; TreeFind. -/
namespace Go.Sf
open Go Go.RowKit Go.Proofs
section
variable {B : Nat} {w : World} {l : List It} {adr : Key → Nat} {kv : Key → Value}
end
end Go.Sf

/-! The items of a tree of nodes are listed: each one's ids in a block of its own. -/
namespace Go.Sf
open Go Go.RowKit Go.Proofs
section
variable {P : Program} {α : Type} {ops : Array Oper} {rest : List Oper} {o : Oper} {a : Act} {Q : Exit → Act → World → Prop}
/-- the same for all elements of a slice, with what it leaves told block by block -/
theorem wp_apSG {W : World} {T t sz B B' : Nat} {E : World → Array Value → Nat → α → Prop} (hgd : o.guard = none) (s x : Operand)
    (ho : o.op = .call { callee := .builtin .append, args := #[s, x], argTypes := #[T, T] })
    (el : Elem P T t sz) (ok : ElOk t sz E) (hB : B ≤ W.heap.size) (v v2 : Value) (l ys : List α) (hs : a.eval s = v) (hown : OwnS B t sz E W v l)
    (hx : a.eval x = v2) (h2 : SlOf B' t sz E W v2 ys) (hl : l.length + ys.length ≤ lim)
    (h : ∀ v' w', OwnS B t sz E w' v' (l ++ ys) → W.grownBy w' v.ownBlock → KeepsT t W w' → wpList P ops Q rest (a.put o.dst v') w') : wpList P ops Q (o :: rest) a W := by
  obtain ⟨A, c, rfl, hn, ⟨hc, hc0⟩, -, hel⟩ := h2
  cases A with
  | none =>
    have hy : ys = [] := by
      cases ys with
      | nil => rfl
      | cons y ys => obtain ⟨b, o, cs, e, -⟩ := hel 0 y rfl; cases e
    subst hy
    obtain ⟨i, z, by_, hi, hz, hsz, hby, hb128, hzs⟩ := el.info
    obtain ⟨xs, hrow, hxs⟩ := hown
    refine wpList_append_own_none (w := W) hgd s x T ho B t i sz el.under hi v l.length xs hs hrow (by simpa [hc0 rfl] using hx) ?_
    simpa using h v W ⟨xs, by simpa using hrow, by simpa using hxs⟩ ⟨rfl, rfl, rfl, Nat.le_refl _, fun _ _ _ => rfl⟩ (fun _ _ _ _ hb => hb)
  | some ad =>
    by_cases hy : ys = []
    · subst hy
      exact wp_apG hgd s x ho el ok hB v l [] hs hown ad 0 c rfl #[] hx (by simp) (by simp) (fun j u hj => by simp at hj) (fun k y hk => by simp at hk) hl h
    · have hlen : 0 < ys.length := List.length_pos_iff.2 hy
      obtain ⟨b, o', cs, e, -, hb, -⟩ := hel 0 ys[0] (by simp [hlen])
      simp only [Option.some.injEq] at e
      subst e
      have hall : ∀ k y, ys[k]? = some y → E W cs (o' + k * sz) y := fun k y hk => by
        obtain ⟨b2, o2, cs2, e2, -, hb2, he2⟩ := hel k y hk
        simp only [Option.some.injEq, Addr.mk.injEq, and_true] at e2
        obtain ⟨rfl, rfl⟩ := e2
        have : cs2 = cs := by
          unfold Blk at hb hb2
          rw [hb] at hb2
          simp only [Option.some.injEq, Obj.cells.injEq] at hb2
          exact hb2.1.symm
        rw [← this]; exact he2
      have hget : ∀ j, j < ys.length * sz → ∃ u, cs[o' + j]? = some u ∧ u.oneCell' = true := fun j hj => by
        have hp := el.pos
        have hk : j / sz < ys.length := Nat.div_lt_of_lt_mul (by rw [Nat.mul_comm]; exact hj)
        have := ok.full _ _ _ _ (hall (j / sz) ys[j / sz] (by simp [hk])) (j % sz) (Nat.mod_lt _ hp)
        rwa [Nat.add_assoc, Nat.mul_comm, Nat.div_add_mod] at this
      have hcsz : o' + ys.length * sz ≤ cs.size := by
        have hp := el.pos
        have hm : 0 < ys.length * sz := Nat.mul_pos hlen hp
        obtain ⟨u, hu, -⟩ := hget (ys.length * sz - 1) (by omega)
        have := (Array.getElem?_eq_some_iff.1 hu).1
        omega
      have hcut : ∀ j, j < ys.length * sz → (cs.extract o' (o' + ys.length * sz))[j]? = cs[o' + j]? := fun j hj => by
        rw [Array.getElem?_extract, if_pos (by omega)]
      have hsize : (cs.extract o' (o' + ys.length * sz)).size = ys.length * sz := by rw [Array.size_extract]; omega
      refine wp_apG hgd s x ho el ok hB v l ys hs hown ⟨b, o', none⟩ ys.length c rfl (cs.extract o' (o' + ys.length * sz)) hx hsize ?_ ?_ ?_ hl h
      · intro u hu
        obtain ⟨j, hj⟩ := List.mem_iff_getElem?.1 hu
        rw [Array.getElem?_toList] at hj
        have hlt := (Array.getElem?_eq_some_iff.1 hj).1
        rw [hsize] at hlt
        rw [hcut j hlt] at hj
        obtain ⟨u', hu', h1⟩ := hget j hlt
        rw [hu'] at hj
        rw [← Option.some.inj hj]; exact h1
      · intro j u hj
        have hlt := (Array.getElem?_eq_some_iff.1 hj).1
        rw [hsize] at hlt
        rw [hcut j hlt] at hj
        have e : (⟨b, o', none⟩ : Addr).add j = ⟨b, o' + j, none⟩ := by
          unfold Addr.add; split
          · next h => subst h; rfl
          · rfl
        rw [e, hb.cell, hj]
      · intro k y hk
        refine ok.loc _ _ _ _ _ _ (fun j hj => ?_) (hall k y hk)
        have hk' : k < ys.length := by
          rcases Nat.lt_or_ge k ys.length with h | h
          · exact h
          · rw [List.getElem?_eq_none h] at hk; cases hk
        have : (k + 1) * sz ≤ ys.length * sz := Nat.mul_le_mul_right _ hk'
        rw [Nat.add_mul, Nat.one_mul] at this
        rw [hcut _ (by omega), Nat.add_assoc]
end
/-- the inner slices lie in blocks that came between w and w' -/
def Within {α : Type} (w w' : World) (l : List (α × Value)) : Prop := ∀ q, q ∈ l → ∀ b, q.2.ownBlock = some b → w.heap.size ≤ b ∧ b < w'.heap.size
theorem Within.mono {α : Type} {w w' w0 w1 : World} {l : List (α × Value)} (h : Within w w' l) (h0 : w0.heap.size ≤ w.heap.size) (h1 : w'.heap.size ≤ w1.heap.size) : Within w0 w1 l :=
  fun q hq b hb => let ⟨a, c⟩ := h q hq b hb; ⟨Nat.le_trans h0 a, Nat.lt_of_lt_of_le c h1⟩
theorem Within.append {α : Type} {w w' : World} {l l' : List (α × Value)} (h : Within w w' l) (h' : Within w w' l') : Within w w' (l ++ l') :=
  fun q hq => by rw [List.mem_append] at hq; exact hq.elim (h q) (h' q)
theorem Sep.append {α : Type} {w0 w w' w'' : World} {l l' : List (α × Value)} (h : Sep l) (h' : Sep l') (hw : Within w0 w l) (hw' : Within w' w'' l') (hs : w.heap.size ≤ w'.heap.size) : Sep (l ++ l') := by
  unfold Sep at *
  rw [List.pairwise_append]
  exact ⟨h, h', fun a ha b hb g hg hg' => by have := (hw a ha g hg).2; have := (hw' b hb g hg').1; omega⟩
theorem Clone_intN_c {B : Nat} {u : Value} {xs : List Int} (w : World) (h : Ints B w u xs) : Calls Tryd.prog 49 #[u] w (RetP (fun v w' => Ints w.heap.size w' v xs ∧ ∀ b, v.ownBlock = some b → w.heap.size ≤ b ∧ b < w'.heap.size) w) := by
  have hlim := h.len
  obtain ⟨A, c, rfl, hA⟩ := h
  have own : ∀ (v' : Value) (w' : World), w'.ownsRow w.heap.size 3 1 v' xs.length (xs.map (Value.int .i64)) → Ints w.heap.size w' v' xs := fun v' w' ho =>
    SlOf.of_own ho (Nat.le_refl _) hlim fun k x cs hx hj => by
      have h0 := hj 0 (by omega)
      obtain ⟨b, o, cs', -, -, -, he⟩ := hA.2.2.2 k x hx
      refine ⟨?_, he.2⟩
      rw [Nat.add_zero, Nat.mul_one] at h0
      rw [Nat.mul_one, h0, List.getElem?_map, hx]; rfl
  have new : ∀ (v' : Value) (w' : World) (n : Nat) (l : List Value), w'.ownsRow w.heap.size 3 1 v' n l → ∀ b, v'.ownBlock = some b → w.heap.size ≤ b ∧ b < w'.heap.size := fun v' w' n l ho b hb => by
    rcases ho.2 with ⟨rfl, -⟩ | ⟨g, cap, cur, rfl, hg, hh, -⟩
    · cases hb
    · simp only [Value.ownBlock, Option.some.injEq] at hb
      subst hb
      exact ⟨hg, Blk.lt (cs := cur) (t := 3) hh⟩
  cases A with
  | none =>
    have hx : xs = [] := by
      cases xs with
      | nil => rfl
      | cons y ys => obtain ⟨b, o, cs, e, -⟩ := hA.2.2.2 0 y rfl; cases e
    subst hx
    refine (Tryd.slices_Clone_int_nil _ _ w).mono ?_
    rintro e w' ⟨rfl, rfl⟩
    exact ⟨_, rfl, ⟨SlOf.nil _ _ _ _ _, fun b hb => by cases hb⟩, Ext.refl _⟩
  | some a =>
    by_cases hx : xs = []
    · subst hx
      refine (Tryd.slices_Clone_int_zero a c w).mono ?_
      rintro e w' ⟨v', rfl, ho, -, hb⟩
      exact ⟨_, rfl, ⟨own v' w' ho, new _ _ _ _ ho⟩, hb⟩
    · have hlen : 0 < xs.length := List.length_pos_iff.2 hx
      obtain ⟨b, o, cs, e, -, hb, -⟩ := hA.2.2.2 0 xs[0] (by simp [hlen])
      simp only [Option.some.injEq] at e
      subst e
      unfold lim at hlim
      refine (Tryd.slices_Clone_int b o xs.length c xs w (Nat.le_refl _) (by omega) fun j hj => ?_).mono ?_
      · obtain ⟨b2, o2, cs2, e2, -, hb2, he2⟩ := hA.2.2.2 j xs[j] (by simp [hj])
        simp only [Option.some.injEq, Addr.mk.injEq, and_true] at e2
        obtain ⟨rfl, rfl⟩ := e2
        rw [hb2.cell]
        have := he2.1
        rw [Nat.mul_one] at this
        rw [this]; simp [List.getD_eq_getElem?_getD, hj]
      · rintro e w' ⟨v', rfl, ho, -, hb'⟩
        rw [List.take_length] at ho
        exact ⟨_, rfl, ⟨own v' w' ho, new _ _ _ _ ho⟩, hb'⟩
theorem eitU_of {B : Nat} {w : World} {x : It} {u : Value} (h1 : x.path.size < lim) (h2 : Ints B w u x.ids) : EItU B w #[.string x.path, .bool x.dir, u] 0 (x, u) := ⟨rfl, h1, rfl, rfl, h2⟩
section
variable {B : Nat} {l : List It} {adr : Key → Nat} {kv : Key → Value}
set_option maxRecDepth 4000 in
set_option maxHeartbeats 2000000 in
theorem listInU_c (hg : Grow l) (hl : l.length ≤ 12) : ∀ (d : Nat) (w : World) (k : Key), TreeAt B w l adr kv → isKey l k → 4 ≤ k.length + d → d ≤ 4 →
    Calls Tryd.prog 52 #[.pointer (some ⟨adr k, 0, none⟩), .string (mkB (startOf k))] w (RetP (fun v w' => ∃ lu, lu.map Prod.fst = flat l d k ∧ OwnS w.heap.size 34 3 (EItU w.heap.size) w' v lu ∧ Sep lu ∧ Within w w' lu) w) := by
  intro d
  induction d with
  | zero =>
    intro w k h hk hd _
    obtain ⟨A, c, hkv, -⟩ := h.kids hk
    obtain ⟨dir, ids, ⟨-, -, u, hb, -⟩, -⟩ := h.node hk
    have hn : (namesOf l k).length = 0 := by unfold namesOf; rw [kids_deep hg (by simpa using hd)]; rfl
    rw [hkv, hn] at hb
    have cc3 := hb.cell 3
    simp at cc3
    clear hkv hb h hk hn hg
    go_enter Tryd.func52, Tryd.ntmps52
    go_wp2
    refine wp_loop_rounds 1 ?_; rw [rounds_succ]
    go_wp2
    go_ret
    exact ⟨_, rfl, ⟨[], rfl, OwnS.nil _ _ _ _ _, List.Pairwise.nil, fun q hq => by simp at hq⟩, Ext.refl w⟩
  | succ d ih =>
    intro w k h hk hd hd4
    have H := Lib.hid h
    have HG := Lib.hid hg
    have Hk := Lib.hid hk
    have IH := Lib.hid ih
    obtain ⟨A, c, hkv, hP⟩ := h.kids hk
    obtain ⟨dir, ids, ⟨hB, hO, u, hb, hu⟩, -⟩ := h.node hk
    rw [hkv] at hb
    have c3 := hb.at_ (i := 3) (u := .slice A (namesOf l k).length c) rfl
    have cc3 := c3 w (Ext.refl w)
    have HP := Lib.hid hP
    have hnl := namesOf_le l k
    have hlen : (namesOf l k).length = (kidsOf l k).length := by simp [namesOf]
    have Hlen := Lib.hid hlen
    clear hkv hb hO hu hP h hg hk ih hlen
    generalize hn : (namesOf l k).length = n at *
    have Hn := Lib.hid hn; clear hn
    go_enter Tryd.func52, Tryd.ntmps52
    go_wp2
    go_loopw [5, 14] (fun v i wr => ∃ (j : Nat) (lu : List (It × Value)), j ≤ n ∧ i = .int .i64 j ∧ Ext w wr ∧ OwnS w.heap.size 34 3 (EItU w.heap.size) wr v lu ∧ Hid (lu.map Prod.fst = ((kidsOf l k).take j).flatMap fun x => x :: flat l d (key x)) ∧ Hid (Sep lu ∧ Within w wr lu)) (fun _ i _ => n - (RowKit.intOf i).toNat)
    case atStart => exact ⟨0, [], by omega, rfl, Ext.refl w, OwnS.nil _ _ _ _ _, Lib.hid rfl, Lib.hid ⟨List.Pairwise.nil, fun q hq => by simp at hq⟩⟩
    case round =>
      obtain ⟨j, L, hj, rfl, he, hO, hLm, hSW⟩ := hrel
      by_cases hlt : j < n
      · obtain ⟨x, hx⟩ := get_of_lt (l := kidsOf l k) (k := j) (by rw [← Hlen.out]; exact hlt)
        have hnm : (namesOf l k)[j]? = some (nameOf (key x)) := by unfold namesOf; rw [List.getElem?_map, hx]; rfl
        obtain ⟨ab, ao, pb, hpb, hAe, h1, h2⟩ := HP.out j _ hnm
        subst hAe
        have hxk : x ∈ kidsOf l k := List.mem_of_getElem? hx
        have hxl := (mem_kids.1 hxk).1
        have hpe : pb = adr (key x) := by
          rw [List.getElem?_map, hx] at hpb; exact (Option.some.inj hpb).symm
        subst hpe
        obtain ⟨-, -, ux, hbx, hux⟩ := H.out.nodes x hxl
        obtain ⟨Ax, cx, rfl, hAx⟩ := hux
        have f1 := fun W (e : Ext wr W) => h1 W (he.trans e)
        have g0 := fun W (e : Ext wr W) => hbx.at_ (i := 0) (u := .string (nameOf (key x))) rfl W (he.trans e)
        have g1 := fun W (e : Ext wr W) => hbx.at_ (i := 1) (u := .bool x.dir) rfl W (he.trans e)
        have g2 := fun W (e : Ext wr W) => hbx.at_ (i := 2) (u := .slice Ax x.ids.length cx) rfl W (he.trans e)
        have HI : Hid (∀ W, Ext wr W → Ints B W (.slice Ax x.ids.length cx) x.ids) := Lib.hid fun W e => Ints.ext ⟨_, _, rfl, hAx⟩ (he.trans e)
        have hcat := kid_path hxk
        have hcat2 := kid_start x
        have Hft := Lib.hid (flat_take (d := d) hx)
        have Hx := Lib.hid hx
        have HO := Lib.hid hO
        have Hkx : Hid (isKey l (key x) ∧ 4 ≤ (key x).length + d) := Lib.hid ⟨.inr ⟨x, hxl, rfl⟩, by rw [name_kid hxk]; simp; omega⟩
        have hp23 := pathOk_len (itemOk_path (HG.out.fits hxl).1)
        have hs1 : (mkB (startOf k)).size + (nameOf (key x)).size = x.path.size := by rw [← hcat]; simp
        have hs2 : ¬ 9223372036854775807 < (mkB (startOf k)).size + (nameOf (key x)).size := by omega
        have hs3 : ¬ 9223372036854775807 < x.path.size + 1 := by omega
        have hps : x.path.size < lim := by unfold lim; omega
        have Hps := Lib.hid hps
        have hlen1 := flat_take_len hl hd4 k j
        have hlen2 := flat_take_len hl hd4 k (j + 1)
        rw [Hft.out] at hlen2
        simp only [List.length_append, List.length_singleton] at hlen2
        have Hl1 := Lib.hid hlen1; have Hl2 := Lib.hid hlen2
        clear h1 h2 hbx hAx hx hnm hpb hxk hxl hO hs1 hps hlen1 hlen2
        have hLl : L.length = (((kidsOf l k).take j).flatMap fun x => x :: flat l d (key x)).length := by rw [← hLm.out, List.length_map]
        rw [← hLl] at Hl1 Hl2
        clear hLl
        have q1 := f1 wr (Ext.refl _)
        have q0 := g0 wr (Ext.refl _)
        go_wp2
        refine wp_region_hold (fun W => W.cell? ⟨adr (key x), 1, none⟩ = some (.bool x.dir) ∧ W.cell? ⟨adr (key x), 2, none⟩ = some (.slice Ax x.ids.length cx)) 13 [(0, true), (1, true), (2, true), (3, true), (4, true), (5, true), (6, true), (7, true), (8, true), (9, true), (10, false), (11, true), (12, false)] (by kernel_rfl) (by kernel_rfl) ?_ ?_
        · exact ⟨g1 _ (Ext.refl _).drew, g2 _ (Ext.refl _).drew⟩
        (repeat (first | (apply hw_read (by rfl) (by rfl); (· (intro W hW; (try dsimp only at hW); go_simp; (first | done | rfl | (rw [if_pos] <;> first | omega | rfl)))); (try simp only [Act.put, List.setIfInBounds_toArray, List.set_cons_zero, List.set_cons_succ])) | (refine hw_skip (by rfl) (by rfl) ?_; (try simp only [Act.put, List.setIfInBounds_toArray, List.set_cons_zero, List.set_cons_succ]))))
        refine hw_step (by rfl) ?_
        go_wp2_with (go_at_call 49; refine (Clone_intN_c (xs := x.ids) _ (HI.out _ (Ext.refl _).drew)).mono ?_; rintro e w4 ⟨u9, rfl, ⟨⟨A9, c9, rfl, hu9⟩, hnw⟩, he9⟩)
        have he5 := (Ext.refl wr).drew.trans he9
        have he6 := he.trans he5
        have he6' := he6
        have Hu9 : Hid (Ints w.heap.size w4 (.slice A9 x.ids.length c9) x.ids) := Lib.hid (Ints.keep ⟨_, _, rfl, hu9⟩ (he.trans (Ext.refl _).drew).size (fun _ _ _ => rfl))
        have HO6 := Lib.hid (HO.out.ext (EItU_ok _) he5)
        have hsz5 : wr.heap.size ≤ wr.drew.heap.size := (Ext.refl wr).drew.size
        have HSW1 : Hid (Sep (L ++ [(x, .slice A9 x.ids.length c9)]) ∧ Within w w4 (L ++ [(x, .slice A9 x.ids.length c9)])) := Lib.hid (by
          have hW1 : Within wr.drew w4 [(x, Value.slice A9 x.ids.length c9)] := fun q hq b hb => by rw [List.mem_singleton] at hq; subst hq; exact hnw b hb
          exact ⟨hSW.out.1.append (List.pairwise_singleton _ _) hSW.out.2 hW1 hsz5, (hSW.out.2.mono (Nat.le_refl _) he5.size).append (hW1.mono (Nat.le_trans he.size hsz5) (Nat.le_refl _))⟩)
        clear he9 hu9 hnw hsz5 hSW
        refine ⟨⟨g1 _ he5, g2 _ he5⟩, ?_⟩
        (repeat (first | (apply hw_read (by rfl) (by rfl); (· (intro W hW; (try dsimp only at hW); go_simp; (first | done | rfl | (rw [if_pos] <;> first | omega | rfl)))); (try simp only [Act.put, List.setIfInBounds_toArray, List.set_cons_zero, List.set_cons_succ])) | (refine hw_skip (by rfl) (by rfl) ?_; (try simp only [Act.put, List.setIfInBounds_toArray, List.set_cons_zero, List.set_cons_succ]))))
        refine hw_step (by rfl) ?_
        go_wp2
        refine ⟨⟨g1 _ (he5.alloc _), g2 _ (he5.alloc _)⟩, ?_⟩
        (refine hw_nil ?_; (try simp only [List.drop_succ_cons, List.drop_zero]))
        go_wp2_with (at_builtin; go_must (refine wp_ap1G (B := w.heap.size) (by rfl) _ _ (by rfl) el_It (EItU_ok _) he6.size _ L [(x, .slice A9 x.ids.length c9)] (by rfl) HO6.out 1 1 rfl #[.string x.path, .bool x.dir, .slice A9 x.ids.length c9] _ (by rfl) (by first | rfl | simp) rfl (one3 rfl) (one_E (eitU_of Hps.out Hu9.out)) ?_ ?_))
        · have := Hl1.out; simp; unfold lim; omega
        · intro v' w' hO' hgr _
          have he' : Ext w w' := OwnS.grown_ext (HO6.out.ext (EItU_ok _) ((Ext.refl _).alloc _)) (he6.alloc _) hgr
          have hz' : Hid (w4.heap.size ≤ w'.heap.size) := Lib.hid (by have := hgr.size; simp at this; omega)
          have HO' := Lib.hid hO'
          clear hgr
          clear hO' f1 g0 g1 g2 q0 q1 he5 he6
          go_wp2
          refine NoPanic.normal ?_
          dsimp only [Exit.then]
          obtain ⟨A', c', rfl⟩ := HO'.out.form
          have HO1 := HO'.out
          rw [show (L ++ [(x, Value.slice A9 x.ids.length c9)]).length = L.length + 1 by simp] at HO1 ⊢
          have HO' := Lib.hid HO1
          clear HO1
          go_wp2_with fail
          refine (IH.out _ (key x) (H.out.ext he') Hkx.out.1 Hkx.out.2 (by omega)).mono ?_
          rintro e w5 ⟨v5, rfl, ⟨lu5, hm5, hO5, hS5, hW5⟩, he7⟩
          have hll5 : lu5.length = (flat l d (key x)).length := by rw [← hm5, List.length_map]
          have hfl := flat_len hl d (key x)
          have hfb := bdF_le (d := d) (by omega)
          have HS5 : Hid (ItsU w.heap.size w5 v5 lu5) := Lib.hid (ItsU.keep (hO5.sl (EItU_ok _) (Nat.le_refl _) (by unfold lim; omega)) (Ext.size he') (fun _ _ _ => rfl))
          have HO7 := Lib.hid (HO'.out.ext (EItU_ok _) he7)
          have HM5 := Lib.hid hm5; have HL5 := Lib.hid hll5; have HQ5 := Lib.hid (And.intro hS5 hW5)
          have he8 := he'.trans he7
          have hz5 : Hid (w'.heap.size ≤ w5.heap.size) := Lib.hid he7.size
          have he4 : Ext w w4 := he6'
          clear hO5 he' he7 hfl hfb hm5 hll5 hS5 hW5
          go_wp2_with (at_builtin; go_must (refine wp_apSG (B := w.heap.size) (by rfl) _ _ (by rfl) el_It (EItU_ok _) he8.size _ v5 (L ++ [(x, .slice A9 x.ids.length c9)]) lu5 (by rfl) HO7.out (by rfl) HS5.out ?_ ?_))
          · have := Hl2.out; have := HL5.out; simp; unfold lim; omega
          · intro v'' w'' hO'' hgr _
            have he'' : Ext w w'' := OwnS.grown_ext HO7.out he8 hgr
            have hz'' := hgr.size
            have HO'' := Lib.hid hO''
            have HSW2 : Hid (Sep (L ++ [(x, .slice A9 x.ids.length c9)] ++ lu5) ∧ Within w w'' (L ++ [(x, .slice A9 x.ids.length c9)] ++ lu5)) := Lib.hid
              ⟨HSW1.out.1.append HQ5.out.1 HSW1.out.2 HQ5.out.2 hz'.out, (HSW1.out.2.mono (Nat.le_refl _) (Nat.le_trans hz'.out (Nat.le_trans hz5.out hz''))).append (HQ5.out.2.mono (Nat.le_trans he4.size hz'.out) hz'')⟩
            clear hO'' he8 hgr hz''
            go_wp2
            go_roundw
            case rel => exact ⟨j + 1, _, by omega, by go_num, he'', HO''.out, Lib.hid (by rw [Hft.out]; simp [hLm.out, HM5.out]), Lib.hid (by simpa using HSW2.out)⟩
            case measure => simp [RowKit.intOf]; omega
      · have hjs : j = n := by omega
        subst hjs
        have e : (kidsOf l k).take j = kidsOf l k := List.take_of_length_le (by rw [Hlen.out]; omega)
        rw [e] at hLm
        have HO := Lib.hid hO
        clear hO e
        obtain ⟨A', c', rfl⟩ := HO.out.form
        go_wp2
        go_ret
        exact ⟨_, rfl, ⟨L, by rw [hLm.out, flat], HO.out, hSW.out.1, hSW.out.2⟩, he⟩
set_option maxHeartbeats 1000000 in
theorem listU_c {w : World} (h : TreeAt B w l adr kv) (hg : Grow l) (hl : l.length ≤ 12) : Calls Tryd.prog 37 #[.pointer (some ⟨adr [], 0, none⟩)] w (RetP (fun v w' => ∃ lu, lu.map Prod.fst = l ∧ ItsU w.heap.size w' v lu ∧ Sep lu ∧ Within w w' lu) w) := by
  have hc := listInU_c hg hl 4 w [] h (.inl rfl) (by simp) (Nat.le_refl _)
  rw [flat_list l hg] at hc
  have HC := Lib.hid (show Calls Tryd.prog 52 #[.pointer (some ⟨adr [], 0, none⟩), .string ⟨#[]⟩] w _ from hc)
  have Hl : Hid (l.length ≤ lim) := Lib.hid (by unfold lim; omega)
  clear hc h hg hl
  go_enter Tryd.func37, Tryd.ntmps37
  go_wp2_with (go_at_call 52; refine HC.out.mono ?_; rintro e w1 ⟨v, rfl, ⟨lu, hm, hO, hS, hW⟩, he⟩)
  go_ret
  exact ⟨_, rfl, ⟨lu, hm, hO.sl (EItU_ok _) (Nat.le_refl _) (by rw [← List.length_map (f := Prod.fst), hm]; exact Hl.out), hS, hW⟩, he⟩
end
end Go.Sf

/-! The program's TreeValid. -/
namespace Go.Sf
open Go Go.RowKit Go.Proofs
end Go.Sf

/-! Arguments that are blocks: how large they are; copies of them. -/
namespace Go.Sf
open Go Go.RowKit Go.Proofs
end Go.Sf
