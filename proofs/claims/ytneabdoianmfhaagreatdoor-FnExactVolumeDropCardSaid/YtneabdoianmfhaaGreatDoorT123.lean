/- The reference drops a block, and frees a file. -/
import Derived.Test.YtneabdoianmfhaaGreatDoorT122
import Derived.Test.YtneabdoianmfhaaGreatDoorP24
namespace Go.Sf
open Go Go.RowKit Go.Proofs
/-- how often a block is used is written -/
theorem OwnS.setUses {base B : Nat} {w : World} {v : Value} {l : List Hd} (h : OwnS base 84 3 (EHd B) w v l) {k : Nat} {x : Hd} (hx : l[k]? = some x) :
    ∃ g c, v = .slice (some ⟨g, 0, none⟩) l.length c ∧ l.length ≤ c ∧ base ≤ g ∧ w.cell? ⟨g, k * 3 + 2, none⟩ = some (.int .i64 x.uses) ∧ w.frozen? ⟨g, k * 3 + 2, none⟩ = false ∧
      ∀ y, inI y → OwnS base 84 3 (EHd B) (w.setCell ⟨g, k * 3 + 2, none⟩ (.int .i64 y)) v (l.set k { x with uses := y }) := by
  obtain ⟨xs, ⟨h1, h2⟩, h3⟩ := h
  have hk := lt_of_get hx
  rcases h2 with ⟨rfl, hn⟩ | ⟨g, cap, cur, rfl, hg, hh, hnc, hcm, hcs, htk⟩
  · rw [hn] at hk; omega
  · have hb : Blk w g 84 cur := hh
    have hc0 : cur[k * 3 + 2]? = xs[k * 3 + 2]? := by rw [← htk, List.getElem?_take_of_lt (by omega), Array.getElem?_toList]
    have he := h3 k x hx
    refine ⟨g, cap, rfl, hnc, hg, ?_, hb.frozen _, fun y hy => ⟨xs.set (k * 3 + 2) (.int .i64 y), ⟨by simpa using h1, .inr ⟨g, cap, cur.setIfInBounds (k * 3 + 2) (.int .i64 y), ?_, hg, hb.set_ _ _, ?_, hcm, ?_, ?_⟩⟩, fun j z hz => ?_⟩⟩
    · rw [hb.cell, hc0]
      have := he.2.2.2.1
      rw [List.getElem?_toArray] at this
      exact this
    · rw [List.length_set]
    · rw [List.length_set]; exact hnc
    · simpa using hcs
    · rw [List.length_set, Array.toList_setIfInBounds, List.take_set, htk]
    · have hK : KeepsT 84 w (w.setCell ⟨g, k * 3 + 2, none⟩ (.int .i64 y)) := KeepsT.set (i := k * 3 + 2) hb (.int .i64 y) rfl
      rw [List.getElem?_set] at hz
      split at hz
      · next e =>
        subst e
        cases hz
        obtain ⟨q0, q1, ⟨u, q2, q3⟩, q4, q5⟩ := he
        rw [List.getElem?_toArray] at q0 q2 q4
        refine ⟨?_, q1, ⟨u, ?_, q3.keepT hK (by decide)⟩, ?_, hy⟩
        · rw [List.getElem?_toArray, List.getElem?_set_ne (by omega)]; exact q0
        · rw [List.getElem?_toArray, List.getElem?_set_ne (by omega)]; exact q2
        · rw [List.getElem?_toArray, List.getElem?_set_self (by omega)]
      · next e =>
        obtain ⟨q0, q1, ⟨u, q2, q3⟩, q4, q5⟩ := h3 j z hz
        rw [List.getElem?_toArray] at q0 q2 q4
        refine ⟨?_, q1, ⟨u, ?_, q3.keepT hK (by decide)⟩, ?_, q5⟩
        · rw [List.getElem?_toArray, List.getElem?_set_ne (by omega)]; exact q0
        · rw [List.getElem?_toArray, List.getElem?_set_ne (by omega)]; exact q2
        · rw [List.getElem?_toArray, List.getElem?_set_ne (by omega)]; exact q4
noncomputable def dropId (l : List Hd) (i : Int) : Option (List Hd) := if storeOk l = true ∧ 0 ≤ hAt l i then some (dropAt l (hAt l i).toNat) else none
/-- a store of the call's own and whether there is one -/
def OptHds (B : Nat) (o : Option (List Hd)) (r : Value) (w : World) : Prop := ∃ v, r = .tuple #[v, .bool o.isSome] ∧ OwnS B 84 3 (EHd B) w v (o.getD [])
theorem OptHds.none_ {B : Nat} {w : World} {o : Option (List Hd)} (hB : B ≤ w.heap.size) (h : o = none) : OptHds B o (.tuple #[.slice (some ⟨w.heap.size, 0, none⟩) 0 0, .bool false]) (w.alloc (.cells #[] 84)) := by
  subst h; exact ⟨_, rfl, OwnS.lit0 _ _ _ _ hB⟩
set_option maxRecDepth 4000 in
set_option maxHeartbeats 2000000 in
theorem StoreDrop_c {B : Nat} {v : Value} {l : List Hd} (p : Int) (w : World) (h : Hds B w v l) :
    Calls Tryz.prog 160 #[v, .int .i64 p] w (RetP (OptHds w.heap.size (dropId l p)) w) := by
  have H := Lib.hid h
  have hl := h.len
  cases ht : storeOk l with
  | false =>
    have hd : dropId l p = none := by simp [dropId, ht]
    have Ct : ∀ W, Ext w W → Calls Tryz.prog 111 #[v] W (Ret (.bool false) W) := fun W e => by rw [← ht]; exact specStoreValid_c W (H.out.ext e)
    have Hd := Lib.hid hd; clear hd ht h
    go_enter Tryz.func160, Tryz.ntmps160
    go_wp2_with (first | (go_at_call 142; refine (l3At_c p _ H.out).mono ?_; rintro e w1 ⟨rfl, he1⟩) | (go_at_call 111; refine (Ct _ he1).mono ?_; rintro e w2 ⟨rfl, he2⟩))
    go_ret2
    exact ⟨_, rfl, OptHds.none_ (he1.trans he2).size Hd.out, (he1.trans he2).alloc _⟩
  | true =>
    have Ct : ∀ W, Ext w W → Calls Tryz.prog 111 #[v] W (Ret (.bool true) W) := fun W e => by rw [← ht]; exact specStoreValid_c W (H.out.ext e)
    rcases atG_find (idIs p) l 0 with ⟨h1, h2⟩ | ⟨i, x, h1, h2, h3, h4, -⟩
    · have hd : dropId l p = none := by simp [dropId, hAt, h2]
      have Ca : ∀ W, Ext w W → Calls Tryz.prog 142 #[v, .int .i64 p] W (Ret (.int .i64 (-1)) W) := fun W e => by rw [← h2]; exact l3At_c p W (H.out.ext e)
      have Hd := Lib.hid hd; clear hd ht h h1 h2
      go_enter Tryz.func160, Tryz.ntmps160
      go_wp2_with (first | (go_at_call 142; refine (Ca _ (Ext.refl _)).mono ?_; rintro e w1 ⟨rfl, he1⟩) | (go_at_call 111; refine (Ct _ he1).mono ?_; rintro e w2 ⟨rfl, he2⟩))
      go_ret2
      exact ⟨_, rfl, OptHds.none_ (he1.trans he2).size Hd.out, (he1.trans he2).alloc _⟩
    · have Ca : ∀ W, Ext w W → Calls Tryz.prog 142 #[v, .int .i64 p] W (Ret (.int .i64 (i : Int)) W) := fun W e => by
        have := l3At_c p W (H.out.ext e); rw [hAt, h4] at this; simpa using this
      have hil := lt_of_get h1
      have hat : hAt l p = (i : Int) := by rw [hAt, h4]; simp
      have hok := (hd_ok ((storeOk_iff.1 ht).2 i x h1).1).2.2
      have h16 := (storeOk_iff.1 ht).1
      have Hd : Hid (dropId l p = some (if x.uses = 1 then l.eraseIdx i else l.set i { x with uses := x.uses - 1 })) := Lib.hid (by
        unfold dropId dropAt
        rw [if_pos ⟨ht, by rw [hat]; omega⟩, hat, Int.toNat_natCast, h1])
      have Hx := Lib.hid h1
      clear ht h h1 h2 h3 h4 hat
      unfold lim at hl
      by_cases hu1 : x.uses = 1
      · rw [hu1] at Hd
        rw [if_pos rfl] at Hd
        go_enter Tryz.func160, Tryz.ntmps160
        go_wp2_with (first | (go_at_call 142; refine (Ca _ (Ext.refl _)).mono ?_; rintro e w1 ⟨rfl, he1⟩) | (go_at_call 111; refine (Ct _ he1).mono ?_; rintro e w2 ⟨rfl, he2⟩; have he3 := he1.trans he2; clear he2) | (go_at_call 98; refine (l3Copy_c _ (H.out.ext he3)).mono ?_; rintro e w3 ⟨v2, rfl, hO, he4⟩; obtain ⟨g, c, rfl, hnc, hg, hq0, -, -⟩ := hO.setUses Hx.out; rw [hu1] at hq0))
        have HO := Lib.hid hO; clear hO
        have hw1 : IntKind.i64.wrap ((i : Int) + 1) = (i : Int) + 1 := IntWalk.i64_in _ (by omega)
        have hp1 : (0 : Int) ≤ (i : Int) + 1 := by omega
        have hn1 : ((i : Int) + 1).toNat = i + 1 := by omega
        have hle : i + 1 ≤ l.length := hil
        have hle' : (i : Int) + 1 ≤ (l.length : Int) := by omega
        have hic : i ≤ c := by omega
        have HF : Hid (l.length ≤ c ∧ l.length ≤ 4194304) := Lib.hid ⟨hnc, hl⟩
        clear hnc hl h16 hok hq0
        refine wp_region_still_tail 7 (by kernel_rfl) (by kernel_rfl) ?_
        simp only [List.take_succ_cons, List.take_zero, List.drop_succ_cons, List.drop_zero]
        repeat still_step
        refine wpStill_nil ?_
        refine wp_del (w0 := w2) rfl _ _ rfl el_Hd (EHd_ok _) (he4.drew) g c i l hil (HO.out.ext (EHd_ok _) (Ext.refl _).drew) (by rfl) (if c = i + 1 then ⟨g, 0, none⟩ else ⟨g, (i + 1) * 3, none⟩) (c - (i + 1)) ?_ ?_ ?_
        · show Value.slice _ _ _ = _
          congr 1
          split <;> simp [*]
        · intro hlt
          have := HF.out
          rw [if_neg (by omega)]
        · intro w5 hO5 he5 hk5
          have he6 : Ext w w5 := he3.trans he5
          have hee : Ext w5 w5 := Ext.refl _
          have hle2 : (l.eraseIdx i).length = l.length - 1 := by rw [List.length_eraseIdx, if_pos hil]
          have HO5 := Lib.hid (hO5.weak he3.size fun _ _ _ gg => gg.keep he3.size (fun _ _ _ => rfl))
          clear hO5 hk5 HO hw1 hp1 hn1 hle hle' hic
          go_wp2
          all_goals
            go_ret2
            refine ⟨_, rfl, ?_, he6⟩
            rw [Hd.out]
            first
              | exact ⟨.slice (some ⟨g, 0, none⟩) (l.length - 1) c, rfl, by simpa using HO5.out⟩
              | exact ⟨.slice (some ⟨g, 0, none⟩) (l.length - 1) (i + 1), rfl, by rw [← ‹c = i + 1›]; simpa using HO5.out⟩
      · have hb1 : (x.uses == 1) = false := by simp [hu1]
        rw [if_neg hu1] at Hd
        have hwr : IntKind.i64.wrap (x.uses - 1) = x.uses - 1 := IntWalk.i64_in _ (by omega)
        have hin : inI (x.uses - 1) := by unfold inI; omega
        go_enter Tryz.func160, Tryz.ntmps160
        go_wp2_with (first | (go_at_call 142; refine (Ca _ (Ext.refl _)).mono ?_; rintro e w1 ⟨rfl, he1⟩) | (go_at_call 111; refine (Ct _ he1).mono ?_; rintro e w2 ⟨rfl, he2⟩; have he3 := he1.trans he2; clear he2) | (go_at_call 98; refine (l3Copy_c _ (H.out.ext he3)).mono ?_; rintro e w3 ⟨v2, rfl, hO, he4⟩; obtain ⟨g, c, rfl, hnc, hg, hq0, hq1, hq⟩ := hO.setUses Hx.out; have HO := Lib.hid (hq _ hin); clear hq hO))
        go_ret2
        refine ⟨_, rfl, ?_, (he3.trans he4).setCell (p := ⟨g, i * 3 + 2, none⟩) (by have := he3.size; show _ ≤ g; omega) _⟩
        rw [Hd.out]
        exact ⟨_, rfl, HO.out.weak he3.size fun _ _ _ gg => gg.keep he3.size (fun _ _ _ => rfl)⟩
end Go.Sf
