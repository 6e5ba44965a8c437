/- The reference's copies of trees. -/
import Derived.Test.YtfpkllihfcgmaaaDoorT5
import Derived.Test.YtfpkllihfcgmaaaDoorW5
import Derived.StillTailTactics
namespace Go.Sf
open Go Go.RowKit Go.Proofs
theorem take_succ_get {α : Type} {l : List α} {k : Nat} {x : α} (h : l[k]? = some x) : l.take (k + 1) = l.take k ++ [x] := by
  rw [List.take_add_one, h]; rfl
theorem eit_of_v {B : Nat} {w : World} {x : It} {u : Value} (h1 : x.path.size < lim) (h2 : Ints B w u x.ids) : EIt B w #[.string x.path, .bool x.dir, u] 0 x :=
  ⟨rfl, h1, rfl, u, rfl, h2⟩
theorem one3 {u : Value} {p : ByteArray} {d : Bool} (h : u.oneCell' = true) : ∀ c ∈ (#[.string p, .bool d, u] : Array Value).toList, c.oneCell' = true := by
  intro c hc
  simp at hc
  rcases hc with rfl | rfl | rfl
  · rfl
  · rfl
  · exact h
set_option maxHeartbeats 1000000 in
theorem l5All_c {B : Nat} {v : Value} {l : List It} (w : World) (h : Its B w v l) : Calls Tryd.prog 44 #[v] w (RetP (fun v' w' => OwnS w.heap.size 35 3 (EIt w.heap.size) w' v' l) w) := by
  obtain ⟨A, c, rfl, hA⟩ := h
  have hl := hA.2.2.1
  unfold lim at hl
  generalize hn : l.length = n at *
  have Hn := Lib.hid hn; clear hn
  have HA := Lib.hid hA; clear hA
  go_enter Tryd.func44, Tryd.ntmps44
  go_wp2
  go_loopw [3, 4] (fun v i wr => ∃ k : Nat, k ≤ n ∧ i = .int .i64 k ∧ Ext w wr ∧ OwnS w.heap.size 35 3 (EIt w.heap.size) wr v (l.take k)) (fun _ i _ => n - (intOf i).toNat)
  case atStart => exact ⟨0, by omega, rfl, (Ext.refl w).alloc _, OwnS.lit0 _ _ _ _ (Nat.le_refl _)⟩
  case round =>
    obtain ⟨k, hk, rfl, he, hO⟩ := hrel
    by_cases hlt : k < n
    · obtain ⟨x, hx⟩ := get_of_lt (l := l) (k := k) (by rw [Hn.out]; exact hlt)
      obtain ⟨b, o, u2, rfl, -, -, hps, hu, hc0, hc1, hc2⟩ := Its.at_ HA.out hx
      have a0 := hc0 wr he; have a1 := hc1 wr he; have a2 := hc2 wr he
      have Hx := Lib.hid (take_succ_get hx)
      have HO := Lib.hid hO
      have Hu := Lib.hid hu
      clear hc0 hc1 hc2 hx hO hu
      go_wp2_with (first | (go_at_call 30; refine (l5Copy_c (x := x) _ ⟨u2, rfl, hps, Hu.out.ext he⟩).mono ?_; rintro e w2 ⟨v2, rfl, ⟨u9, rfl, hps', hu'⟩, he2⟩; have he3 := he.trans he2; have HO2 := Lib.hid (HO.out.ext (EIt_ok _) he2); have Hu2 := Lib.hid (hu'.keep (Ext.size he) (fun _ _ _ => rfl)); clear hu' a0 a1 a2) | (at_builtin; go_must (refine wp_ap1 (w0 := w) (by rfl) _ _ (by rfl) el_It (EIt_ok _) he3 _ (l.take k) [x] (by rfl) HO2.out 1 1 rfl #[.string x.path, .bool x.dir, u9] _ (by rfl) (by first | rfl | simp) rfl (one3 Hu2.out.one) (one_E (eit_of_v hps Hu2.out)) ?_ ?_)))
      · simp; unfold lim; omega
      · intro v' w' hO' he' _
        have HO' := Lib.hid hO'
        clear hO' he he2 he3
        go_wp2
        go_roundw
        case rel => exact ⟨k + 1, by omega, by go_num, he', by rw [Hx.out]; exact HO'.out⟩
        case measure => simp [intOf]; omega
    · have hks : k = n := by omega
      subst hks
      have HO := Lib.hid hO; clear hO
      go_wp2
      go_ret
      have := HO.out
      rw [List.take_of_length_le (by rw [Hn.out]; omega)] at this
      exact ⟨_, rfl, this, he⟩

/-- a tree without an item -/
noncomputable def treeDrop (l : List It) (p : ByteArray) : Option (List It) :=
  if treeOk l = true ∧ 0 ≤ atPath l p ∧ treeOk (l.eraseIdx (atPath l p).toNat) = true then some (l.eraseIdx (atPath l p).toNat) else none
/-- a tree and whether there is one -/
def OptIts (B : Nat) (o : Option (List It)) (r : Value) (w : World) : Prop := ∃ v, r = .tuple #[v, .bool o.isSome] ∧ Its B w v (o.getD [])
theorem OptIts.none_ {B g : Nat} {w : World} {o : Option (List It)} (h : o = none) : OptIts B o (.tuple #[.slice (some ⟨g, 0, none⟩) 0 0, .bool false]) w := by
  subst h; exact ⟨_, rfl, SlOf.empty _ _ _ _ _ _ _ (Nat.zero_le _) (fun _ => rfl)⟩
set_option maxRecDepth 4000 in
set_option maxHeartbeats 1000000 in
theorem specTreeDrop_c {B : Nat} {v : Value} {l : List It} (p : ByteArray) (w : World) (h : Its B w v l) :
    Calls Tryd.prog 45 #[v, .string p] w (RetP (OptIts w.heap.size (treeDrop l p)) w) := by
  have H := Lib.hid h
  have hl := h.len
  cases ht : treeOk l with
  | false =>
    have hd : treeDrop l p = none := by simp [treeDrop, ht]
    have Ct : ∀ W, Ext w W → Calls Tryd.prog 29 #[v] W (Ret (.bool false) W) := fun W e => by rw [← ht]; exact specTreeValid_c W (H.out.ext e)
    have Hd := Lib.hid hd; clear hd ht h
    go_enter Tryd.func45, Tryd.ntmps45
    go_wp2_with (first | (go_at_call 58; refine (l5At_c p _ H.out).mono ?_; rintro e w1 ⟨rfl, he1⟩) | (go_at_call 29; refine (Ct _ he1).mono ?_; rintro e w2 ⟨rfl, he2⟩))
    go_ret2
    exact ⟨_, rfl, OptIts.none_ Hd.out, (he1.trans he2).alloc _⟩
  | true =>
    have Ct : ∀ W, Ext w W → Calls Tryd.prog 29 #[v] W (Ret (.bool true) W) := fun W e => by rw [← ht]; exact specTreeValid_c W (H.out.ext e)
    rcases atG_find (pathIs p) l 0 with ⟨h1, h2⟩ | ⟨i, x, h1, h2, h3, h4, -⟩
    · have hd : treeDrop l p = none := by simp [treeDrop, atPath, h2]
      have Ca : ∀ W, Ext w W → Calls Tryd.prog 58 #[v, .string p] W (Ret (.int .i64 (-1)) W) := fun W e => by rw [← h2]; exact l5At_c p W (H.out.ext e)
      have Hd := Lib.hid hd; clear hd ht h h1 h2
      go_enter Tryd.func45, Tryd.ntmps45
      go_wp2_with (first | (go_at_call 58; refine (Ca _ (Ext.refl _)).mono ?_; rintro e w1 ⟨rfl, he1⟩) | (go_at_call 29; refine (Ct _ he1).mono ?_; rintro e w2 ⟨rfl, he2⟩))
      go_ret2
      exact ⟨_, rfl, OptIts.none_ Hd.out, (he1.trans he2).alloc _⟩
    · have Ca : ∀ W, Ext w W → Calls Tryd.prog 58 #[v, .string p] W (Ret (.int .i64 (i : Int)) W) := fun W e => by
        have := l5At_c p W (H.out.ext e); rw [atPath, h4] at this; simpa using this
      have hil := lt_of_get h1
      have hat : atPath l p = (i : Int) := by rw [atPath, h4]; simp
      have Hd : Hid (treeDrop l p = if treeOk (l.eraseIdx i) = true then some (l.eraseIdx i) else none) := Lib.hid (by simp [treeDrop, hat, ht])
      clear ht h h1 h2 h3 h4 hat
      unfold lim at hl
      go_enter Tryd.func45, Tryd.ntmps45
      go_wp2_with (first | (go_at_call 58; refine (Ca _ (Ext.refl _)).mono ?_; rintro e w1 ⟨rfl, he1⟩) | (go_at_call 29; refine (Ct _ he1).mono ?_; rintro e w2 ⟨rfl, he2⟩; have he3 := he1.trans he2; clear he2) | (go_at_call 44; refine (l5All_c _ (H.out.ext he3)).mono ?_; rintro e w3 ⟨v2, rfl, hO, he4⟩))
      obtain ⟨g, c, rfl, hg, hnc, hcm⟩ := hO.formP (by omega)
      have HO := Lib.hid hO; clear hO
      have hw1 : IntKind.i64.wrap ((i : Int) + 1) = (i : Int) + 1 := IntWalk.i64_in _ (by omega)
      have hp1 : (0 : Int) ≤ (i : Int) + 1 := by omega
      have hn1 : ((i : Int) + 1).toNat = i + 1 := by omega
      have hle : i + 1 ≤ l.length := hil
      have hle' : (i : Int) + 1 ≤ (l.length : Int) := by omega
      have hic : i ≤ c := by omega
      have HF : Hid (l.length ≤ c ∧ l.length ≤ 4194304) := Lib.hid ⟨hnc, hl⟩
      clear hcm hnc hl
      refine wp_region_still_tail 7 (by kernel_rfl) (by kernel_rfl) ?_
      simp only [List.take_succ_cons, List.take_zero, List.drop_succ_cons, List.drop_zero]
      repeat still_step
      refine wpStill_nil ?_
      refine wp_del (w0 := w2) rfl _ _ rfl el_It (EIt_ok _) (he4.drew) g c i l hil (HO.out.ext (EIt_ok _) (Ext.refl _).drew) (by rfl) (if c = i + 1 then ⟨g, 0, none⟩ else ⟨g, (i + 1) * 3, none⟩) (c - (i + 1)) ?_ ?_ ?_
      · show Value.slice _ _ _ = _
        congr 1
        split <;> simp [*]
      · intro hlt
        have := HF.out
        rw [if_neg (by omega)]
      · intro w5 hO5 he5 hk5
        have HI : Hid (Its w2.heap.size w5 (.slice (some ⟨g, 0, none⟩) (l.length - 1) c) (l.eraseIdx i)) := Lib.hid (hO5.sl (EIt_ok _) (Nat.le_refl _) (by have := HF.out; rw [List.length_eraseIdx, if_pos hil]; unfold lim; omega))
        have he6 : Ext w w5 := he3.trans he5
        clear hO5 hk5 HO hw1 hp1 hn1 hle hle' hic HF
        have hee : Ext w5 w5 := Ext.refl _
        cases hv : treeOk (l.eraseIdx i) with
        | false =>
          have Cv : ∀ W, Ext w5 W → Calls Tryd.prog 29 #[.slice (some ⟨g, 0, none⟩) (l.length - 1) c] W (Ret (.bool false) W) := fun W e => by rw [← hv]; exact specTreeValid_c _ (HI.out.ext e)
          have hd : treeDrop l p = none := by rw [Hd.out, hv]; rfl
          have Hd' := Lib.hid hd
          clear hd hv Hd
          go_wp2_with (first | (go_at_call 29; refine (Cv _ hee).mono ?_; rintro e w7 ⟨rfl, he7⟩))
          all_goals
            go_ret2
            exact ⟨_, rfl, OptIts.none_ Hd'.out, (he6.trans he7).alloc _⟩
        | true =>
          have Cv : ∀ W, Ext w5 W → Calls Tryd.prog 29 #[.slice (some ⟨g, 0, none⟩) (l.length - 1) c] W (Ret (.bool true) W) := fun W e => by rw [← hv]; exact specTreeValid_c _ (HI.out.ext e)
          have hd : treeDrop l p = some (l.eraseIdx i) := by rw [Hd.out, hv]; rfl
          have Hd' := Lib.hid hd
          clear hd hv Hd
          go_wp2_with (first | (go_at_call 29; refine (Cv _ hee).mono ?_; rintro e w7 ⟨rfl, he7⟩))
          all_goals
            go_ret2
            refine ⟨_, rfl, ?_, he6.trans he7⟩
            rw [Hd'.out]
            have HI' := (HI.out.ext he7).keep (Ext.size he3) (fun _ _ _ => rfl)
            first
              | exact ⟨.slice (some ⟨g, 0, none⟩) (l.length - 1) c, rfl, HI'⟩
              | exact ⟨.slice (some ⟨g, 0, none⟩) (l.length - 1) (i + 1), rfl, by rw [← ‹c = i + 1›]; exact HI'⟩
end Go.Sf
