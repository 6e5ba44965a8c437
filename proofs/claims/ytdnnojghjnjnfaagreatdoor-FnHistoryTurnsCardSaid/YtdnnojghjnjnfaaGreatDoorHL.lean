/- What holds of the bytes of directories, of quotas, of histories: plain. -/
import Derived.Test.YtdnnojghjnjnfaaGreatDoorHK
import Derived.Test.YtdnnojghjnjnfaaGreatDoorHJ
import Derived.Test.YtdnnojghjnjnfaaGreatDoorHI
import Derived.Test.YtdnnojghjnjnfaaGreatDoorHD
/-! What holds of the bytes of directories, of quotas, of histories: plain. -/
namespace Go.Sf
open Go Go.RowKit
/-! ### bytes of directories -/
theorem within_all (p : ByteArray) : within p ⟨#[]⟩ = true := by unfold within; simp [bl]
theorem sum_mono {α : Type} {f g : α → Nat} {l : List α} (h : ∀ x, x ∈ l → f x ≤ g x) : (l.map f).sum ≤ (l.map g).sum := by
  induction l with
  | nil => exact Nat.le_refl _
  | cons a l ih =>
    have h1 := h a List.mem_cons_self
    have h2 := ih fun x hx => h x (List.mem_cons_of_mem _ hx)
    rw [List.map_cons, List.sum_cons, List.map_cons, List.sum_cons]
    omega
theorem used_all (s : List Hd) (t : List It) (d : ByteArray) : usedT s t d ≤ usedT s t ⟨#[]⟩ := by
  unfold usedT
  refine sum_mono fun x _ => ?_
  unfold useOf
  rw [if_pos (within_all _)]
  split
  · exact Nat.le_refl _
  · exact Nat.zero_le _
theorem sum_zero {α : Type} (l : List α) : (l.map fun _ => 0).sum = 0 := by
  induction l with
  | nil => rfl
  | cons a l ih => rw [List.map_cons, List.sum_cons, ih]
theorem sum_plus {α : Type} (l : List α) (f g : α → Nat) : (l.map fun h => f h + g h).sum = (l.map f).sum + (l.map g).sum := by
  induction l with
  | nil => rfl
  | cons x s ih => simp only [List.map_cons, List.sum_cons, ih]; omega
theorem sum_swap {α β : Type} (a : List α) (b : List β) (f : α → β → Nat) : (a.map fun x => (b.map fun y => f x y).sum).sum = (b.map fun y => (a.map fun x => f x y).sum).sum := by
  induction a with
  | nil => simp [sum_zero]
  | cons x a ih => simp only [List.map_cons, List.sum_cons, ih]; rw [← sum_plus]
theorem sum_none {α : Type} {l : List α} {P : α → Bool} {c : Nat} (h : ∀ a, a ∈ l → P a = false) : (l.map fun a => if P a = true then c else 0).sum = 0 := by
  induction l with
  | nil => rfl
  | cons x l ih =>
    rw [List.map_cons, List.sum_cons, if_neg (by rw [h x List.mem_cons_self]; simp), ih fun y hy => h y (List.mem_cons_of_mem _ hy)]
theorem sum_one {α : Type} {l : List α} {P : α → Bool} {c : Nat} (hp : l.Pairwise fun a b => ¬ (P a = true ∧ P b = true)) (h : ∃ a, a ∈ l ∧ P a = true) : (l.map fun a => if P a = true then c else 0).sum = c := by
  induction l with
  | nil => obtain ⟨a, ha, -⟩ := h; cases ha
  | cons x l ih =>
    rw [List.pairwise_cons] at hp
    rw [List.map_cons, List.sum_cons]
    by_cases e : P x = true
    · rw [if_pos e, sum_none fun y hy => bool_false fun q => hp.1 y hy ⟨e, q⟩]; rfl
    · obtain ⟨y, hy, hyi⟩ := h
      rcases List.mem_cons.1 hy with rfl | hy
      · exact absurd hyi e
      · rw [if_neg e, ih hp.2 ⟨y, hy, hyi⟩, Nat.zero_add]
/-- bytes of directories add up -/
theorem used_parts (s : List Hd) {t : List It} (ht : treeOk t = true) : ((kidsOf t []).map fun y => usedT s t y.path).sum = usedT s t ⟨#[]⟩ := by
  obtain ⟨-, hs, hf⟩ := tree_set.1 ht
  have hg := (treeOk_iff'.1 ht).2
  unfold usedT
  rw [sum_swap]
  congr 1
  refine List.map_congr_left fun x hx => ?_
  unfold useOf
  rw [if_pos (within_all _)]
  have one : ∀ y, y ∈ kidsOf t [] → ∃ n, key y = [n] := fun y hy => by
    have h1 := (mem_kids.1 hy).2
    have h2 := key_last (x := y)
    rw [h1, List.nil_append] at h2
    exact ⟨_, h2⟩
  have pk : ∀ y, y ∈ kidsOf t [] → (within x.path y.path = true ↔ key y <+: key x) := fun y hy => within_key (tree_path ht (mem_kids.1 hy).1)
  refine sum_one (P := fun y : It => within x.path y.path) ?_ ?_
  · have hk : (kidsOf t []).Pairwise fun a b => blt a.path b.path = true := hs.filter _
    refine hk.imp_of_mem fun {a b} ha hb hab hh => ?_
    obtain ⟨m, hm⟩ := one a ha
    obtain ⟨n, hn⟩ := one b hb
    obtain ⟨q1, e1⟩ := (pk a ha).1 hh.1
    obtain ⟨q2, e2⟩ := (pk b hb).1 hh.2
    rw [hm] at e1
    rw [hn, ← e1] at e2
    have : n = m := by simpa using (List.cons.inj e2).1
    subst this
    rw [key_path (hm.trans hn.symm), blt_irr] at hab
    cases hab
  · cases hkx : key x with
    | nil => exact absurd hkx (key_ne x)
    | cons n r =>
      rcases hg.prefix_ (key x) (.inr ⟨x, hx, rfl⟩) [n] ⟨r, by rw [hkx]; rfl⟩ with h0 | ⟨z, hz, hk⟩
      · cases h0
      · have hzk : z ∈ kidsOf t [] := mem_kids.2 ⟨hz, by rw [hk]; rfl⟩
        exact ⟨z, hzk, (pk z hzk).2 (by rw [hk, hkx]; exact ⟨r, rfl⟩)⟩
theorem quota_dir {s : List Hd} {t : List It} {l : List Sn} {d : ByteArray} (h : 0 ≤ quotaU s t l d) : diskOk s t l = true ∧ dirOk d = true ∧ quotaU s t l d = (usedT s t d : Nat) := by
  unfold quotaU at h ⊢
  split at h
  · next hc => exact ⟨hc.1, hc.2, if_pos hc⟩
  · omega
theorem quota_of {s : List Hd} {t : List It} {l : List Sn} {d : ByteArray} (h1 : diskOk s t l = true) (h2 : dirOk d = true) : quotaU s t l d = (usedT s t d : Nat) := by
  unfold quotaU; rw [if_pos ⟨h1, h2⟩]
theorem dirOk_nil : dirOk ⟨#[]⟩ = true := by unfold dirOk; rw [eqb_true.2 rfl]; rfl
theorem dirOk_path {p : ByteArray} (h : pathOk p = true) : dirOk p = true := by unfold dirOk; rw [h, Bool.or_true]
/-! ### quotas -/
/-! ### histories -/
/-- new and gone take turns -/
def alt : Bool → List Tn → Bool
  | _, [] => true
  | b, x :: r => (!eqb (decide (x.kind = 1)) b) && alt (!decide (x.kind = 2)) r
theorem turnK_kinds (a b : Option It) : (turnK a b = 0 ∧ a.isSome = b.isSome) ∨ (turnK a b = 1 ∧ a.isSome = false ∧ b.isSome = true) ∨ (turnK a b = 2 ∧ a.isSome = true ∧ b.isSome = false) ∨ (turnK a b = 3 ∧ a.isSome = true ∧ b.isSome = true) := by
  cases a with
  | none => cases b with
    | none => exact .inl ⟨rfl, rfl⟩
    | some y => exact .inr (.inl ⟨rfl, rfl, rfl⟩)
  | some x => cases b with
    | none => exact .inr (.inr (.inl ⟨rfl, rfl, rfl⟩))
    | some y =>
      have e : turnK (some x) (some y) = 0 ∨ turnK (some x) (some y) = 3 := by
        unfold turnK
        simp only
        split
        · exact .inl rfl
        · exact .inr rfl
      rcases e with e | e
      · exact .inl ⟨e, rfl⟩
      · exact .inr (.inr (.inr ⟨e, rfl, rfl⟩))
theorem alt_turns (p : ByteArray) : ∀ (l : List Sn) (a : Option It), alt a.isSome (turnsL p a l) = true := by
  intro l
  induction l with
  | nil => intro a; rfl
  | cons x l ih =>
    intro a
    unfold turnsL
    have h := ih (findIt x.tree p)
    rcases turnK_kinds a (findIt x.tree p) with ⟨k, e⟩ | ⟨k, e1, e2⟩ | ⟨k, e1, e2⟩ | ⟨k, e1, e2⟩
    · rw [if_pos k, List.nil_append, e]; exact h
    · rw [e2] at h
      rw [k, e1, if_neg (by decide)]
      show (_ && alt _ _) = true
      exact h
    · rw [e2] at h
      rw [k, e1, if_neg (by decide)]
      show (_ && alt _ _) = true
      exact h
    · rw [e2] at h
      rw [k, e1, if_neg (by decide)]
      show (_ && alt _ _) = true
      exact h
theorem turns_kind (p : ByteArray) : ∀ (l : List Sn) (a : Option It), ∀ x, x ∈ turnsL p a l → x.kind = 1 ∨ x.kind = 2 ∨ x.kind = 3 := by
  intro l
  induction l with
  | nil => intro a x hx; cases hx
  | cons y l ih =>
    intro a x hx
    unfold turnsL at hx
    rw [List.mem_append] at hx
    rcases hx with hx | hx
    · split at hx
      · cases hx
      · next hne =>
        rw [List.mem_singleton] at hx
        subst hx
        rcases turnK_kinds a (findIt y.tree p) with ⟨k, -⟩ | ⟨k, -⟩ | ⟨k, -⟩ | ⟨k, -⟩
        · exact absurd k hne
        · exact .inl k
        · exact .inr (.inl k)
        · exact .inr (.inr k)
    · exact ih _ x hx
/-- what the last turn leaves -/
theorem turns_last (p : ByteArray) : ∀ (l : List Sn) (a : Option It) (y : Sn), l.getLast? = some y →
    (findIt y.tree p).isSome = (match (turnsL p a l).getLast? with | some x => !decide (x.kind = 2) | none => a.isSome) := by
  intro l
  induction l with
  | nil => intro a y h; cases h
  | cons x l ih =>
    intro a y h
    have hk := turnK_kinds a (findIt x.tree p)
    cases l with
    | nil =>
      simp only [List.getLast?_singleton, Option.some.injEq] at h
      subst h
      unfold turnsL
      rcases hk with ⟨k, e⟩ | ⟨k, e1, e2⟩ | ⟨k, e1, e2⟩ | ⟨k, e1, e2⟩
      · rw [if_pos k]; simp [turnsL, e]
      · rw [k, if_neg (by decide)]; simp [turnsL, e2]
      · rw [k, if_neg (by decide)]; simp [turnsL, e2]
      · rw [k, if_neg (by decide)]; simp [turnsL, e2]
    | cons z r =>
      have h' : (z :: r).getLast? = some y := by simpa using h
      have hi := ih (findIt x.tree p) y h'
      rw [hi, show turnsL p a (x :: z :: r) = (if turnK a (findIt x.tree p) = 0 then [] else [⟨x.name, turnK a (findIt x.tree p)⟩]) ++ turnsL p (findIt x.tree p) (z :: r) from rfl]
      generalize turnsL p (findIt x.tree p) (z :: r) = T
      cases hT : T.getLast? with
      | some q => rw [List.getLast?_append, hT]; rfl
      | none =>
        rw [List.getLast?_append, hT]
        rcases hk with ⟨k, e⟩ | ⟨k, e1, e2⟩ | ⟨k, e1, e2⟩ | ⟨k, e1, e2⟩
        · rw [if_pos k]; simp [e]
        · rw [k, if_neg (by decide)]; simp [e2]
        · rw [k, if_neg (by decide)]; simp [e2]
        · rw [k, if_neg (by decide)]; simp [e2]
theorem turns_first (p : ByteArray) : ∀ (l : List Sn) (x : Tn), (turnsL p none l)[0]? = some x → x.kind = 1 := by
  intro l x h
  have := alt_turns p l none
  cases hl : turnsL p none l with
  | nil => rw [hl] at h; cases h
  | cons y r =>
    rw [hl] at h this
    simp only [List.getElem?_cons_zero, Option.some.injEq] at h
    subst h
    unfold alt at this
    simp only [Bool.and_eq_true, Bool.not_eq_true', eqb_false] at this
    simpa using this.1
theorem turns_none (p : ByteArray) : ∀ (l : List Sn), turnsL p none l = [] ↔ ∀ x, x ∈ l → findIt x.tree p = none := by
  intro l
  induction l with
  | nil => exact ⟨fun _ x hx => (by cases hx), fun _ => rfl⟩
  | cons x l ih =>
    unfold turnsL
    cases hf : findIt x.tree p with
    | none =>
      rw [show turnK none none = 0 from rfl, if_pos rfl, List.nil_append, ih]
      constructor
      · intro h y hy
        rcases List.mem_cons.1 hy with rfl | hy
        · exact hf
        · exact h y hy
      · exact fun h y hy => h y (List.mem_cons_of_mem _ hy)
    | some z =>
      constructor
      · intro h
        rw [show turnK none (some z) = 1 from rfl, if_neg (by decide)] at h
        cases h
      · intro h
        have := h x List.mem_cons_self
        rw [hf] at this
        cases this
/-! ### the last snapshot with a file -/
end Go.Sf

/-! Turns are compared; a disk and a path are drawn for the last of a history. -/
namespace Go.Sf
open Go Go.RowKit Go.Proofs
set_option maxHeartbeats 1000000 in
theorem laws_sameTurns_c {B B' : Nat} {u v : Value} {xs : List Tn} (w : World) (h1 : Tns B w u xs) (h2 : Tns B' w v xs) :
    Calls Tryz.prog 44 #[u, v] w (Ret (.bool true) w) := by
  obtain ⟨A, c, rfl, hA⟩ := h1
  obtain ⟨A', c', rfl, hA'⟩ := h2
  have hl := hA.2.2.1
  unfold lim at hl
  generalize hn : xs.length = n at *
  have Hn := Lib.hid hn; clear hn
  have HA := Lib.hid hA; clear hA
  have HA' := Lib.hid hA'; clear hA'
  go_enter Tryz.func44, Tryz.ntmps44
  go_wp2
  go_loopw [5] (fun i wr => ∃ k : Nat, k ≤ n ∧ i = .int .i64 k ∧ Ext w wr) (fun i _ => n - (RowKit.intOf i).toNat)
  case atStart => exact ⟨0, by omega, rfl, Ext.refl w⟩
  case round =>
    obtain ⟨k, hk, rfl, he⟩ := hrel
    by_cases hlt : k < n
    · obtain ⟨x, hx⟩ := get_of_lt (l := xs) (k := k) (by rw [Hn.out]; exact hlt)
      obtain ⟨b1, o1, rfl, -, -, g01, g11, hc01, hc11⟩ := Tns.at_ HA.out hx
      obtain ⟨b2, o2, rfl, -, -, g02, g12, hc02, hc12⟩ := Tns.at_ HA'.out hx
      have a0 := fun W (h : Ext wr W) => hc01 W (he.trans h)
      have d0 := fun W (h : Ext wr W) => hc02 W (he.trans h)
      have a1 := fun W (h : Ext wr W) => hc11 W (he.trans h)
      have d1 := fun W (h : Ext wr W) => hc12 W (he.trans h)
      clear hc01 hc02 hc11 hc12 hx
      go_wp2
      refine wp_region_hold (fun W => (W.cell? ⟨b1, o1 + k * 2, none⟩ = some (.string x.snap) ∧ W.cell? ⟨b1, o1 + k * 2 + 1, none⟩ = some (.int .i64 x.kind)) ∧ W.cell? ⟨b2, o2 + k * 2, none⟩ = some (.string x.snap) ∧ W.cell? ⟨b2, o2 + k * 2 + 1, none⟩ = some (.int .i64 x.kind)) 8 [(0, true), (1, true), (2, true), (3, true), (4, true), (5, true), (6, true), (7, true)] (by kernel_rfl) (by kernel_rfl) ?_ ?_
      · have e := (Ext.refl wr).drew
        exact ⟨⟨a0 _ e, a1 _ e⟩, d0 _ e, d1 _ e⟩
      (repeat (first | (apply hw_read (by rfl) (by rfl); (· (intro W hW; (try dsimp only at hW); go_simp; (first | done | rfl | (rw [if_pos] <;> first | omega | rfl)))); (try simp only [Act.put, List.setIfInBounds_toArray, List.set_cons_zero, List.set_cons_succ])) | (refine hw_skip (by rfl) (by rfl) ?_; (try simp only [Act.put, List.setIfInBounds_toArray, List.set_cons_zero, List.set_cons_succ]))))
      (refine hw_nil ?_; (try simp only [List.drop_succ_cons, List.drop_zero]))
      have e3 := he.drew
      clear a0 d0 a1 d1
      go_wp2
      refine NoPanic.normal ?_
      (try dsimp only [Exit.then])
      (try go_wp2)
      go_roundw
      case rel => exact ⟨k + 1, by omega, by go_num, e3⟩
      case measure => simp [RowKit.intOf]; omega
    · have : k = n := by omega
      subst this
      go_wp2
      go_ret
      exact ⟨rfl, he⟩
/-! ### plain -/
/-- whether the path is there behind k turns -/
def thereK (b : Bool) (L : List Tn) (k : Nat) : Bool := if k = 0 then b else (match L[k - 1]? with | some x => !decide (x.kind = 2) | none => false)
theorem thereK_cons (b : Bool) (y : Tn) (r : List Tn) (k : Nat) : thereK (!decide (y.kind = 2)) r k = thereK b (y :: r) (k + 1) := by
  cases k with
  | zero => simp [thereK]
  | succ k => simp [thereK]
theorem alt_at : ∀ (L : List Tn) (b : Bool) (k : Nat) (x : Tn), alt b L = true → L[k]? = some x → decide (x.kind = 1) = !thereK b L k ∧ thereK b L (k + 1) = !decide (x.kind = 2) := by
  intro L
  induction L with
  | nil => intro b k x _ h; simp at h
  | cons y r ih =>
    intro b k x h hx
    unfold alt at h
    simp only [Bool.and_eq_true, Bool.not_eq_true', eqb_false] at h
    cases k with
    | zero =>
      simp only [List.getElem?_cons_zero, Option.some.injEq] at hx
      subst hx
      refine ⟨?_, by simp [thereK]⟩
      have h1 := h.1
      show decide (y.kind = 1) = !b
      revert h1
      generalize decide (y.kind = 1) = d
      cases d <;> cases b <;> simp
    | succ k =>
      have := ih _ k x h.2 (by simpa using hx)
      rw [← thereK_cons b, ← thereK_cons b]
      exact this
theorem hist_alt (s : List Hd) (t : List It) (l : List Sn) (p : ByteArray) : alt false (histOf s t l p) = true ∧ (histOf s t l p).length ≤ l.length ∧ ∀ x, x ∈ histOf s t l p → x.kind = 1 ∨ x.kind = 2 ∨ x.kind = 3 := by
  unfold histOf
  split
  · exact ⟨alt_turns p l none, turnsL_len p l none, turns_kind p l none⟩
  · exact ⟨rfl, Nat.zero_le _, fun x hx => by cases hx⟩
/-- what a history that tells something says -/
theorem hist_some {s : List Hd} {t : List It} {l : List Sn} {p : ByteArray} (h : histOf s t l p ≠ []) : diskOk s t l = true ∧ pathOk p = true ∧
    ∃ (x0 xl : Tn) (y : Sn), (histOf s t l p)[0]? = some x0 ∧ x0.kind = 1 ∧ (histOf s t l p)[(histOf s t l p).length - 1]? = some xl ∧ l[l.length - 1]? = some y ∧ (findIt y.tree p).isSome = !decide (xl.kind = 2) := by
  unfold histOf at h ⊢
  split at h
  · next hc =>
    rw [if_pos hc]
    refine ⟨hc.1, hc.2, ?_⟩
    have hpos : 0 < (turnsL p none l).length := by
      rcases Nat.eq_zero_or_pos (turnsL p none l).length with h0 | h0
      · exact absurd (List.length_eq_zero_iff.1 h0) h
      · exact h0
    have hlen := turnsL_len p l none
    obtain ⟨x0, hx0⟩ := get_of_lt (l := turnsL p none l) (k := 0) hpos
    obtain ⟨xl, hxl⟩ := get_of_lt (l := turnsL p none l) (k := (turnsL p none l).length - 1) (by omega)
    obtain ⟨y, hy⟩ := get_of_lt (l := l) (k := l.length - 1) (by omega)
    refine ⟨x0, xl, y, hx0, turns_first p l x0 hx0, hxl, hy, ?_⟩
    have := turns_last p l none y (by rw [List.getLast?_eq_getElem?]; exact hy)
    rw [List.getLast?_eq_getElem?, hxl] at this
    exact this
  · exact absurd rfl h
/-- whether one of the first snapshots has the path -/
def someK (p : ByteArray) (l : List Sn) (k : Nat) : Bool := (l.take k).any fun x => (findIt x.tree p).isSome
theorem someK_succ {p : ByteArray} {l : List Sn} {k : Nat} {x : Sn} (h : l[k]? = some x) : someK p l (k + 1) = (someK p l k || (findIt x.tree p).isSome) := by
  unfold someK
  rw [List.take_add_one, h, Option.toList_some, List.any_append]; simp
theorem hist_none {s : List Hd} {t : List It} {l : List Sn} {p : ByteArray} (h1 : diskOk s t l = true) (h2 : pathOk p = true) : decide (histOf s t l p = []) = !someK p l l.length := by
  unfold histOf someK
  rw [if_pos ⟨h1, h2⟩, List.take_length]
  cases ha : l.any fun x => (findIt x.tree p).isSome with
  | false =>
    have e : turnsL p none l = [] := (turns_none p l).2 fun x hx => by
      rw [List.any_eq_false] at ha
      simpa using ha x hx
    rw [e]; rfl
  | true =>
    have e : turnsL p none l ≠ [] := fun e => by
      have hc := (turns_none p l).1 e
      rw [List.any_eq_true] at ha
      obtain ⟨x, hx, hs⟩ := ha
      rw [hc x hx] at hs
      cases hs
    simp [e]
end Go.Sf
