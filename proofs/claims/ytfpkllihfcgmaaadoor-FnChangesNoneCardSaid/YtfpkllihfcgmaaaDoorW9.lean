/- A region that draws its order: what only reads is taken first, what writes or calls follows in its one order, and behind the last that reads the rest is one plain list. -/
import Derived.Test.YtfpkllihfcgmaaaDoorW0
import Derived.OrdersHeld
import Derived.StillTail
import Derived.Deep.RegionHeld3
namespace Go.Sf
open Go
section
variable {P : Program} {ops : Array Oper} {Q : Exit → Act → World → Prop} {md : Region.Mode} {S : World → Prop} {m : Nat}
/-- whichever order is picked; S holds behind every operation below m -/
def wpAnyM (P : Program) (md : Region.Mode) (ops : Array Oper) (Q : Exit → Act → World → Prop) (S : World → Prop) (m : Nat) : Nat → Array Bool → Act → World → Prop
  | 0, listed, a, w => Region.ready md ops listed = [] ∧ Q .normal a w
  | fuel + 1, listed, a, w =>
    (Region.ready md ops listed = [] → Q .normal a w) ∧
    ∀ i ∈ Region.ready md ops listed, wpOp P ops Q i (fun a' w' => (i < m → S w') ∧ wpAnyM P md ops Q S m fuel (listed.setIfInBounds i true) a' w') a w
theorem wpAny_of_M : ∀ (fuel : Nat) (listed : Array Bool) (a : Act) (w : World), wpAnyM P md ops Q S m fuel listed a w → wpAny P md ops Q fuel listed a w
  | 0, _, _, _, h => h
  | fuel + 1, _, _, _, h => ⟨h.1, fun i hi => wpOp_mono (fun a' w' h' => wpAny_of_M fuel _ a' w' h'.2) (h.2 i hi)⟩
/-- from m on the rest is one chain, which waits for all that is ahead of it -/
def tailB (md : Region.Mode) (ops : Array Oper) (m : Nat) : Bool := m == ops.size || (decide (m < ops.size) && Region.sinkB md ops m && Region.chainB md ops m)
theorem ahead {listed : Array Bool} (ht : tailB md ops m = true) (inv : HeadInv md ops m listed) {i j : Nat} (hi : i < m) (hun : listed.getD i true = false) (hj : j ∈ Region.ready md ops listed) : j < m := by
  unfold tailB at ht
  simp only [Bool.or_eq_true, beq_iff_eq, Bool.and_eq_true, decide_eq_true_eq] at ht
  rcases ht with rfl | ⟨⟨h1, h2⟩, h3⟩
  · obtain ⟨_, o, ho, -⟩ := mem_ready.1 hj
    exact (Array.getElem?_eq_some_iff.1 ho).1
  · rcases Nat.lt_or_ge j m with h | h
    · exact h
    · exact absurd hj (tail_waits h2 h3 h1 inv _ i rfl hi hun j h)
theorem wpAnyM_first {i : Nat} {oi : Oper} {v : Value} (hi : ops[i]? = some oi) (hsel : ∀ (j : Nat) (o : Oper) cs b, ops[j]? = some o → o.op ≠ .select cs b)
    (hQ : ∀ c a w, Q (.panic c) (a.put oi.dst v) w → Q (.panic c) a w) (ht : tailB md ops m = true) (him : i < m) :
    ∀ (fuel : Nat) (listed : Array Bool) (a : Act) (w : World), HeadInv md ops m listed →
      (∀ j oj, ops[j]? = some oj → j ≠ i → listed.getD j true = false → (∀ e ∈ oj.after, Region.binds md e = true → e.on ≠ i) → oi.apart ops oj = true) →
      i ∈ Region.ready md ops listed → YieldsIf P ops S oi v a → S w →
      wpAnyM P md ops Q S m fuel (listed.setIfInBounds i true) (a.put oi.dst v) w → wpAnyM P md ops Q S m (fuel + 1) listed a w := by
  intro fuel
  induction fuel with
  | zero =>
    intro listed a w _ _ hr hy hS H
    refine ⟨fun h => (by rw [h] at hr; cases hr), fun j hj => ?_⟩
    by_cases hji : j = i
    · subst hji; exact hy.wpOp hi hS ⟨fun _ => hS, H⟩
    · have := ready_mono hj hji
      rw [H.1] at this
      cases this
  | succ fuel ih =>
    intro listed a w inv hfree hr hy hS H
    refine ⟨fun h => (by rw [h] at hr; cases hr), fun j hj => ?_⟩
    by_cases hji : j = i
    · subst hji; exact hy.wpOp hi hS ⟨fun _ => hS, H⟩
    · have hjm := ahead ht inv him (mem_ready.1 hr).1 hj
      have h1 := H.2 j (ready_mono hj hji)
      obtain ⟨hjun, oj, hoj, hall⟩ := mem_ready.1 hj
      have hnot : ∀ e ∈ oj.after, Region.binds md e = true → e.on ≠ i := fun e he hb heq => by
        have h1 := hall e he hb
        have h0 := (mem_ready.1 hr).1
        rw [heq] at h1
        rcases Nat.lt_or_ge i listed.size with h' | h'
        · simp [h'] at h0 h1; rw [h0] at h1; cases h1
        · simp [Array.getElem?_eq_none h'] at h1
      have h2 := wpOp_putIf hoj (hfree j oj hoj hji hjun hnot) (fun cs b => hsel i oi cs b hi) (fun cs b => hsel j oj cs b hoj) hQ hy h1
      have hfree' : ∀ k ok, ops[k]? = some ok → k ≠ i → (listed.setIfInBounds j true).getD k true = false →
          (∀ e ∈ ok.after, Region.binds md e = true → e.on ≠ i) → oi.apart ops ok = true := fun k ok hk hki hun hno => by
        refine hfree k ok hk hki ?_ hno
        by_cases hjk : j = k
        · subst hjk; exact hjun
        · rw [getD_set_ne true hjk] at hun; exact hun
      refine wpOp_mono (fun a' w' h3 => ⟨h3.2.1, ih (listed.setIfInBounds j true) a' w' (inv.set hj hjm) hfree' (ready_mono hr (Ne.symm hji)) h3.1 (h3.2.1 hjm) ?_⟩) h2
      rw [Array.setIfInBounds_comm _ _ hji]
      exact h3.2.2
/-- the walk: (k, true) is taken first, (k, false) is the one that may come up; then T -/
def wpHold (P : Program) (ops : Array Oper) (Q : Exit → Act → World → Prop) (S : World → Prop) (T : Act → World → Prop) : List (Nat × Bool) → Act → World → Prop
  | [], a, w => T a w
  | (k, true) :: r, a, w => ∃ o, ops[k]? = some o ∧ ∃ v, YieldsIf P ops S o v a ∧ wpHold P ops Q S T r (a.put o.dst v) w
  | (k, false) :: r, a, w => ∃ o, ops[k]? = some o ∧ wpList P ops (Exit.then (fun a' w' => S w' ∧ wpHold P ops Q S T r a' w') Q) [o] a w
def holdGo (md : Region.Mode) (ops : Array Oper) (m : Nat) : List (Nat × Bool) → Array Bool → Bool
  | [], listed => Region.seqB md ops (ops.size - m) m listed
  | (k, true) :: r, listed => decide (k < m) && (Region.ready md ops listed).contains k && Region.free md ops listed k && holdGo md ops m r (listed.setIfInBounds k true)
  | (k, false) :: r, listed => decide (k < m) && decide (Region.ready md ops listed = [k]) && holdGo md ops m r (listed.setIfInBounds k true)
def holdB (ops : Array Oper) (m : Nat) (ord : List (Nat × Bool)) : Bool :=
  Region.noSelect ops && tailB .any ops m && (ord.length == m && decide (m ≤ ops.size)) && holdGo .any ops m ord (Array.replicate ops.size false)
theorem wpAnyM_seq : ∀ (l : List Oper) (k : Nat) (listed : Array Bool) (a : Act) (w : World), m ≤ k → (∀ j, l[j]? = ops[k + j]?) →
    Region.seqB md ops l.length k listed = true → wpList P ops Q l a w → wpAnyM P md ops Q S m l.length listed a w
  | [], _, _, _, _, _, _, hB, h => ⟨by simpa [Region.seqB] using hB, h⟩
  | o :: l, k, listed, a, w, hmk, hl, hB, h => by
    have h0 : ops[k]? = some o := by simpa using (hl 0).symm
    simp only [List.length_cons, Region.seqB, Bool.and_eq_true, decide_eq_true_eq] at hB
    refine ⟨fun h1 => (by rw [hB.1] at h1; cases h1), fun i hi => ?_⟩
    rw [hB.1] at hi
    have hik : i = k := by simpa using hi
    subst hik
    have hw : wpOp P ops Q i (wpList P ops Q l) a w := by unfold wpOp; simp only [h0]; exact h
    exact wpOp_mono (fun a' w' h' => ⟨fun h => absurd h (by omega), wpAnyM_seq l (i + 1) _ a' w' (by omega) (fun j => by have := hl (j + 1); simpa [Nat.add_assoc, Nat.add_comm 1 j] using this) hB.2 h'⟩) hw
theorem wpOp_of_one {K : Act → World → Prop} {k : Nat} {o : Oper} {a : Act} {w : World} (hk : ops[k]? = some o) (h : wpList P ops (Exit.then K Q) [o] a w) : wpOp P ops Q k K a w := by
  unfold wpOp
  simp only [hk]
  unfold wpList at h
  split at h
  · rename_i hw
    rw [if_pos hw]
    rcases h with h | ⟨h1, a2, w2, h2⟩
    · left
      unfold Oper.wp at *
      generalize (execOp a.eval o).run P w = r at *
      cases r with
      | ok n w' =>
        cases n <;> simp only [Oper.upon] at h ⊢ <;>
          first
            | exact h
            | exact Calls.mono h (fun e w'' he => by
                cases e with
                | outgrown => obtain ⟨a3, w3, h3⟩ := he; exact ⟨a3, w3, h3⟩
                | _ => exact he)
            | exact Rows.mono h (fun _ _ he => he)
      | halt x w' => cases x <;> simp only [Oper.upon] at h ⊢ <;> exact h
    · exact .inr ⟨h1, a2, w2, h2⟩
  · rename_i hw
    rw [if_neg hw]
    exact h
theorem hold_M {l : List Oper} (hl : l.toArray = ops) (hsel : Region.noSelect ops = true) (ht : tailB md ops m = true) (hms : m ≤ ops.size) (hQ : ∀ c a d v w, Q (.panic c) (Act.put a d v) w → Q (.panic c) a w) :
    ∀ (ord : List (Nat × Bool)) (listed : Array Bool) (a : Act) (w : World), HeadInv md ops m listed → holdGo md ops m ord listed = true → S w →
      wpHold P ops Q S (wpList P ops Q (l.drop m)) ord a w → wpAnyM P md ops Q S m (ord.length + (ops.size - m)) listed a w
  | [], listed, a, w, _, hB, _, h => by
    have hd : (l.drop m).length = ops.size - m := by rw [← hl]; simp
    have := wpAnyM_seq (S := S) (m := m) (md := md) (ops := ops) (l.drop m) m listed a w (Nat.le_refl _) (fun j => by rw [← hl]; simp [List.getElem?_drop]) (by rw [hd]; exact hB) h
    rw [hd] at this
    simpa using this
  | (k, true) :: r, listed, a, w, inv, hB, hS, h => by
    obtain ⟨o, ho, v, hy, h⟩ := h
    simp only [holdGo, Bool.and_eq_true, decide_eq_true_eq] at hB
    obtain ⟨⟨⟨h1, h2⟩, h3⟩, h4⟩ := hB
    have hr : k ∈ Region.ready md ops listed := by simpa using h2
    rw [List.length_cons, show r.length + 1 + (ops.size - m) = (r.length + (ops.size - m)) + 1 by omega]
    exact wpAnyM_first ho (Region.noSelect_spec hsel) (fun c a w => hQ c a _ _ w) ht h1 _ listed a w inv (Region.free_spec ho h3) hr hy hS
      (hold_M hl hsel ht hms hQ r _ _ w (inv.set hr h1) h4 hS h)
  | (k, false) :: r, listed, a, w, inv, hB, hS, h => by
    obtain ⟨o, ho, h⟩ := h
    simp only [holdGo, Bool.and_eq_true, decide_eq_true_eq] at hB
    obtain ⟨⟨h1, h2⟩, h4⟩ := hB
    rw [List.length_cons, show r.length + 1 + (ops.size - m) = (r.length + (ops.size - m)) + 1 by omega]
    refine ⟨fun h0 => (by rw [h2] at h0; cases h0), fun i hi => ?_⟩
    have hi' := hi
    rw [h2] at hi
    have hik : i = k := by simpa using hi
    subst hik
    exact wpOp_mono (fun a' w' h' => ⟨fun _ => h'.1, hold_M hl hsel ht hms hQ r _ a' w' (inv.set hi' h1) h4 h'.1 h'.2⟩) (wpOp_of_one ho h)
/-- the walk as a word that no tactic looks into -/
@[irreducible] def HW (P : Program) (ops : Array Oper) (Q : Exit → Act → World → Prop) (S : World → Prop) (l : List Oper) (ord : List (Nat × Bool)) (a : Act) (w : World) : Prop := wpHold P ops Q S (wpList P ops Q l) ord a w
theorem HW_of {l : List Oper} {ord : List (Nat × Bool)} {a : Act} {w : World} (h : wpHold P ops Q S (wpList P ops Q l) ord a w) : HW P ops Q S l ord a w := by unfold HW; exact h
theorem of_HW {l : List Oper} {ord : List (Nat × Bool)} {a : Act} {w : World} (h : HW P ops Q S l ord a w) : wpHold P ops Q S (wpList P ops Q l) ord a w := by unfold HW at h; exact h
end
section
variable {P : Program} {Q : Exit → Act → World → Prop} {S : World → Prop} {a : Act} {w : World}
/-- THE BEGINNING -/
theorem wp_region_hold {id : Nat} {l : List Oper} (S : World → Prop) (m : Nat) (ord : List (Nat × Bool)) (hm : P.follows .mixedOrders = true) (hB : holdB l.toArray m ord = true) (hS : S w.drew)
    (h : HW P l.toArray (NoPanic Q) S (l.drop m) ord a w.drew) : (Code.region id l.toArray true).wp P Q a w := by
  simp only [holdB, Bool.and_eq_true, decide_eq_true_eq, beq_iff_eq] at hB
  obtain ⟨⟨⟨hsel, ht⟩, hlen, hms⟩, hgo⟩ := hB
  refine wp_region_noPanic (wp_region_any hm (wpAny_of_M (S := S) (m := m) _ _ _ _ ?_))
  have inv0 : HeadInv .any l.toArray m (Array.replicate l.toArray.size false) :=
    ⟨by simp, fun j oj _ hl => (by rw [getD_replicate_false] at hl; cases hl), fun t _ ht => getD_in (by simpa using ht) (getD_replicate_false _ _)⟩
  have := hold_M (md := .any) (P := P) (Q := NoPanic Q) (S := S) rfl hsel ht hms (fun _ _ _ _ _ h => h) ord _ a _ inv0 hgo hS (of_HW h)
  rwa [hlen, show m + (l.toArray.size - m) = l.toArray.size by omega] at this
variable {ops : Array Oper} {ol l : List Oper} {r : List (Nat × Bool)} {k : Nat} {o : Oper} {u : Value}
theorem hw_nil (h : wpList P ops Q l a w) : HW P ops Q S l [] a w := HW_of h
theorem get_of_list {k : Nat} {o : Oper} (h : ol[k]? = some o) : ol.toArray[k]? = some o := by simpa using h
/-- it reads: the same in every world that meets S -/
theorem hw_read (ho : ol[k]? = some o) (hg : Region.wanted o (yielded ol.toArray a.tmps) = true) (hv : ∀ W, S W → (execOp a.eval o).run P W = .ok (.value u) W)
    (h : HW P ol.toArray Q S l r (a.put o.dst u) w) : HW P ol.toArray Q S l ((k, true) :: r) a w := HW_of ⟨o, get_of_list ho, u, .inl ⟨hg, hv⟩, of_HW h⟩
theorem hw_skip (ho : ol[k]? = some o) (hg : Region.wanted o (yielded ol.toArray a.tmps) = false) (h : HW P ol.toArray Q S l r (a.put o.dst undef) w) : HW P ol.toArray Q S l ((k, true) :: r) a w :=
  HW_of ⟨o, get_of_list ho, undef, .inr ⟨hg, rfl⟩, of_HW h⟩
/-- it calls or writes: one operation by itself -/
theorem hw_step (ho : ol[k]? = some o) (h : wpList P ol.toArray (Exit.then (fun a' w' => S w' ∧ HW P ol.toArray Q S l r a' w') Q) [o] a w) : HW P ol.toArray Q S l ((k, false) :: r) a w :=
  HW_of ⟨o, get_of_list ho, by unfold HW at h; exact h⟩
end
end Go.Sf
