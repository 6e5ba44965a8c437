/- Regions that draw their order: what only reads is taken first, then every order of the rest is walked. -/
import Derived.Test.YtdnnojghjnjnfaaGreatDoorGA
namespace Go.Sf
open Go
section
variable {P : Program} {ops : Array Oper} {Q : Exit → Act → World → Prop} {md : Region.Mode} {S : World → Prop}
def brGo (md : Region.Mode) (ops : Array Oper) : List Nat → Array Bool → Bool
  | [], _ => true
  | k :: r, listed => decide (k < ops.size) && (Region.ready md ops listed).contains k && Region.free md ops listed k && brGo md ops r (listed.setIfInBounds k true)
def listAll (listed : Array Bool) (ks : List Nat) : Array Bool := ks.foldl (fun l k => l.setIfInBounds k true) listed
def wpReads (P : Program) (ops : Array Oper) (T : Act → World → Prop) (S : World → Prop) : List Nat → Act → World → Prop
  | [], a, w => T a w
  | k :: r, a, w => ∃ o, ops[k]? = some o ∧ ∃ v, YieldsIf P ops S o v a ∧ wpReads P ops T S r (a.put o.dst v) w
theorem br_M (hsel : Region.noSelect ops = true) (hQ : ∀ c a d v w, Q (.panic c) (Act.put a d v) w → Q (.panic c) a w) (fuel : Nat) :
    ∀ (ks : List Nat) (listed : Array Bool) (a : Act) (w : World), HeadInv md ops ops.size listed → brGo md ops ks listed = true → S w →
      wpReads P ops (wpAnyM P md ops Q S ops.size fuel (listAll listed ks)) S ks a w → wpAnyM P md ops Q S ops.size (ks.length + fuel) listed a w
  | [], listed, a, w, _, _, _, h => by
    rw [List.length_nil, Nat.zero_add]; exact h
  | k :: r, listed, a, w, inv, hB, hS, h => by
    obtain ⟨o, ho, v, hy, h⟩ := h
    simp only [brGo, Bool.and_eq_true, decide_eq_true_eq] at hB
    obtain ⟨⟨⟨h1, h2⟩, h3⟩, h4⟩ := hB
    have hr : k ∈ Region.ready md ops listed := by simpa using h2
    rw [List.length_cons, show r.length + 1 + fuel = (r.length + fuel) + 1 by omega]
    exact wpAnyM_first ho (Region.noSelect_spec hsel) (fun c a w => hQ c a _ _ w) (by simp [tailB]) h1 _ listed a w inv (Region.free_spec ho h3) hr hy hS
      (br_M hsel hQ fuel r _ _ w (inv.set hr h1) h4 hS h)
/-- every order of what is left, as a word that no tactic looks into -/
@[irreducible] def BR (P : Program) (ops : Array Oper) (Q : Exit → Act → World → Prop) (S : World → Prop) (fuel : Nat) (listed : Array Bool) (a : Act) (w : World) : Prop := wpAnyM P .any ops Q S ops.size fuel listed a w
/-- the reads ahead of it -/
@[irreducible] def RB (P : Program) (ops : Array Oper) (Q : Exit → Act → World → Prop) (S : World → Prop) (fuel : Nat) (ks rest : List Nat) (a : Act) (w : World) : Prop :=
  wpReads P ops (BR P ops Q S fuel (listAll (Array.replicate ops.size false) ks)) S rest a w
end
section
variable {P : Program} {Q : Exit → Act → World → Prop} {S : World → Prop} {a : Act} {w : World} {ol : List Oper} {ks r : List Nat} {k fuel : Nat} {o : Oper} {u : Value} {listed : Array Bool}
theorem wp_region_br {id : Nat} {l : List Oper} (S : World → Prop) (ks : List Nat) (fuel : Nat) (hm : P.follows .mixedOrders = true)
    (hB : (Region.noSelect l.toArray && (brGo .any l.toArray ks (Array.replicate l.toArray.size false) && (ks.length + fuel == l.toArray.size))) = true) (hS : S w.drew)
    (h : RB P l.toArray (NoPanic Q) S fuel ks ks a w.drew) : (Code.region id l.toArray true).wp P Q a w := by
  simp only [Bool.and_eq_true, beq_iff_eq] at hB
  obtain ⟨hsel, hgo, hlen⟩ := hB
  refine wp_region_noPanic (wp_region_any hm (wpAny_of_M (S := S) (m := l.toArray.size) _ _ _ _ ?_))
  have inv0 : HeadInv .any l.toArray l.toArray.size (Array.replicate l.toArray.size false) :=
    ⟨by simp, fun j oj _ hl => (by rw [getD_replicate_false] at hl; cases hl), fun t _ ht => getD_in (by simpa using ht) (getD_replicate_false _ _)⟩
  unfold RB BR at h
  have := br_M (md := .any) (P := P) (Q := NoPanic Q) (S := S) hsel (fun _ _ _ _ _ h => h) fuel ks _ a _ inv0 hgo hS h
  rwa [hlen] at this
theorem rb_nil (h : BR P ol.toArray Q S fuel (listAll (Array.replicate ol.toArray.size false) ks) a w) : RB P ol.toArray Q S fuel ks [] a w := by unfold RB; exact h
theorem rb_read (ho : ol[k]? = some o) (hg : Region.wanted o (yielded ol.toArray a.tmps) = true) (hv : ∀ W, S W → (execOp a.eval o).run P W = .ok (.value u) W)
    (h : RB P ol.toArray Q S fuel ks r (a.put o.dst u) w) : RB P ol.toArray Q S fuel ks (k :: r) a w := by
  unfold RB at h ⊢
  exact ⟨o, get_of_list ho, u, .inl ⟨hg, hv⟩, h⟩
theorem br_nil (hr : Region.ready .any ol.toArray listed = []) (h : Q .normal a w) : BR P ol.toArray Q S fuel listed a w := by
  unfold BR
  cases fuel with
  | zero => exact ⟨hr, h⟩
  | succ f => exact ⟨fun _ => h, fun i hi => by rw [hr] at hi; cases hi⟩
theorem br_step (l : List Nat) (hr : Region.ready .any ol.toArray listed = l) (hne : l ≠ [])
    (h : ∀ i, i ∈ l → ∃ o, ol[i]? = some o ∧ wpList P ol.toArray (Exit.then (fun a' w' => S w' ∧ BR P ol.toArray Q S fuel (listed.setIfInBounds i true) a' w') Q) [o] a w) : BR P ol.toArray Q S (fuel + 1) listed a w := by
  unfold BR at h ⊢
  refine ⟨fun h0 => absurd (hr.symm.trans h0) hne, fun i hi => ?_⟩
  rw [hr] at hi
  obtain ⟨o, ho, h1⟩ := h i hi
  exact wpOp_mono (fun a' w' h' => ⟨fun _ => h'.1, h'.2⟩) (wpOp_of_one (get_of_list ho) h1)
theorem br_one (i : Nat) (hr : Region.ready .any ol.toArray listed = [i]) (ho : ol[i]? = some o)
    (h : wpList P ol.toArray (Exit.then (fun a' w' => S w' ∧ BR P ol.toArray Q S fuel (listed.setIfInBounds i true) a' w') Q) [o] a w) : BR P ol.toArray Q S (fuel + 1) listed a w :=
  br_step [i] hr (by simp) fun j hj => by
    simp only [List.mem_singleton] at hj
    subst hj
    exact ⟨o, ho, h⟩
theorem br_two (i j : Nat) {o o' : Oper} (hr : Region.ready .any ol.toArray listed = [i, j]) (ho : ol[i]? = some o) (ho' : ol[j]? = some o')
    (h : wpList P ol.toArray (Exit.then (fun a' w' => S w' ∧ BR P ol.toArray Q S fuel (listed.setIfInBounds i true) a' w') Q) [o] a w)
    (h' : wpList P ol.toArray (Exit.then (fun a' w' => S w' ∧ BR P ol.toArray Q S fuel (listed.setIfInBounds j true) a' w') Q) [o'] a w) : BR P ol.toArray Q S (fuel + 1) listed a w :=
  br_step [i, j] hr (by simp) fun q hq => by
    simp only [List.mem_cons, List.mem_nil_iff, or_false] at hq
    rcases hq with rfl | rfl
    · exact ⟨o, ho, h⟩
    · exact ⟨o', ho', h'⟩
end
end Go.Sf
