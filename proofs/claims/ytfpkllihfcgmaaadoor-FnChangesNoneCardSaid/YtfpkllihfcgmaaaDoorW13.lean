/- Regions with operations that may come in any order among themselves: each, with what only reads of it, brings about a fact of its own that the others leave standing. -/
import Derived.Test.YtfpkllihfcgmaaaDoorW9
namespace Go.Sf
open Go
/-- slots d filled with us -/
def putAll (D : List Nat) (us : Nat → Value) (a : Act) : Act := D.foldl (fun a d => a.put (some d) (us d)) a
def upd (us : Nat → Value) (d : Nat) (u : Value) : Nat → Value := fun e => if e = d then u else us e
theorem putAll_cons (d : Nat) (D : List Nat) (us : Nat → Value) (a : Act) : putAll (d :: D) us a = putAll D us (a.put (some d) (us d)) := rfl
theorem putAll_self : ∀ (D : List Nat) (a : Act), putAll D (fun d => a.tmps.getD d undef) a = a
  | [], _ => rfl
  | e :: D, a => by
    rw [putAll_cons]
    have h : a.put (some e) (a.tmps.getD e undef) = a := by
      cases a with
      | mk tmps defers =>
        simp only [Act.put]
        congr 1
        apply Array.ext
        · simp
        · intro i h1 h2
          rw [Array.getElem_setIfInBounds]
          split
          · next he => subst he; simp [Array.getD, h2]
          · rfl
    rw [h]
    exact putAll_self D a
section
variable {P : Program} {ops : Array Oper} {Q : Exit → Act → World → Prop} {md : Region.Mode} {S : World → Prop} {m : Nat}
theorem wpAnyM_succ : ∀ (f : Nat) (listed : Array Bool) (a : Act) (w : World), wpAnyM P md ops Q S m f listed a w → wpAnyM P md ops Q S m (f + 1) listed a w
  | 0, _, _, _, h => ⟨fun _ => h.2, fun i hi => by rw [h.1] at hi; cases hi⟩
  | f + 1, _, _, _, h => ⟨h.1, fun i hi => wpOp_mono (fun a' w' h' => ⟨h'.1, wpAnyM_succ f _ a' w' h'.2⟩) (h.2 i hi)⟩
theorem wpAnyM_le {f g : Nat} (hfg : f ≤ g) {listed : Array Bool} {a : Act} {w : World} (h : wpAnyM P md ops Q S m f listed a w) : wpAnyM P md ops Q S m g listed a w := by
  obtain ⟨d, rfl⟩ := Nat.exists_eq_add_of_le hfg
  induction d with
  | zero => exact h
  | succ d ih => exact wpAnyM_succ _ _ _ _ (ih (by omega))
/-- one of the block: its number and what only reads of it -/
abbrev Bl := Nat × List Nat
def chainOf (d : Bl) : List (Nat × Bool) := (d.1, false) :: d.2.map fun f => (f, true)
def ParT (P : Program) (J : List Nat → World → Prop) (F : Nat → (Nat → Value) → World → Prop) (hs ds : List Nat) (a : Act) (us : Nat → Value) (W : World) (R : List Nat) (j : Nat) (a' : Act) (W' : World) : Prop :=
  J (R.filter fun i => i != j) W' ∧ ∃ us', a' = putAll ds us' a ∧ F j us' W' ∧ ∀ e, e ∈ hs → e ≠ j → F e us W → F e us' W'
/-- all numbers that have a fact -/
def allOf (D G : List Bl) : List Nat := D.map (·.1) ++ G.map (·.1)
def ParOK (P : Program) (ops : Array Oper) (Q : Exit → Act → World → Prop) (S : World → Prop) (J : List Nat → World → Prop) (F : Nat → (Nat → Value) → World → Prop) (D G : List Bl) (ds : List Nat) (R0 : Act → World → Prop) (a : Act) : Prop :=
  (∀ us W d R, d ∈ D → d.1 ∈ R → J R W → wpHold P ops Q S (ParT P J F (allOf D G) ds a us W R d.1) (chainOf d) (putAll ds us a) W) ∧
  (∀ us W g R, g ∈ G → J R W → (∀ h, h ∈ g.2 → F h us W) → ∃ o, ops[g.1]? = some o ∧ ∃ v us', YieldsIf P ops S o v (putAll ds us a) ∧ (putAll ds us a).put o.dst v = putAll ds us' a ∧ F g.1 us' W ∧ ∀ e, e ∈ allOf D G → e ≠ g.1 → F e us W → F e us' W) ∧
  (∀ us W, J [] W → (∀ e, e ∈ allOf D G → F e us W) → R0 (putAll ds us a) W)
/-- what only reads is taken first; then k -/
def flGo (md : Region.Mode) (ops : Array Oper) (m : Nat) (k : Array Bool → Nat → Bool) : List Nat → Array Bool → Nat → Bool
  | [], listed, fuel => k listed fuel
  | _ :: _, _, 0 => false
  | f :: r, listed, fuel + 1 => decide (f < m) && (Region.ready md ops listed).contains f && Region.free md ops listed f && flGo md ops m k r (listed.setIfInBounds f true) fuel
/-- what reads of several of the block is taken as soon as these are done -/
def gGo (md : Region.Mode) (ops : Array Oper) (m : Nat) (R : List Nat) (k : List Bl → Array Bool → Nat → Bool) : List Bl → List Bl → Array Bool → Nat → Bool
  | [], kept, listed, fuel => k kept listed fuel
  | g :: G, kept, listed, fuel =>
    if g.2.all (fun h => !R.contains h) then
      match fuel with
      | 0 => false
      | f + 1 => decide (g.1 < m) && (Region.ready md ops listed).contains g.1 && Region.free md ops listed g.1 && gGo md ops m R k G kept (listed.setIfInBounds g.1 true) f
    else gGo md ops m R k G (g :: kept) listed fuel
def parGo (md : Region.Mode) (ops : Array Oper) (m : Nat) (post : List (Nat × Bool)) : Nat → List Bl → List Bl → Array Bool → Nat → Bool
  | 0, R, G, listed, fuel => R.isEmpty && G.isEmpty && holdGo md ops m post listed && decide (post.length + (ops.size - m) ≤ fuel)
  | _ + 1, _, _, _, 0 => false
  | n + 1, R, G, listed, fuel + 1 => decide (Region.ready md ops listed = R.map (·.1)) && R.all fun d => decide (d.1 < m) && ((R.filter (fun e => e.1 != d.1)).length == n) &&
      flGo md ops m (fun listed' fuel' => gGo md ops m ((R.filter (fun e => e.1 != d.1)).map (·.1)) (fun G' listed'' fuel'' => parGo md ops m post n (R.filter (fun e => e.1 != d.1)) G' listed'' fuel'') G [] listed' fuel') d.2 (listed.setIfInBounds d.1 true) fuel
theorem fl_M (hsel : Region.noSelect ops = true) (ht : tailB md ops m = true) (hQ : ∀ c a d v w, Q (.panic c) (Act.put a d v) w → Q (.panic c) a w) {T : Act → World → Prop} {k : Array Bool → Nat → Bool}
    (hk : ∀ listed fuel a w, HeadInv md ops m listed → k listed fuel = true → T a w → wpAnyM P md ops Q S m fuel listed a w) :
    ∀ (fl : List Nat) (listed : Array Bool) (fuel : Nat) (a : Act) (w : World), HeadInv md ops m listed → flGo md ops m k fl listed fuel = true → S w → wpHold P ops Q S T (fl.map fun f => (f, true)) a w → wpAnyM P md ops Q S m fuel listed a w
  | [], listed, fuel, a, w, inv, hB, _, h => hk _ _ _ _ inv hB h
  | f :: r, listed, 0, a, w, _, hB, _, _ => by simp [flGo] at hB
  | f :: r, listed, fuel + 1, a, w, inv, hB, hS, h => by
    obtain ⟨o, ho, v, hy, h⟩ := h
    simp only [flGo, Bool.and_eq_true, decide_eq_true_eq] at hB
    obtain ⟨⟨⟨h1, h2⟩, h3⟩, h4⟩ := hB
    have hr : f ∈ Region.ready md ops listed := by simpa using h2
    exact wpAnyM_first ho (Region.noSelect_spec hsel) (fun c a w => hQ c a _ _ w) ht h1 _ listed a w inv (Region.free_spec ho h3) hr hy hS
      (fl_M hsel ht hQ hk r _ _ _ w (inv.set hr h1) h4 hS h)
/-- what stands while R and G are still to come -/
def Facts (F : Nat → (Nat → Value) → World → Prop) (D G0 : List Bl) (R : List Nat) (G : List Bl) (us : Nat → Value) (w : World) : Prop :=
  (∀ d, d ∈ D → d.1 ∉ R → F d.1 us w) ∧ ∀ g, g ∈ G0 → (∀ x, x ∈ G → x.1 ≠ g.1) → F g.1 us w
theorem g_M (hsel : Region.noSelect ops = true) (ht : tailB md ops m = true) (hQ : ∀ c a d v w, Q (.panic c) (Act.put a d v) w → Q (.panic c) a w)
    {J : List Nat → World → Prop} (hJ : ∀ R W, J R W → S W) {F : Nat → (Nat → Value) → World → Prop} {D G0 : List Bl} {ds : List Nat} {R0 : Act → World → Prop} {a : Act}
    (h : ParOK P ops Q S J F D G0 ds R0 a) (hdep : ∀ g, g ∈ G0 → ∀ x, x ∈ g.2 → ∃ d, d ∈ D ∧ d.1 = x) {R : List Nat} {k : List Bl → Array Bool → Nat → Bool}
    (hk : ∀ kept listed fuel us w, HeadInv md ops m listed → k kept listed fuel = true → J R w → Facts F D G0 R kept us w → (∀ x, x ∈ kept → x ∈ G0) → wpAnyM P md ops Q S m fuel listed (putAll ds us a) w) :
    ∀ (G kept : List Bl) (listed : Array Bool) (fuel : Nat) (us : Nat → Value) (w : World), HeadInv md ops m listed → gGo md ops m R k G kept listed fuel = true → J R w → Facts F D G0 R (G ++ kept) us w → (∀ x, x ∈ G ++ kept → x ∈ G0) →
      wpAnyM P md ops Q S m fuel listed (putAll ds us a) w
  | [], kept, listed, fuel, us, w, inv, hB, hj, hF, hG => hk kept listed fuel us w inv hB hj (by simpa using hF) (by simpa using hG)
  | g :: G, kept, listed, fuel, us, w, inv, hB, hj, hF, hG => by
    unfold gGo at hB
    split at hB
    · next hall =>
      cases fuel with
      | zero => cases hB
      | succ f =>
        simp only [Bool.and_eq_true, decide_eq_true_eq] at hB
        obtain ⟨⟨⟨h1, h2⟩, h3⟩, h4⟩ := hB
        have hr : g.1 ∈ Region.ready md ops listed := by simpa using h2
        have hg0 : g ∈ G0 := hG g (by simp)
        obtain ⟨o, ho, v, us', hy, hput, hFg, hFe⟩ := h.2.1 us w g R hg0 hj (fun x hx => by
          obtain ⟨d, hd, rfl⟩ := hdep g hg0 x hx
          refine hF.1 d hd fun hm => ?_
          have := List.all_eq_true.1 hall _ hx
          simp [hm] at this)
        refine wpAnyM_first ho (Region.noSelect_spec hsel) (fun c a w => hQ c a _ _ w) ht h1 _ listed _ w inv (Region.free_spec ho h3) hr hy (hJ _ _ hj) ?_
        rw [hput]
        refine g_M hsel ht hQ hJ h hdep hk G kept _ f us' w (inv.set hr h1) h4 hj ⟨fun d hd hne => ?_, fun x hx hne => ?_⟩ (fun x hx => hG x (by simp at hx ⊢; exact .inr hx))
        · by_cases he : d.1 = g.1
          · rw [he]; exact hFg
          · exact hFe d.1 (List.mem_append.2 (.inl (List.mem_map.2 ⟨d, hd, rfl⟩))) he (hF.1 d hd hne)
        · by_cases he : x.1 = g.1
          · rw [he]; exact hFg
          · exact hFe x.1 (List.mem_append.2 (.inr (List.mem_map.2 ⟨x, hx, rfl⟩))) he (hF.2 x hx fun y hy => by
              rcases List.mem_cons.1 (show y ∈ g :: (G ++ kept) from hy) with rfl | hy
              · exact fun e => he e.symm
              · exact hne y hy)
    · exact g_M hsel ht hQ hJ h hdep hk G (g :: kept) listed fuel us w inv hB hj ⟨hF.1, fun x hx hne => hF.2 x hx fun y hy => hne y (by simp at hy ⊢; rcases hy with h | h | h <;> simp [h])⟩ (fun x hx => hG x (by simp at hx ⊢; rcases hx with h | h | h <;> simp [h]))
theorem par_M {l : List Oper} (hl : l.toArray = ops) (hsel : Region.noSelect ops = true) (ht : tailB md ops m = true) (hms : m ≤ ops.size) (hQ : ∀ c a d v w, Q (.panic c) (Act.put a d v) w → Q (.panic c) a w)
    {J : List Nat → World → Prop} (hJ : ∀ R W, J R W → S W) {F : Nat → (Nat → Value) → World → Prop} {D G0 : List Bl} {ds : List Nat} {post : List (Nat × Bool)} {a : Act}
    (h : ParOK P ops Q S J F D G0 ds (wpHold P ops Q S (wpList P ops Q (l.drop m)) post) a) (hdep : ∀ g, g ∈ G0 → ∀ x, x ∈ g.2 → ∃ d, d ∈ D ∧ d.1 = x) (hdis : ∀ d g, d ∈ D → g ∈ G0 → g.1 ≠ d.1) :
    ∀ (n : Nat) (R G : List Bl) (listed : Array Bool) (fuel : Nat) (us : Nat → Value) (w : World), HeadInv md ops m listed → parGo md ops m post n R G listed fuel = true → R.length = n → J (R.map (·.1)) w →
      (∀ d, d ∈ R → d ∈ D) → Facts F D G0 (R.map (·.1)) G us w → (∀ x, x ∈ G → x ∈ G0) → wpAnyM P md ops Q S m fuel listed (putAll ds us a) w
  | 0, R, G, listed, fuel, us, w, inv, hB, hn, hS, _, hF, _ => by
    simp only [parGo, Bool.and_eq_true, decide_eq_true_eq, List.isEmpty_iff] at hB
    have hR : R = [] := List.length_eq_zero_iff.1 hn
    subst hR
    obtain ⟨⟨⟨-, hGe⟩, hB1⟩, hB2⟩ := hB
    subst hGe
    exact wpAnyM_le hB2 (hold_M hl hsel ht hms hQ post listed _ w inv hB1 (hJ _ _ hS) (h.2.2 us w hS fun e he => by
      rcases List.mem_append.1 he with he | he
      · obtain ⟨d, hd, rfl⟩ := List.mem_map.1 he; exact hF.1 d hd (by simp)
      · obtain ⟨g, hg, rfl⟩ := List.mem_map.1 he; exact hF.2 g hg (fun x hx => by simp at hx)))
  | n + 1, R, G, listed, 0, us, w, inv, hB, hn, hS, hRD, hF, _ => by simp [parGo] at hB
  | n + 1, R, G, listed, fuel + 1, us, w, inv, hB, hn, hS, hRD, hF, hGG => by
    simp only [parGo, Bool.and_eq_true, decide_eq_true_eq, List.all_eq_true, beq_iff_eq] at hB
    obtain ⟨hr, hall⟩ := hB
    refine ⟨fun h0 => ?_, fun j hj => ?_⟩
    · rw [hr] at h0; rw [List.map_eq_nil_iff.1 h0] at hn; simp at hn
    · have hj' := hj
      rw [hr] at hj
      obtain ⟨d, hd, rfl⟩ := List.mem_map.1 hj
      obtain ⟨⟨hjm, hlen⟩, hgo⟩ := hall d hd
      obtain ⟨o, ho, hw⟩ := h.1 us w d (R.map (·.1)) (hRD d hd) hj hS
      refine wpOp_mono (fun a' w' h' => ⟨fun _ => h'.1, ?_⟩) (wpOp_of_one ho hw)
      refine fl_M hsel ht hQ (fun listed' fuel' a' w' inv' hk hT => ?_) d.2 _ fuel a' w' (inv.set hj' hjm) hgo h'.1 h'.2
      obtain ⟨hJ', us', rfl, hFj, hFe⟩ := hT
      have hJ2 : J ((R.filter (fun e => e.1 != d.1)).map (·.1)) w' := by rw [List.filter_map] at hJ'; exact hJ'
      have hF2 : Facts F D G0 ((R.filter (fun e => e.1 != d.1)).map (·.1)) G us' w' := by
        refine ⟨fun e he hne => ?_, fun g hg hne => hFe g.1 (List.mem_append.2 (.inr (List.mem_map.2 ⟨g, hg, rfl⟩))) (hdis d g (hRD d hd) hg) (hF.2 g hg hne)⟩
        by_cases hed : e.1 = d.1
        · rw [hed]; exact hFj
        · refine hFe e.1 (List.mem_append.2 (.inl (List.mem_map.2 ⟨e, he, rfl⟩))) hed (hF.1 e he fun hm => hne ?_)
          obtain ⟨x, hx, hxe⟩ := List.mem_map.1 hm
          exact List.mem_map.2 ⟨x, List.mem_filter.2 ⟨hx, by simp [hxe, hed]⟩, hxe⟩
      refine g_M hsel ht hQ hJ h hdep (fun kept listed2 fuel2 us2 w2 inv2 hk2 hj2 hf2 hkG => ?_) G [] listed' fuel' us' w' inv' hk hJ2 (by simpa using hF2) (by simpa using hGG)
      exact par_M hl hsel ht hms hQ hJ h hdep hdis n _ kept listed2 fuel2 us2 w2 inv2 hk2 hlen hj2 (fun e he => hRD e (List.mem_filter.1 he).1) hf2 hkG
/-- the operations ahead, the block, the operations behind -/
def parPre (md : Region.Mode) (ops : Array Oper) (m : Nat) (D G : List Bl) (post : List (Nat × Bool)) : List (Nat × Bool) → Array Bool → Nat → Bool
  | [], listed, fuel => parGo md ops m post D.length D G listed fuel
  | _ :: _, _, 0 => false
  | (k, true) :: r, listed, fuel + 1 => decide (k < m) && (Region.ready md ops listed).contains k && Region.free md ops listed k && parPre md ops m D G post r (listed.setIfInBounds k true) fuel
  | (k, false) :: r, listed, fuel + 1 => decide (k < m) && decide (Region.ready md ops listed = [k]) && parPre md ops m D G post r (listed.setIfInBounds k true) fuel
theorem pre_M {l : List Oper} (hl : l.toArray = ops) (hsel : Region.noSelect ops = true) (ht : tailB md ops m = true) (hms : m ≤ ops.size) (hQ : ∀ c a d v w, Q (.panic c) (Act.put a d v) w → Q (.panic c) a w)
    {J : List Nat → World → Prop} (hJ : ∀ R W, J R W → S W) {F : Nat → (Nat → Value) → World → Prop} {D G : List Bl} {ds : List Nat} {post : List (Nat × Bool)} (hdep : ∀ g, g ∈ G → ∀ x, x ∈ g.2 → ∃ d, d ∈ D ∧ d.1 = x) (hdis : ∀ d g, d ∈ D → g ∈ G → g.1 ≠ d.1) :
    ∀ (pre : List (Nat × Bool)) (listed : Array Bool) (fuel : Nat) (a : Act) (w : World), HeadInv md ops m listed → parPre md ops m D G post pre listed fuel = true → S w →
      wpHold P ops Q S (fun a w => J (D.map (·.1)) w ∧ ParOK P ops Q S J F D G ds (wpHold P ops Q S (wpList P ops Q (l.drop m)) post) a) pre a w →
      wpAnyM P md ops Q S m fuel listed a w
  | [], listed, fuel, a, w, inv, hB, hS, h => by
    have h2 := par_M (P := P) hl hsel ht hms hQ hJ h.2 hdep hdis D.length D G listed fuel (fun d => a.tmps.getD d undef) w inv hB rfl h.1 (fun _ hd => hd) ⟨fun d hd hne => absurd (List.mem_map.2 ⟨d, hd, rfl⟩) hne, fun g hg hne => absurd rfl (hne g hg)⟩ (fun _ hx => hx)
    rwa [putAll_self] at h2
  | _ :: _, _, 0, _, _, _, hB, _, _ => by simp [parPre] at hB
  | (k, true) :: r, listed, fuel + 1, a, w, inv, hB, hS, h => by
    obtain ⟨o, ho, v, hy, h⟩ := h
    simp only [parPre, Bool.and_eq_true, decide_eq_true_eq] at hB
    obtain ⟨⟨⟨h1, h2⟩, h3⟩, h4⟩ := hB
    have hr : k ∈ Region.ready md ops listed := by simpa using h2
    exact wpAnyM_first ho (Region.noSelect_spec hsel) (fun c a w => hQ c a _ _ w) ht h1 _ listed a w inv (Region.free_spec ho h3) hr hy hS
      (pre_M hl hsel ht hms hQ hJ hdep hdis r _ fuel _ w (inv.set hr h1) h4 hS h)
  | (k, false) :: r, listed, fuel + 1, a, w, inv, hB, hS, h => by
    obtain ⟨o, ho, h⟩ := h
    simp only [parPre, Bool.and_eq_true, decide_eq_true_eq] at hB
    obtain ⟨⟨h1, h2⟩, h4⟩ := hB
    refine ⟨fun h0 => (by rw [h2] at h0; cases h0), fun i hi => ?_⟩
    have hi' := hi
    rw [h2] at hi
    have hik : i = k := by simpa using hi
    subst hik
    exact wpOp_mono (fun a' w' h' => ⟨fun _ => h'.1, pre_M hl hsel ht hms hQ hJ hdep hdis r _ fuel a' w' (inv.set hi' h1) h4 h'.1 h'.2⟩) (wpOp_of_one ho h)
def parB (ops : Array Oper) (m : Nat) (D G : List Bl) (pre post : List (Nat × Bool)) : Bool :=
  Region.noSelect ops && tailB .any ops m && decide (m ≤ ops.size) && (G.all (fun g => g.2.all fun x => (D.map (·.1)).contains x) && D.all (fun d => G.all fun g => g.1 != d.1)) && parPre .any ops m D G post pre (Array.replicate ops.size false) ops.size
/-- the words that no tactic looks into -/
@[irreducible] def HPre (P : Program) (ops : Array Oper) (Q : Exit → Act → World → Prop) (S : World → Prop) (J : List Nat → World → Prop) (F : Nat → (Nat → Value) → World → Prop) (D G : List Bl) (ds : List Nat) (l : List Oper) (pre post : List (Nat × Bool)) (a : Act) (w : World) : Prop :=
  wpHold P ops Q S (fun a w => J (D.map (·.1)) w ∧ ParOK P ops Q S J F D G ds (wpHold P ops Q S (wpList P ops Q l) post) a) pre a w
@[irreducible] def HCh (P : Program) (ops : Array Oper) (Q : Exit → Act → World → Prop) (S : World → Prop) (T : Act → World → Prop) (ord : List (Nat × Bool)) (a : Act) (w : World) : Prop := wpHold P ops Q S T ord a w
end
section
variable {P : Program} {Q : Exit → Act → World → Prop} {S : World → Prop} {J : List Nat → World → Prop} {a : Act} {w : World} {F : Nat → (Nat → Value) → World → Prop} {D G : List Bl} {ds : List Nat}
theorem wp_region_par {id : Nat} {l : List Oper} (S : World → Prop) (J : List Nat → World → Prop) (F : Nat → (Nat → Value) → World → Prop) (m : Nat) (D G : List Bl) (ds : List Nat) (pre post : List (Nat × Bool)) (hm : P.follows .mixedOrders = true) (hB : parB l.toArray m D G pre post = true)
    (hJ : ∀ R W, J R W → S W) (hS : S w.drew)
    (h : HPre P l.toArray (NoPanic Q) S J F D G ds (l.drop m) pre post a w.drew) : (Code.region id l.toArray true).wp P Q a w := by
  simp only [parB, Bool.and_eq_true, decide_eq_true_eq, List.all_eq_true, bne_iff_ne, List.contains_iff_mem] at hB
  obtain ⟨⟨⟨⟨hsel, ht⟩, hms⟩, hdep, hdis⟩, hgo⟩ := hB
  refine wp_region_noPanic (wp_region_any hm (wpAny_of_M (S := S) (m := m) _ _ _ _ ?_))
  have inv0 : HeadInv .any l.toArray m (Array.replicate l.toArray.size false) :=
    ⟨by simp, fun j oj _ hl => (by rw [getD_replicate_false] at hl; cases hl), fun t _ ht => getD_in (by simpa using ht) (getD_replicate_false _ _)⟩
  unfold HPre at h
  exact pre_M (md := .any) (P := P) (Q := NoPanic Q) (S := S) (F := F) rfl hsel ht hms (fun _ _ _ _ _ h => h) hJ (fun g hg x hx => by obtain ⟨d, hd, e⟩ := List.mem_map.1 (hdep g hg x hx); exact ⟨d, hd, e⟩) (fun d g hd hg => hdis d hd g hg) pre _ _ a _ inv0 hgo hS h
variable {ol l : List Oper} {r post : List (Nat × Bool)} {k : Nat} {o : Oper} {u : Value} {T : Act → World → Prop}
theorem hp_read (ho : ol[k]? = some o) (hg : Region.wanted o (yielded ol.toArray a.tmps) = true) (hv : ∀ W, S W → (execOp a.eval o).run P W = .ok (.value u) W)
    (h : HPre P ol.toArray Q S J F D G ds l r post (a.put o.dst u) w) : HPre P ol.toArray Q S J F D G ds l ((k, true) :: r) post a w := by
  unfold HPre at h ⊢
  exact ⟨o, get_of_list ho, u, .inl ⟨hg, hv⟩, h⟩
theorem hp_skip (ho : ol[k]? = some o) (hg : Region.wanted o (yielded ol.toArray a.tmps) = false) (h : HPre P ol.toArray Q S J F D G ds l r post (a.put o.dst undef) w) : HPre P ol.toArray Q S J F D G ds l ((k, true) :: r) post a w := by
  unfold HPre at h ⊢
  exact ⟨o, get_of_list ho, undef, .inr ⟨hg, rfl⟩, h⟩
/-- the block: one goal for each of its operations, then the rest -/
theorem hp_par (h0 : J (D.map (·.1)) w) (h1 : ∀ us W d R, d ∈ D → d.1 ∈ R → J R W → HCh P ol.toArray Q S (ParT P J F (allOf D G) ds a us W R d.1) (chainOf d) (putAll ds us a) W)
    (hg : ∀ us W g R, g ∈ G → J R W → (∀ h, h ∈ g.2 → F h us W) → ∃ o, ol[g.1]? = some o ∧ ∃ v us', (Region.wanted o (yielded ol.toArray (putAll ds us a).tmps) = true ∧ ∀ W, S W → (execOp (putAll ds us a).eval o).run P W = .ok (.value v) W) ∧ (putAll ds us a).put o.dst v = putAll ds us' a ∧ F g.1 us' W ∧ ∀ e, e ∈ allOf D G → e ≠ g.1 → F e us W → F e us' W)
    (h2 : ∀ us W, J [] W → (∀ e, e ∈ allOf D G → F e us W) → HW P ol.toArray Q S l post (putAll ds us a) W) : HPre P ol.toArray Q S J F D G ds l [] post a w := by
  unfold HPre
  refine ⟨h0, fun us W d R hd hR hS => ?_, fun us W g R hG hj hf => ?_, fun us W hS hF => of_HW (h2 us W hS hF)⟩
  · have := h1 us W d R hd hR hS
    unfold HCh at this
    exact this
  · obtain ⟨o, ho, v, us', hy, h3⟩ := hg us W g R hG hj hf
    exact ⟨o, get_of_list ho, v, us', .inl hy, h3⟩
theorem hc_step (ho : ol[k]? = some o) (h : wpList P ol.toArray (Exit.then (fun a' w' => S w' ∧ HCh P ol.toArray Q S T r a' w') Q) [o] a w) : HCh P ol.toArray Q S T ((k, false) :: r) a w := by
  unfold HCh at h ⊢
  exact ⟨o, get_of_list ho, h⟩
theorem hc_read (ho : ol[k]? = some o) (hg : Region.wanted o (yielded ol.toArray a.tmps) = true) (hv : ∀ W, S W → (execOp a.eval o).run P W = .ok (.value u) W)
    (h : HCh P ol.toArray Q S T r (a.put o.dst u) w) : HCh P ol.toArray Q S T ((k, true) :: r) a w := by
  unfold HCh at h ⊢
  exact ⟨o, get_of_list ho, u, .inl ⟨hg, hv⟩, h⟩
theorem hc_nil (h : T a w) : HCh P ol.toArray Q S T [] a w := by
  unfold HCh; exact h
end
end Go.Sf
