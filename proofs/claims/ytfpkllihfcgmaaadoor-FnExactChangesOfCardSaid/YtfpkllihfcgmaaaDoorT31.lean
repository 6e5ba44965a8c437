/- The changes between two lists of items, each one's ids told. -/
import Derived.Test.YtfpkllihfcgmaaaDoorT30
import Derived.Test.YtfpkllihfcgmaaaDoorGG
namespace Go.Sf
open Go Go.RowKit Go.Proofs
def chgU : List (It × Value) → List (It × Value) → List (Ch × Value)
  | [], [] => []
  | a :: az, [] => (⟨2, a.1⟩, a.2) :: chgU az []
  | [], b :: bz => (⟨1, b.1⟩, b.2) :: chgU [] bz
  | a :: az, b :: bz =>
    if blt a.1.path b.1.path = true then (⟨2, a.1⟩, a.2) :: chgU az (b :: bz)
    else if blt b.1.path a.1.path = true then (⟨1, b.1⟩, b.2) :: chgU (a :: az) bz
    else if a.1.dir = b.1.dir then (if eqb a.1 b.1 = true then chgU az bz else (⟨3, b.1⟩, b.2) :: chgU az bz)
    else (⟨2, a.1⟩, a.2) :: (⟨1, b.1⟩, b.2) :: chgU az bz
  termination_by a b => a.length + b.length
theorem chgU_nil : chgU [] [] = [] := by unfold chgU; rfl
theorem chgU_left (a : It × Value) (az : List (It × Value)) : chgU (a :: az) [] = (⟨2, a.1⟩, a.2) :: chgU az [] := by rw [chgU]
theorem chgU_right (b : It × Value) (bz : List (It × Value)) : chgU [] (b :: bz) = (⟨1, b.1⟩, b.2) :: chgU [] bz := by rw [chgU]
theorem chgU_lt {a b : It × Value} (az bz : List (It × Value)) (h : blt a.1.path b.1.path = true) : chgU (a :: az) (b :: bz) = (⟨2, a.1⟩, a.2) :: chgU az (b :: bz) := by
  rw [chgU, if_pos h]
theorem chgU_gt {a b : It × Value} (az bz : List (It × Value)) (h : blt a.1.path b.1.path = false) (h2 : blt b.1.path a.1.path = true) : chgU (a :: az) (b :: bz) = (⟨1, b.1⟩, b.2) :: chgU (a :: az) bz := by
  rw [chgU, if_neg (by simp [h]), if_pos h2]
theorem chgU_two {a b : It × Value} (az bz : List (It × Value)) (h : blt a.1.path b.1.path = false) (h2 : blt b.1.path a.1.path = false) (h3 : ¬ a.1.dir = b.1.dir) : chgU (a :: az) (b :: bz) = (⟨2, a.1⟩, a.2) :: (⟨1, b.1⟩, b.2) :: chgU az bz := by
  rw [chgU, if_neg (by simp [h]), if_neg (by simp [h2]), if_neg h3]
theorem chgU_same {a b : It × Value} (az bz : List (It × Value)) (h : blt a.1.path b.1.path = false) (h2 : blt b.1.path a.1.path = false) (h3 : a.1.dir = b.1.dir) (h4 : eqb a.1 b.1 = true) : chgU (a :: az) (b :: bz) = chgU az bz := by
  rw [chgU, if_neg (by simp [h]), if_neg (by simp [h2]), if_pos h3, if_pos h4]
theorem chgU_other {a b : It × Value} (az bz : List (It × Value)) (h : blt a.1.path b.1.path = false) (h2 : blt b.1.path a.1.path = false) (h3 : a.1.dir = b.1.dir) (h4 : eqb a.1 b.1 = false) : chgU (a :: az) (b :: bz) = (⟨3, b.1⟩, b.2) :: chgU az bz := by
  rw [chgU, if_neg (by simp [h]), if_neg (by simp [h2]), if_pos h3, if_neg (by simp [h4])]
theorem chgU_fst : ∀ (n : Nat) (a b : List (It × Value)), a.length + b.length ≤ n → (chgU a b).map Prod.fst = chg (a.map Prod.fst) (b.map Prod.fst) := by
  intro n
  induction n with
  | zero =>
    intro a b h
    rw [List.length_eq_zero_iff.1 (by omega : a.length = 0), List.length_eq_zero_iff.1 (by omega : b.length = 0), chgU_nil]
    simp [chg_nil]
  | succ n ih =>
    intro l1 l2 h
    cases l1 with
    | nil =>
      cases l2 with
      | nil => rw [chgU_nil]; simp [chg_nil]
      | cons b bz =>
        have := ih [] bz (by simp at h ⊢; omega)
        rw [chgU_right, List.map_cons, this, List.map_nil, List.map_cons, chg_right]
    | cons a az =>
      cases l2 with
      | nil =>
        have := ih az [] (by simp at h ⊢; omega)
        rw [chgU_left, List.map_cons, this, List.map_nil, List.map_cons, chg_left]
      | cons b bz =>
        simp only [List.length_cons] at h
        have h1 := ih az (b :: bz) (by simp; omega)
        have h2 := ih (a :: az) bz (by simp; omega)
        have h3 := ih az bz (by omega)
        simp only [List.map_cons] at h1 h2 ⊢
        rw [chgU, chg]
        repeat' split
        all_goals simp only [List.map_cons, h1, h2, h3]
/-- where a change's ids lie: in the first list's, in the second's -/
theorem chgU_mem : ∀ (n : Nat) (a b : List (It × Value)), a.length + b.length ≤ n → ∀ q, q ∈ chgU a b → (∃ p, p ∈ a ∧ p.2 = q.2) ∨ (∃ p, p ∈ b ∧ p.2 = q.2) := by
  intro n
  induction n with
  | zero =>
    intro a b h q hq
    rw [List.length_eq_zero_iff.1 (by omega : a.length = 0), List.length_eq_zero_iff.1 (by omega : b.length = 0), chgU_nil] at hq
    simp at hq
  | succ n ih =>
    intro l1 l2 h q hq
    have tl : ∀ {l1 l2 r1 r2 : List (It × Value)}, (∀ p, p ∈ r1 → p ∈ l1) → (∀ p, p ∈ r2 → p ∈ l2) → ((∃ p, p ∈ r1 ∧ p.2 = q.2) ∨ (∃ p, p ∈ r2 ∧ p.2 = q.2)) → (∃ p, p ∈ l1 ∧ p.2 = q.2) ∨ (∃ p, p ∈ l2 ∧ p.2 = q.2) := fun h1 h2 h => by
      rcases h with ⟨p, hp, e⟩ | ⟨p, hp, e⟩
      · exact .inl ⟨p, h1 p hp, e⟩
      · exact .inr ⟨p, h2 p hp, e⟩
    cases l1 with
    | nil =>
      cases l2 with
      | nil => rw [chgU_nil] at hq; simp at hq
      | cons b bz =>
        rw [chgU_right] at hq
        rcases List.mem_cons.1 hq with rfl | hq
        · exact .inr ⟨b, by simp, rfl⟩
        · exact tl (fun p h => h) (fun p h => by simp [h]) (ih [] bz (by simp at h ⊢; omega) q hq)
    | cons a az =>
      cases l2 with
      | nil =>
        rw [chgU_left] at hq
        rcases List.mem_cons.1 hq with rfl | hq
        · exact .inl ⟨a, by simp, rfl⟩
        · exact tl (fun p h => by simp [h]) (fun p h => h) (ih az [] (by simp at h ⊢; omega) q hq)
      | cons b bz =>
        simp only [List.length_cons] at h
        have h1 := fun hq => tl (l1 := a :: az) (l2 := b :: bz) (fun p h => by simp [h]) (fun p h => h) (ih az (b :: bz) (by simp; omega) q hq)
        have h2 := fun hq => tl (l1 := a :: az) (l2 := b :: bz) (fun p h => h) (fun p h => by simp [h]) (ih (a :: az) bz (by simp; omega) q hq)
        have h3 := fun hq => tl (l1 := a :: az) (l2 := b :: bz) (fun p h => by simp [h]) (fun p h => by simp [h]) (ih az bz (by omega) q hq)
        rw [chgU] at hq
        repeat' split at hq
        · rcases List.mem_cons.1 hq with rfl | hq
          · exact .inl ⟨a, by simp, rfl⟩
          · exact h1 hq
        · rcases List.mem_cons.1 hq with rfl | hq
          · exact .inr ⟨b, by simp, rfl⟩
          · exact h2 hq
        · exact h3 hq
        · rcases List.mem_cons.1 hq with rfl | hq
          · exact .inr ⟨b, by simp, rfl⟩
          · exact h3 hq
        · rcases List.mem_cons.1 hq with rfl | hq
          · exact .inl ⟨a, by simp, rfl⟩
          · rcases List.mem_cons.1 hq with rfl | hq
            · exact .inr ⟨b, by simp, rfl⟩
            · exact h3 hq
/-- changes of two lists whose ids lie all apart lie apart -/
theorem chgU_sep : ∀ (n : Nat) (a b : List (It × Value)), a.length + b.length ≤ n → Sep a → Sep b → (∀ p, p ∈ a → ∀ q, q ∈ b → ∀ g, p.2.ownBlock = some g → q.2.ownBlock ≠ some g) → Sep (chgU a b) := by
  intro n
  induction n with
  | zero =>
    intro a b h _ _ _
    rw [List.length_eq_zero_iff.1 (by omega : a.length = 0), List.length_eq_zero_iff.1 (by omega : b.length = 0), chgU_nil]
    exact List.Pairwise.nil
  | succ n ih =>
    intro l1 l2 h s1 s2 s3
    have con : ∀ {u : Value} {c : Ch} {r1 r2 : List (It × Value)}, Sep (chgU r1 r2) → (∀ p, p ∈ r1 → ∀ g, u.ownBlock = some g → p.2.ownBlock ≠ some g) → (∀ p, p ∈ r2 → ∀ g, u.ownBlock = some g → p.2.ownBlock ≠ some g) → Sep ((c, u) :: chgU r1 r2) := fun hs k1 k2 => by
      refine List.Pairwise.cons (fun q hq g hg => ?_) hs
      rcases chgU_mem _ _ _ (Nat.le_refl _) q hq with ⟨p, hp, e⟩ | ⟨p, hp, e⟩
      · rw [← e]; exact k1 p hp g hg
      · rw [← e]; exact k2 p hp g hg
    cases l1 with
    | nil =>
      cases l2 with
      | nil => rw [chgU_nil]; exact List.Pairwise.nil
      | cons b bz =>
        rw [chgU_right]
        have s2' := List.pairwise_cons.1 s2
        exact con (ih [] bz (by simp at h ⊢; omega) s1 s2'.2 (fun p hp => by simp at hp)) (fun p hp => by simp at hp) (fun p hp g hg => s2'.1 p hp g hg)
    | cons a az =>
      have s1' := List.pairwise_cons.1 s1
      cases l2 with
      | nil =>
        rw [chgU_left]
        exact con (ih az [] (by simp at h ⊢; omega) s1'.2 s2 (fun p hp q hq => by simp at hq)) (fun p hp g hg => s1'.1 p hp g hg) (fun p hp => by simp at hp)
      | cons b bz =>
        have s2' := List.pairwise_cons.1 s2
        simp only [List.length_cons] at h
        have h1 := ih az (b :: bz) (by simp; omega) s1'.2 s2 (fun p hp q hq => s3 p (by simp [hp]) q hq)
        have h2 := ih (a :: az) bz (by simp; omega) s1 s2'.2 (fun p hp q hq => s3 p hp q (by simp [hq]))
        have h3 := ih az bz (by omega) s1'.2 s2'.2 (fun p hp q hq => s3 p (by simp [hp]) q (by simp [hq]))
        have ka : ∀ p, p ∈ az → ∀ g, a.2.ownBlock = some g → p.2.ownBlock ≠ some g := fun p hp g hg => s1'.1 p hp g hg
        have kb : ∀ p, p ∈ bz → ∀ g, b.2.ownBlock = some g → p.2.ownBlock ≠ some g := fun p hp g hg => s2'.1 p hp g hg
        have kab : ∀ p, p ∈ b :: bz → ∀ g, a.2.ownBlock = some g → p.2.ownBlock ≠ some g := fun p hp g hg => s3 a (by simp) p hp g hg
        have kba : ∀ p, p ∈ a :: az → ∀ g, b.2.ownBlock = some g → p.2.ownBlock ≠ some g := fun p hp g hg hp2 => s3 p hp b (by simp) g hp2 hg
        rw [chgU]
        repeat' split
        · exact con h1 ka kab
        · exact con h2 kba kb
        · exact h3
        · exact con h3 (fun p hp => kba p (by simp [hp])) kb
        · refine List.Pairwise.cons (fun q hq g hg => ?_) (con h3 (fun p hp => kba p (by simp [hp])) kb)
          rcases List.mem_cons.1 hq with rfl | hq
          · exact kab b (by simp) g hg
          · rcases chgU_mem _ _ _ (Nat.le_refl _) q hq with ⟨p, hp, e⟩ | ⟨p, hp, e⟩
            · rw [← e]; exact ka p hp g hg
            · rw [← e]; exact kab p (by simp [hp]) g hg
def ECgU (B : Nat) (w : World) (cs : Array Value) (p : Nat) (c : Ch × Value) : Prop :=
  (c.1.kind = 1 ∨ c.1.kind = 2 ∨ c.1.kind = 3) ∧ c.1.item.path.size < lim ∧ cs[p]? = some (chgV c.1.kind c.1.item c.2) ∧ Ints B w c.2 c.1.item.ids
theorem ECgU_ok (B : Nat) : ElOk 57 1 (ECgU B) := ⟨fun _ _ _ _ _ hk ⟨h1, h2, h3, h4⟩ => ⟨h1, h2, h3, h4.keepT hk (by decide)⟩, fun _ _ _ p p' _ hj ⟨h1, h2, h3, h4⟩ => ⟨h1, h2, by have := hj 0 (by omega); simp only [Nat.add_zero] at this; rw [this]; exact h3, h4⟩, fun _ _ _ c ⟨_, _, h3, _⟩ j hj => ⟨chgV c.1.kind c.1.item c.2, by
  have : j = 0 := by omega
  subst this; exact h3, rfl⟩⟩
theorem ecgU_of {B : Nat} {w : World} {x : It} {u : Value} {k : Int} (hk : k = 1 ∨ k = 2 ∨ k = 3) (h1 : x.path.size < lim) (h2 : Ints B w u x.ids) : ECgU B w #[chgV k x u] 0 (⟨k, x⟩, u) := ⟨hk, h1, rfl, h2⟩
theorem ItsU.head {B : Nat} {w : World} {A : Option Addr} {c : Nat} {x : It} {u : Value} {l : List (It × Value)} (h : SlIn B 35 3 (EItU B) w A c ((x, u) :: l)) :
    ∃ b o A2 c2, u = .slice A2 x.ids.length c2 ∧ A = some ⟨b, o, none⟩ ∧ l.length + 1 ≤ c ∧ c ≤ 9223372036854775807 ∧ x.path.size < lim ∧ Ints B w (.slice A2 x.ids.length c2) x.ids ∧ x.ids.length ≤ lim ∧ (∀ W, Ext w W → W.cell? ⟨b, o, none⟩ = some (.string x.path)) ∧ (∀ W, Ext w W → W.cell? ⟨b, o + 1, none⟩ = some (.bool x.dir)) ∧ (∀ W, Ext w W → W.cell? ⟨b, o + 2, none⟩ = some (.slice A2 x.ids.length c2)) := by
  obtain ⟨b, o, cs, rfl, -, hb, h0, h1, h2, h3, h4⟩ := h.2.2.2 0 (x, u) rfl
  simp only [Nat.zero_mul, Nat.add_zero] at h0 h1 h2 h3 h4
  have hl := h4.len
  obtain ⟨A2, c2, rfl, hu⟩ := h4
  exact ⟨b, o, A2, c2, rfl, rfl, by simpa using h.1, by have := h.2.1.1; unfold maxLen at this; omega, h1, ⟨_, _, rfl, hu⟩, hl, hb.at_ h0, hb.at_ h2, hb.at_ h3⟩
/-- what the loop keeps: la and lb are still to come -/
def CbRelU (B : Nat) (l1 l2 : List (It × Value)) (w : World) (v1 v2 v : Value) (wr : World) : Prop :=
  ∃ la lb out A1 c1 A2 c2, v1 = .slice A1 la.length c1 ∧ v2 = .slice A2 lb.length c2 ∧ Hid (SlIn B 35 3 (EItU B) w A1 c1 la) ∧ Hid (SlIn B 35 3 (EItU B) w A2 c2 lb) ∧ Ext w wr ∧
    Hid (OwnS w.heap.size 57 1 (ECgU B) wr v out) ∧ out.length + (la.length + lb.length) ≤ l1.length + l2.length ∧ Hid (out ++ chgU la lb = chgU l1 l2)
theorem SlIn.tailIfU {B : Nat} {w : World} {b o c : Nat} {x : It × Value} {l : List (It × Value)} (h : SlIn B 35 3 (EItU B) w (some ⟨b, o, none⟩) c (x :: l)) : SlIn B 35 3 (EItU B) w (if c = 1 then some ⟨b, o, none⟩ else some ⟨b, o + 3, none⟩) (c - 1) l := by
  by_cases hc : c = 1
  · rw [if_pos hc]; exact h.tail0 hc (by simp)
  · rw [if_neg hc]; exact h.tail
set_option maxRecDepth 4000 in
set_option maxHeartbeats 4000000 in
theorem changesBetweenU_c {B : Nat} {v1 v2 : Value} {l1 l2 : List (It × Value)} (w : World) (h1 : ItsU B w v1 l1) (h2 : ItsU B w v2 l2) (hlen : l1.length + l2.length ≤ 1000) :
    Calls Tryd.prog 26 #[v1, v2] w (RetP (fun v w' => OwnS w.heap.size 57 1 (ECgU B) w' v (chgU l1 l2)) w) := by
  obtain ⟨A10, c10, rfl, hA10⟩ := h1
  obtain ⟨A20, c20, rfl, hA20⟩ := h2
  have H10 := Lib.hid hA10
  have H20 := Lib.hid hA20
  clear hA10 hA20
  go_enter Tryd.func26, Tryd.ntmps26
  go_wp2
  go_loopw [0, 1, 5] (fun v1 v2 v wr => CbRelU B l1 l2 w v1 v2 v wr) (fun v1 v2 _ _ => lenOf v1 + lenOf v2)
  case atStart => exact ⟨l1, l2, [], A10, c10, A20, c20, rfl, rfl, H10, H20, Ext.refl w, Lib.hid (OwnS.nil _ _ _ _ _), by simp, Lib.hid rfl⟩
  case round =>
    obtain ⟨la, lb, out, A1, c1, A2, c2, rfl, rfl, HA, HB, he, HO, hol, hrest⟩ := hrel
    cases la with
    | nil =>
      cases lb with
      | nil =>
        simp only [List.length_nil]
        have hr : Hid (out = chgU l1 l2) := Lib.hid (by have := hrest.out; rwa [chgU_nil, List.append_nil] at this)
        clear hrest
        go_wp2
        go_ret
        exact ⟨_, rfl, by rw [← hr.out]; exact HO.out, he⟩
      | cons y lb =>
        obtain ⟨y, uy⟩ := y
        obtain ⟨b2, o2, Ay, cy, rfl, rfl, hc1y, hc2y, hpsy, huy, huly, f0, f1, f2⟩ := ItsU.head HB.out
        have HTy := Lib.hid (SlIn.tailIfU HB.out)
        have gy0 := fun W (e : Ext wr W) => f0 W (he.trans e)
        have gy1 := fun W (e : Ext wr W) => f1 W (he.trans e)
        have gy2 := fun W (e : Ext wr W) => f2 W (he.trans e)
        have HUy := Lib.hid huy
        unfold lim at huly
        have HBk := HB
        clear f0 f1 f2 huy HB
        have hr : Hid (∀ c : Ch × Value, c = (⟨1, y⟩, Value.slice Ay y.ids.length cy) → (out ++ [c]) ++ chgU [] lb = chgU l1 l2) := Lib.hid fun c hc => by subst hc; have := hrest.out; rw [chgU_right] at this; simpa using this
        simp only [List.length_nil, List.length_cons] at hol ⊢
        clear hrest
        generalize hmlb : lb.length = mlb at *
        have Hmlb := Lib.hid hmlb; clear hmlb
        have hzlb : ((mlb : Int) + 1 == 0) = false := by rw [beq_eq_false_iff_ne]; omega
        go_wp2
        (refine wp_region_hold (fun W => Ext wr W) 16 [(0, true), (1, true), (2, true), (3, true), (4, true), (5, true), (6, true), (7, true), (8, true), (9, true), (10, true), (11, true), (12, true), (13, true), (14, true), (15, true)] (by kernel_rfl) (by kernel_rfl) ?_ ?_; (· (show Ext _ _); (repeat' (first | exact Ext.refl _ | assumption | refine Ext.alloc ?_ _ | refine Ext.drew ?_ | refine Ext.drewN ?_ _ | refine Ext.trans ?_ (by assumption)))); (repeat (first | (apply hw_read (by rfl) (by rfl); (· (intro W hW; (try dsimp only at hW); go_simp; (first | done | rfl | (rw [if_pos] <;> first | omega | rfl)))); (try simp only [Act.put, List.setIfInBounds_toArray, List.set_cons_zero, List.set_cons_succ])) | (refine hw_skip (by rfl) (by rfl) ?_; (try simp only [Act.put, List.setIfInBounds_toArray, List.set_cons_zero, List.set_cons_succ])))); (refine hw_nil ?_; simp only [List.drop_succ_cons, List.drop_zero]); go_wp2; all_goals (refine NoPanic.normal ?_; (try dsimp only [Exit.then])))
        go_wp2
        (refine wp_region_hold (fun W => Ext wr W) 12 [(0, true), (1, true), (2, true), (3, true), (4, true), (5, true), (6, true), (7, true), (8, true), (9, true), (10, true), (11, true)] (by kernel_rfl) (by kernel_rfl) ?_ ?_; (· (show Ext _ _); (repeat' (first | exact Ext.refl _ | assumption | refine Ext.alloc ?_ _ | refine Ext.drew ?_ | refine Ext.drewN ?_ _ | refine Ext.trans ?_ (by assumption)))); (repeat (first | (apply hw_read (by rfl) (by rfl); (· (intro W hW; (try dsimp only at hW); go_simp; (first | done | rfl | (rw [if_pos] <;> first | omega | rfl)))); (try simp only [Act.put, List.setIfInBounds_toArray, List.set_cons_zero, List.set_cons_succ])) | (refine hw_skip (by rfl) (by rfl) ?_; (try simp only [Act.put, List.setIfInBounds_toArray, List.set_cons_zero, List.set_cons_succ])))); (refine hw_nil ?_; simp only [List.drop_succ_cons, List.drop_zero]); go_wp2; all_goals (refine NoPanic.normal ?_; (try dsimp only [Exit.then])))
        have HO2 := Lib.hid (HO.out.ext (ECgU_ok _) (Ext.refl wr).drew.drew)
        have he2 : Ext w wr.drew.drew := he.drew.drew
        clear HO
        go_wp2_with (at_builtin; go_must (refine wp_ap1 (w0 := w) (by rfl) _ _ (by rfl) el_Cg (ECgU_ok _) he2 _ out [(⟨1, y⟩, .slice Ay y.ids.length cy)] (by rfl) HO2.out 1 1 rfl #[chgV 1 y (.slice Ay y.ids.length cy)] _ (by rfl) (by first | rfl | simp) rfl one1 (one_E (ecgU_of (.inl rfl) hpsy (HUy.out.ext he2))) ?_ ?_))
        · simp; unfold lim; omega
        · intro v' w' hO' he' hk'
          have HO' := Lib.hid hO'
          clear hO' hk' he2 he gy0 gy1 gy2
          go_wp2
          exact ⟨⟨[], lb, out ++ [(⟨1, y⟩, .slice Ay y.ids.length cy)], _, _, _, _, rfl, by rw [Hmlb.out], HA, HTy, he', HO', by have := Hmlb.out; simp; omega, Lib.hid (hr.out _ rfl)⟩, by simp [lenOf]⟩
    | cons x la =>
      obtain ⟨x, ux⟩ := x
      obtain ⟨b1, o1, Ax, cx, rfl, rfl, hc1x, hc2x, hpsx, hux, hulx, f0, f1, f2⟩ := ItsU.head HA.out
      have HTx := Lib.hid (SlIn.tailIfU HA.out)
      have gx0 := fun W (e : Ext wr W) => f0 W (he.trans e)
      have gx1 := fun W (e : Ext wr W) => f1 W (he.trans e)
      have gx2 := fun W (e : Ext wr W) => f2 W (he.trans e)
      have HUx := Lib.hid hux
      unfold lim at hulx
      have HAk := HA
      clear f0 f1 f2 hux HA
      cases lb with
      | nil =>
        have hr : Hid (∀ c : Ch × Value, c = (⟨2, x⟩, Value.slice Ax x.ids.length cx) → (out ++ [c]) ++ chgU la [] = chgU l1 l2) := Lib.hid fun c hc => by subst hc; have := hrest.out; rw [chgU_left] at this; simpa using this
        simp only [List.length_nil, List.length_cons] at hol ⊢
        clear hrest
        generalize hmla : la.length = mla at *
        have Hmla := Lib.hid hmla; clear hmla
        have hzla : ((mla : Int) + 1 == 0) = false := by rw [beq_eq_false_iff_ne]; omega
        go_wp2
        (refine wp_region_hold (fun W => Ext wr W) 16 [(0, true), (1, true), (2, true), (3, true), (4, true), (5, true), (6, true), (7, true), (8, true), (9, true), (10, true), (11, true), (12, true), (13, true), (14, true), (15, true)] (by kernel_rfl) (by kernel_rfl) ?_ ?_; (· (show Ext _ _); (repeat' (first | exact Ext.refl _ | assumption | refine Ext.alloc ?_ _ | refine Ext.drew ?_ | refine Ext.drewN ?_ _ | refine Ext.trans ?_ (by assumption)))); (repeat (first | (apply hw_read (by rfl) (by rfl); (· (intro W hW; (try dsimp only at hW); go_simp; (first | done | rfl | (rw [if_pos] <;> first | omega | rfl)))); (try simp only [Act.put, List.setIfInBounds_toArray, List.set_cons_zero, List.set_cons_succ])) | (refine hw_skip (by rfl) (by rfl) ?_; (try simp only [Act.put, List.setIfInBounds_toArray, List.set_cons_zero, List.set_cons_succ])))); (refine hw_nil ?_; simp only [List.drop_succ_cons, List.drop_zero]); go_wp2; all_goals (refine NoPanic.normal ?_; (try dsimp only [Exit.then])))
        have HO2 := Lib.hid (HO.out.ext (ECgU_ok _) (Ext.refl wr).drew)
        have he2 : Ext w wr.drew := he.drew
        clear HO
        go_wp2_with (at_builtin; go_must (refine wp_ap1 (w0 := w) (by rfl) _ _ (by rfl) el_Cg (ECgU_ok _) he2 _ out [(⟨2, x⟩, .slice Ax x.ids.length cx)] (by rfl) HO2.out 1 1 rfl #[chgV 2 x (.slice Ax x.ids.length cx)] _ (by rfl) (by first | rfl | simp) rfl one1 (one_E (ecgU_of (.inr (.inl rfl)) hpsx (HUx.out.ext he2))) ?_ ?_))
        · simp; unfold lim; omega
        · intro v' w' hO' he' hk'
          have HO' := Lib.hid hO'
          clear hO' hk' he2 he gx0 gx1 gx2
          go_wp2
          exact ⟨⟨la, [], out ++ [(⟨2, x⟩, .slice Ax x.ids.length cx)], _, _, _, _, by rw [Hmla.out], rfl, HTx, HB, he', HO', by have := Hmla.out; simp; omega, Lib.hid (hr.out _ rfl)⟩, by simp [lenOf]⟩
      | cons y lb =>
        obtain ⟨y, uy⟩ := y
        obtain ⟨b2, o2, Ay, cy, rfl, rfl, hc1y, hc2y, hpsy, huy, huly, f0, f1, f2⟩ := ItsU.head HB.out
        have HTy := Lib.hid (SlIn.tailIfU HB.out)
        have gy0 := fun W (e : Ext wr W) => f0 W (he.trans e)
        have gy1 := fun W (e : Ext wr W) => f1 W (he.trans e)
        have gy2 := fun W (e : Ext wr W) => f2 W (he.trans e)
        have HUy := Lib.hid huy
        unfold lim at huly
        have HBk := HB
        clear f0 f1 f2 huy HB
        simp only [List.length_cons] at hol ⊢
        generalize hmla : la.length = mla at *
        have Hmla := Lib.hid hmla; clear hmla
        have hzla : ((mla : Int) + 1 == 0) = false := by rw [beq_eq_false_iff_ne]; omega
        generalize hmlb : lb.length = mlb at *
        have Hmlb := Lib.hid hmlb; clear hmlb
        have hzlb : ((mlb : Int) + 1 == 0) = false := by rw [beq_eq_false_iff_ne]; omega
        cases q1 : Op.bytesLess x.path.toList y.path.toList with
        | true =>
          have hr : Hid (∀ c : Ch × Value, c = (⟨2, x⟩, Value.slice Ax x.ids.length cx) → (out ++ [c]) ++ chgU la ((y, Value.slice Ay y.ids.length cy) :: lb) = chgU l1 l2) := Lib.hid fun c hc => by subst hc; have := hrest.out; rw [chgU_lt (a := (x, Value.slice Ax x.ids.length cx)) (b := (y, Value.slice Ay y.ids.length cy)) _ _ q1] at this; simpa using this
          clear hrest
          go_wp2
          (refine wp_region_hold (fun W => Ext wr W) 16 [(0, true), (1, true), (2, true), (3, true), (4, true), (5, true), (6, true), (7, true), (8, true), (9, true), (10, true), (11, true), (12, true), (13, true), (14, true), (15, true)] (by kernel_rfl) (by kernel_rfl) ?_ ?_; (· (show Ext _ _); (repeat' (first | exact Ext.refl _ | assumption | refine Ext.alloc ?_ _ | refine Ext.drew ?_ | refine Ext.drewN ?_ _ | refine Ext.trans ?_ (by assumption)))); (repeat (first | (apply hw_read (by rfl) (by rfl); (· (intro W hW; (try dsimp only at hW); go_simp; (first | done | rfl | (rw [if_pos] <;> first | omega | rfl)))); (try simp only [Act.put, List.setIfInBounds_toArray, List.set_cons_zero, List.set_cons_succ])) | (refine hw_skip (by rfl) (by rfl) ?_; (try simp only [Act.put, List.setIfInBounds_toArray, List.set_cons_zero, List.set_cons_succ])))); (refine hw_nil ?_; simp only [List.drop_succ_cons, List.drop_zero]); go_wp2; all_goals (refine NoPanic.normal ?_; (try dsimp only [Exit.then])))
          have HO2 := Lib.hid (HO.out.ext (ECgU_ok _) (Ext.refl wr).drew)
          have he2 : Ext w wr.drew := he.drew
          clear HO
          go_wp2_with (at_builtin; go_must (refine wp_ap1 (w0 := w) (by rfl) _ _ (by rfl) el_Cg (ECgU_ok _) he2 _ out [(⟨2, x⟩, .slice Ax x.ids.length cx)] (by rfl) HO2.out 1 1 rfl #[chgV 2 x (.slice Ax x.ids.length cx)] _ (by rfl) (by first | rfl | simp) rfl one1 (one_E (ecgU_of (.inr (.inl rfl)) hpsx (HUx.out.ext he2))) ?_ ?_))
          · simp; unfold lim; omega
          · intro v' w' hO' he' hk'
            have HO' := Lib.hid hO'
            clear hO' hk' he2 he gx0 gx1 gx2 gy0 gy1 gy2
            go_wp2
            exact ⟨⟨la, (y, Value.slice Ay y.ids.length cy) :: lb, out ++ [(⟨2, x⟩, .slice Ax x.ids.length cx)], _, _, _, _, by rw [Hmla.out], by rw [List.length_cons, Hmlb.out], HTx, HBk, he', HO', by have := Hmla.out; have := Hmlb.out; simp; omega, Lib.hid (hr.out _ rfl)⟩, by simp [lenOf]⟩
        | false =>
          cases q2 : Op.bytesLess y.path.toList x.path.toList with
          | true =>
            have hr : Hid (∀ c : Ch × Value, c = (⟨1, y⟩, Value.slice Ay y.ids.length cy) → (out ++ [c]) ++ chgU ((x, Value.slice Ax x.ids.length cx) :: la) lb = chgU l1 l2) := Lib.hid fun c hc => by subst hc; have := hrest.out; rw [chgU_gt (a := (x, Value.slice Ax x.ids.length cx)) (b := (y, Value.slice Ay y.ids.length cy)) _ _ q1 q2] at this; simpa using this
            clear hrest
            go_wp2
            (refine wp_region_hold (fun W => Ext wr W) 16 [(0, true), (1, true), (2, true), (3, true), (4, true), (5, true), (6, true), (7, true), (8, true), (9, true), (10, true), (11, true), (12, true), (13, true), (14, true), (15, true)] (by kernel_rfl) (by kernel_rfl) ?_ ?_; (· (show Ext _ _); (repeat' (first | exact Ext.refl _ | assumption | refine Ext.alloc ?_ _ | refine Ext.drew ?_ | refine Ext.drewN ?_ _ | refine Ext.trans ?_ (by assumption)))); (repeat (first | (apply hw_read (by rfl) (by rfl); (· (intro W hW; (try dsimp only at hW); go_simp; (first | done | rfl | (rw [if_pos] <;> first | omega | rfl)))); (try simp only [Act.put, List.setIfInBounds_toArray, List.set_cons_zero, List.set_cons_succ])) | (refine hw_skip (by rfl) (by rfl) ?_; (try simp only [Act.put, List.setIfInBounds_toArray, List.set_cons_zero, List.set_cons_succ])))); (refine hw_nil ?_; simp only [List.drop_succ_cons, List.drop_zero]); go_wp2; all_goals (refine NoPanic.normal ?_; (try dsimp only [Exit.then])))
            go_wp2
            (refine wp_region_hold (fun W => Ext wr W) 12 [(0, true), (1, true), (2, true), (3, true), (4, true), (5, true), (6, true), (7, true), (8, true), (9, true), (10, true), (11, true)] (by kernel_rfl) (by kernel_rfl) ?_ ?_; (· (show Ext _ _); (repeat' (first | exact Ext.refl _ | assumption | refine Ext.alloc ?_ _ | refine Ext.drew ?_ | refine Ext.drewN ?_ _ | refine Ext.trans ?_ (by assumption)))); (repeat (first | (apply hw_read (by rfl) (by rfl); (· (intro W hW; (try dsimp only at hW); go_simp; (first | done | rfl | (rw [if_pos] <;> first | omega | rfl)))); (try simp only [Act.put, List.setIfInBounds_toArray, List.set_cons_zero, List.set_cons_succ])) | (refine hw_skip (by rfl) (by rfl) ?_; (try simp only [Act.put, List.setIfInBounds_toArray, List.set_cons_zero, List.set_cons_succ])))); (refine hw_nil ?_; simp only [List.drop_succ_cons, List.drop_zero]); go_wp2; all_goals (refine NoPanic.normal ?_; (try dsimp only [Exit.then])))
            have HO2 := Lib.hid (HO.out.ext (ECgU_ok _) (Ext.refl wr).drew.drew)
            have he2 : Ext w wr.drew.drew := he.drew.drew
            clear HO
            go_wp2_with (at_builtin; go_must (refine wp_ap1 (w0 := w) (by rfl) _ _ (by rfl) el_Cg (ECgU_ok _) he2 _ out [(⟨1, y⟩, .slice Ay y.ids.length cy)] (by rfl) HO2.out 1 1 rfl #[chgV 1 y (.slice Ay y.ids.length cy)] _ (by rfl) (by first | rfl | simp) rfl one1 (one_E (ecgU_of (.inl rfl) hpsy (HUy.out.ext he2))) ?_ ?_))
            · simp; unfold lim; omega
            · intro v' w' hO' he' hk'
              have HO' := Lib.hid hO'
              clear hO' hk' he2 he gx0 gx1 gx2 gy0 gy1 gy2
              go_wp2
              exact ⟨⟨(x, Value.slice Ax x.ids.length cx) :: la, lb, out ++ [(⟨1, y⟩, .slice Ay y.ids.length cy)], _, _, _, _, by rw [List.length_cons, Hmla.out], by rw [Hmlb.out], HAk, HTy, he', HO', by have := Hmla.out; have := Hmlb.out; simp; omega, Lib.hid (hr.out _ rfl)⟩, by simp [lenOf]⟩
          | false =>
            have hstep : ∀ W : World, Hid (SlIn B 35 3 (EItU B) w (if c1 = 1 then some ⟨b1, o1, none⟩ else some ⟨b1, o1 + 3, none⟩) (c1 - 1) la ∧ SlIn B 35 3 (EItU B) w (if c2 = 1 then some ⟨b2, o2, none⟩ else some ⟨b2, o2 + 3, none⟩) (c2 - 1) lb) := fun _ => Lib.hid ⟨HTx.out, HTy.out⟩
            have HST := Lib.hid hstep; clear hstep
            by_cases hdir : x.dir = y.dir
            · cases hq : eqb x y with
              | true =>
                have hr : Hid (out ++ chgU la lb = chgU l1 l2) := Lib.hid (by have := hrest.out; rwa [chgU_same (a := (x, Value.slice Ax x.ids.length cx)) (b := (y, Value.slice Ay y.ids.length cy)) _ _ q1 q2 hdir hq] at this)
                have Ce : ∀ W, Ext wr W → Calls Tryd.prog 48 #[.agg #[.string x.path, .bool x.dir, .slice Ax x.ids.length cx], .agg #[.string y.path, .bool y.dir, .slice Ay y.ids.length cy]] W (Ret (.bool true) W) := fun W e => by
                  rw [← hq]; exact impl_itemEqual_c W ⟨_, rfl, hpsx, HUx.out.ext (he.trans e)⟩ ⟨_, rfl, hpsy, HUy.out.ext (he.trans e)⟩
                have hd1 : (x.dir != y.dir) = false := by rw [hdir]; simp
                have hd2 : (x.dir == y.dir) = true := by rw [hdir]; simp
                have Hdir := Lib.hid hdir
                clear hrest hq hdir
                go_wp2
                (refine wp_region_hold (fun W => Ext wr W) 16 [(0, true), (1, true), (2, true), (3, true), (4, true), (5, true), (6, true), (7, true), (8, true), (9, true), (10, true), (11, true), (12, true), (13, true), (14, true), (15, true)] (by kernel_rfl) (by kernel_rfl) ?_ ?_; (· (show Ext _ _); (repeat' (first | exact Ext.refl _ | assumption | refine Ext.alloc ?_ _ | refine Ext.drew ?_ | refine Ext.drewN ?_ _ | refine Ext.trans ?_ (by assumption)))); (repeat (first | (apply hw_read (by rfl) (by rfl); (· (intro W hW; (try dsimp only at hW); go_simp; (first | done | rfl | (rw [if_pos] <;> first | omega | rfl)))); (try simp only [Act.put, List.setIfInBounds_toArray, List.set_cons_zero, List.set_cons_succ])) | (refine hw_skip (by rfl) (by rfl) ?_; (try simp only [Act.put, List.setIfInBounds_toArray, List.set_cons_zero, List.set_cons_succ])))); (refine hw_nil ?_; simp only [List.drop_succ_cons, List.drop_zero]); go_wp2; all_goals (refine NoPanic.normal ?_; (try dsimp only [Exit.then])))
                go_wp2
                (refine wp_region_hold (fun W => Ext wr W) 12 [(0, true), (1, true), (2, true), (3, true), (4, true), (5, true), (6, true), (7, true), (8, true), (9, true), (10, true), (11, true)] (by kernel_rfl) (by kernel_rfl) ?_ ?_; (· (show Ext _ _); (repeat' (first | exact Ext.refl _ | assumption | refine Ext.alloc ?_ _ | refine Ext.drew ?_ | refine Ext.drewN ?_ _ | refine Ext.trans ?_ (by assumption)))); (repeat (first | (apply hw_read (by rfl) (by rfl); (· (intro W hW; (try dsimp only at hW); go_simp; (first | done | rfl | (rw [if_pos] <;> first | omega | rfl)))); (try simp only [Act.put, List.setIfInBounds_toArray, List.set_cons_zero, List.set_cons_succ])) | (refine hw_skip (by rfl) (by rfl) ?_; (try simp only [Act.put, List.setIfInBounds_toArray, List.set_cons_zero, List.set_cons_succ])))); (refine hw_nil ?_; simp only [List.drop_succ_cons, List.drop_zero]); go_wp2; all_goals (refine NoPanic.normal ?_; (try dsimp only [Exit.then])))
                go_wp2
                (refine wp_region_hold (fun W => Ext wr W) 8 [(0, true), (1, true), (2, true), (3, true), (4, true), (5, true), (6, true), (7, true)] (by kernel_rfl) (by kernel_rfl) ?_ ?_; (· (show Ext _ _); (repeat' (first | exact Ext.refl _ | assumption | refine Ext.alloc ?_ _ | refine Ext.drew ?_ | refine Ext.drewN ?_ _ | refine Ext.trans ?_ (by assumption)))); (repeat (first | (apply hw_read (by rfl) (by rfl); (· (intro W hW; (try dsimp only at hW); go_simp; (first | done | rfl | (rw [if_pos] <;> first | omega | rfl)))); (try simp only [Act.put, List.setIfInBounds_toArray, List.set_cons_zero, List.set_cons_succ])) | (refine hw_skip (by rfl) (by rfl) ?_; (try simp only [Act.put, List.setIfInBounds_toArray, List.set_cons_zero, List.set_cons_succ])))); (refine hw_nil ?_; simp only [List.drop_succ_cons, List.drop_zero]); go_wp2; all_goals (refine NoPanic.normal ?_; (try dsimp only [Exit.then])))
                go_wp2
                refine wp_region_hold (fun W => Ext wr W) 6 [(0, true), (1, true), (2, true), (3, true), (4, true), (5, true)] (by kernel_rfl) (by kernel_rfl) ?_ ?_
                · show Ext _ _; (repeat' (first | exact Ext.refl _ | assumption | refine Ext.alloc ?_ _ | refine Ext.drew ?_ | refine Ext.drewN ?_ _ | refine Ext.trans ?_ (by assumption)))
                (repeat (first | (apply hw_read (by rfl) (by rfl); (· (intro W hW; (try dsimp only at hW); go_simp; (first | done | rfl | (rw [if_pos] <;> first | omega | rfl)))); (try simp only [Act.put, List.setIfInBounds_toArray, List.set_cons_zero, List.set_cons_succ])) | (refine hw_skip (by rfl) (by rfl) ?_; (try simp only [Act.put, List.setIfInBounds_toArray, List.set_cons_zero, List.set_cons_succ]))))
                (refine hw_nil ?_; simp only [List.drop_succ_cons, List.drop_zero])
                go_wp2_with (go_at_call 48; refine (Ce _ (by (repeat' (first | exact Ext.refl _ | assumption | refine Ext.alloc ?_ _ | refine Ext.drew ?_ | refine Ext.drewN ?_ _ | refine Ext.trans ?_ (by assumption))))).mono ?_; rintro e w5 ⟨rfl, he5⟩)
                refine NoPanic.normal ?_
                dsimp only [Exit.then]
                have he6 : Ext wr w5 := by (repeat' (first | exact Ext.refl _ | assumption | refine Ext.alloc ?_ _ | refine Ext.drew ?_ | refine Ext.drewN ?_ _ | refine Ext.trans ?_ (by assumption)))
                clear he5
                go_wp2
                have HO6 := Lib.hid (HO.out.ext (ECgU_ok _) he6)
                have he7 := he.trans he6
                clear he6 Ce HO he gx0 gx1 gx2 gy0 gy1 gy2 hd1 hd2
                refine wp_region_hold (fun W => Ext w5 W) 5 [(0, true), (1, true), (2, true), (3, true), (4, true)] (by kernel_rfl) (by kernel_rfl) ?_ ?_
                · exact (Ext.refl _).drew
                (repeat (first | (apply hw_read (by rfl) (by rfl); (· (intro W hW; (try dsimp only at hW); go_simp; (first | done | rfl | (rw [if_pos] <;> first | omega | rfl)))); (try simp only [Act.put, List.setIfInBounds_toArray, List.set_cons_zero, List.set_cons_succ])) | (refine hw_skip (by rfl) (by rfl) ?_; (try simp only [Act.put, List.setIfInBounds_toArray, List.set_cons_zero, List.set_cons_succ]))))
                have HTT : Hid (SlIn B 35 3 (EItU B) w (if c1 = 1 then some ⟨b1, o1, none⟩ else some ⟨b1, o1 + 3, none⟩) (c1 - 1) la ∧ SlIn B 35 3 (EItU B) w (if c2 = 1 then some ⟨b2, o2, none⟩ else some ⟨b2, o2 + 3, none⟩) (c2 - 1) lb) := Lib.hid ⟨HTx.out, HTy.out⟩
                clear HTx HTy HST
                generalize (if c1 = 1 then (some ⟨b1, o1, none⟩ : Option Addr) else some ⟨b1, o1 + 3, none⟩) = X1 at *
                generalize (if c2 = 1 then (some ⟨b2, o2, none⟩ : Option Addr) else some ⟨b2, o2 + 3, none⟩) = X2 at *
                (refine hw_nil ?_; simp only [List.drop_succ_cons, List.drop_zero])
                go_wp2
                refine NoPanic.normal ?_
                (try dsimp only [Exit.then])
                go_wp2
                exact ⟨⟨la, lb, out, _, _, _, _, by rw [Hmla.out], by rw [Hmlb.out], Lib.hid HTT.out.1, Lib.hid HTT.out.2, by (repeat' (first | exact Ext.refl _ | assumption | refine Ext.alloc ?_ _ | refine Ext.drew ?_ | refine Ext.drewN ?_ _ | refine Ext.trans ?_ (by assumption))), Lib.hid (HO6.out.ext (ECgU_ok _) (by (repeat' (first | exact Ext.refl _ | assumption | refine Ext.alloc ?_ _ | refine Ext.drew ?_ | refine Ext.drewN ?_ _ | refine Ext.trans ?_ (by assumption))))), by have := Hmla.out; have := Hmlb.out; omega, hr⟩, by simp [lenOf]; omega⟩
              | false =>
                have hr : Hid (∀ c : Ch × Value, c = (⟨3, y⟩, Value.slice Ay y.ids.length cy) → (out ++ [c]) ++ chgU la lb = chgU l1 l2) := Lib.hid fun c hc => by subst hc; have := hrest.out; rw [chgU_other (a := (x, Value.slice Ax x.ids.length cx)) (b := (y, Value.slice Ay y.ids.length cy)) _ _ q1 q2 hdir hq] at this; simpa using this
                have Ce : ∀ W, Ext wr W → Calls Tryd.prog 48 #[.agg #[.string x.path, .bool x.dir, .slice Ax x.ids.length cx], .agg #[.string y.path, .bool y.dir, .slice Ay y.ids.length cy]] W (Ret (.bool false) W) := fun W e => by
                  rw [← hq]; exact impl_itemEqual_c W ⟨_, rfl, hpsx, HUx.out.ext (he.trans e)⟩ ⟨_, rfl, hpsy, HUy.out.ext (he.trans e)⟩
                have hd1 : (x.dir != y.dir) = false := by rw [hdir]; simp
                have hd2 : (x.dir == y.dir) = true := by rw [hdir]; simp
                have Hdir := Lib.hid hdir
                clear hrest hq hdir
                go_wp2
                (refine wp_region_hold (fun W => Ext wr W) 16 [(0, true), (1, true), (2, true), (3, true), (4, true), (5, true), (6, true), (7, true), (8, true), (9, true), (10, true), (11, true), (12, true), (13, true), (14, true), (15, true)] (by kernel_rfl) (by kernel_rfl) ?_ ?_; (· (show Ext _ _); (repeat' (first | exact Ext.refl _ | assumption | refine Ext.alloc ?_ _ | refine Ext.drew ?_ | refine Ext.drewN ?_ _ | refine Ext.trans ?_ (by assumption)))); (repeat (first | (apply hw_read (by rfl) (by rfl); (· (intro W hW; (try dsimp only at hW); go_simp; (first | done | rfl | (rw [if_pos] <;> first | omega | rfl)))); (try simp only [Act.put, List.setIfInBounds_toArray, List.set_cons_zero, List.set_cons_succ])) | (refine hw_skip (by rfl) (by rfl) ?_; (try simp only [Act.put, List.setIfInBounds_toArray, List.set_cons_zero, List.set_cons_succ])))); (refine hw_nil ?_; simp only [List.drop_succ_cons, List.drop_zero]); go_wp2; all_goals (refine NoPanic.normal ?_; (try dsimp only [Exit.then])))
                go_wp2
                (refine wp_region_hold (fun W => Ext wr W) 12 [(0, true), (1, true), (2, true), (3, true), (4, true), (5, true), (6, true), (7, true), (8, true), (9, true), (10, true), (11, true)] (by kernel_rfl) (by kernel_rfl) ?_ ?_; (· (show Ext _ _); (repeat' (first | exact Ext.refl _ | assumption | refine Ext.alloc ?_ _ | refine Ext.drew ?_ | refine Ext.drewN ?_ _ | refine Ext.trans ?_ (by assumption)))); (repeat (first | (apply hw_read (by rfl) (by rfl); (· (intro W hW; (try dsimp only at hW); go_simp; (first | done | rfl | (rw [if_pos] <;> first | omega | rfl)))); (try simp only [Act.put, List.setIfInBounds_toArray, List.set_cons_zero, List.set_cons_succ])) | (refine hw_skip (by rfl) (by rfl) ?_; (try simp only [Act.put, List.setIfInBounds_toArray, List.set_cons_zero, List.set_cons_succ])))); (refine hw_nil ?_; simp only [List.drop_succ_cons, List.drop_zero]); go_wp2; all_goals (refine NoPanic.normal ?_; (try dsimp only [Exit.then])))
                go_wp2
                (refine wp_region_hold (fun W => Ext wr W) 8 [(0, true), (1, true), (2, true), (3, true), (4, true), (5, true), (6, true), (7, true)] (by kernel_rfl) (by kernel_rfl) ?_ ?_; (· (show Ext _ _); (repeat' (first | exact Ext.refl _ | assumption | refine Ext.alloc ?_ _ | refine Ext.drew ?_ | refine Ext.drewN ?_ _ | refine Ext.trans ?_ (by assumption)))); (repeat (first | (apply hw_read (by rfl) (by rfl); (· (intro W hW; (try dsimp only at hW); go_simp; (first | done | rfl | (rw [if_pos] <;> first | omega | rfl)))); (try simp only [Act.put, List.setIfInBounds_toArray, List.set_cons_zero, List.set_cons_succ])) | (refine hw_skip (by rfl) (by rfl) ?_; (try simp only [Act.put, List.setIfInBounds_toArray, List.set_cons_zero, List.set_cons_succ])))); (refine hw_nil ?_; simp only [List.drop_succ_cons, List.drop_zero]); go_wp2; all_goals (refine NoPanic.normal ?_; (try dsimp only [Exit.then])))
                go_wp2
                refine wp_region_hold (fun W => Ext wr W) 6 [(0, true), (1, true), (2, true), (3, true), (4, true), (5, true)] (by kernel_rfl) (by kernel_rfl) ?_ ?_
                · show Ext _ _; (repeat' (first | exact Ext.refl _ | assumption | refine Ext.alloc ?_ _ | refine Ext.drew ?_ | refine Ext.drewN ?_ _ | refine Ext.trans ?_ (by assumption)))
                (repeat (first | (apply hw_read (by rfl) (by rfl); (· (intro W hW; (try dsimp only at hW); go_simp; (first | done | rfl | (rw [if_pos] <;> first | omega | rfl)))); (try simp only [Act.put, List.setIfInBounds_toArray, List.set_cons_zero, List.set_cons_succ])) | (refine hw_skip (by rfl) (by rfl) ?_; (try simp only [Act.put, List.setIfInBounds_toArray, List.set_cons_zero, List.set_cons_succ]))))
                (refine hw_nil ?_; simp only [List.drop_succ_cons, List.drop_zero])
                go_wp2_with (go_at_call 48; refine (Ce _ (by (repeat' (first | exact Ext.refl _ | assumption | refine Ext.alloc ?_ _ | refine Ext.drew ?_ | refine Ext.drewN ?_ _ | refine Ext.trans ?_ (by assumption))))).mono ?_; rintro e w5 ⟨rfl, he5⟩)
                refine NoPanic.normal ?_
                dsimp only [Exit.then]
                have he6 : Ext wr w5 := by (repeat' (first | exact Ext.refl _ | assumption | refine Ext.alloc ?_ _ | refine Ext.drew ?_ | refine Ext.drewN ?_ _ | refine Ext.trans ?_ (by assumption)))
                clear he5
                have HO6 := Lib.hid (HO.out.ext (ECgU_ok _) he6)
                have he7 := he.trans he6
                have k0 := gy0 w5 he6; have k1 := gy1 w5 he6; have k2 := gy2 w5 he6
                clear Ce HO he gx0 gx1 gx2 gy0 gy1 gy2 hd1 hd2
                go_wp2_with (at_builtin; go_must (refine wp_ap1 (w0 := w) (by rfl) _ _ (by rfl) el_Cg (ECgU_ok _) he7 _ out [(⟨3, y⟩, .slice Ay y.ids.length cy)] (by rfl) HO6.out 1 1 rfl #[chgV 3 y (.slice Ay y.ids.length cy)] _ (by rfl) (by first | rfl | simp) rfl one1 (one_E (ecgU_of (.inr (.inr rfl)) hpsy (HUy.out.ext he7))) ?_ ?_))
                · simp; unfold lim; omega
                · intro v' w' hO' he' hk'
                  have HO' := Lib.hid hO'
                  clear hO' hk' he6 he7 k0 k1 k2
                  go_wp2
                  refine wp_region_hold (fun W => Ext w' W) 5 [(0, true), (1, true), (2, true), (3, true), (4, true)] (by kernel_rfl) (by kernel_rfl) ?_ ?_
                  · exact (Ext.refl _).drew
                  (repeat (first | (apply hw_read (by rfl) (by rfl); (· (intro W hW; (try dsimp only at hW); go_simp; (first | done | rfl | (rw [if_pos] <;> first | omega | rfl)))); (try simp only [Act.put, List.setIfInBounds_toArray, List.set_cons_zero, List.set_cons_succ])) | (refine hw_skip (by rfl) (by rfl) ?_; (try simp only [Act.put, List.setIfInBounds_toArray, List.set_cons_zero, List.set_cons_succ]))))
                  have HTT : Hid (SlIn B 35 3 (EItU B) w (if c1 = 1 then some ⟨b1, o1, none⟩ else some ⟨b1, o1 + 3, none⟩) (c1 - 1) la ∧ SlIn B 35 3 (EItU B) w (if c2 = 1 then some ⟨b2, o2, none⟩ else some ⟨b2, o2 + 3, none⟩) (c2 - 1) lb) := Lib.hid ⟨HTx.out, HTy.out⟩
                  clear HTx HTy HST
                  generalize (if c1 = 1 then (some ⟨b1, o1, none⟩ : Option Addr) else some ⟨b1, o1 + 3, none⟩) = X1 at *
                  generalize (if c2 = 1 then (some ⟨b2, o2, none⟩ : Option Addr) else some ⟨b2, o2 + 3, none⟩) = X2 at *
                  (refine hw_nil ?_; simp only [List.drop_succ_cons, List.drop_zero])
                  go_wp2
                  refine NoPanic.normal ?_
                  (try dsimp only [Exit.then])
                  go_wp2
                  exact ⟨⟨la, lb, out ++ [(⟨3, y⟩, .slice Ay y.ids.length cy)], _, _, _, _, by rw [Hmla.out], by rw [Hmlb.out], Lib.hid HTT.out.1, Lib.hid HTT.out.2, by (repeat' (first | exact Ext.refl _ | assumption | refine Ext.alloc ?_ _ | refine Ext.drew ?_ | refine Ext.drewN ?_ _ | refine Ext.trans ?_ (by assumption))), Lib.hid (HO'.out.ext (ECgU_ok _) (by (repeat' (first | exact Ext.refl _ | assumption | refine Ext.alloc ?_ _ | refine Ext.drew ?_ | refine Ext.drewN ?_ _ | refine Ext.trans ?_ (by assumption))))), by have := Hmla.out; have := Hmlb.out; simp; omega, Lib.hid (hr.out _ rfl)⟩, by simp [lenOf]; omega⟩
            · have hr : Hid (∀ c d : Ch × Value, c = (⟨2, x⟩, Value.slice Ax x.ids.length cx) → d = (⟨1, y⟩, Value.slice Ay y.ids.length cy) → (out ++ [c, d]) ++ chgU la lb = chgU l1 l2) := Lib.hid fun c d hc hd => by subst hc; subst hd; have := hrest.out; rw [chgU_two (a := (x, Value.slice Ax x.ids.length cx)) (b := (y, Value.slice Ay y.ids.length cy)) _ _ q1 q2 hdir] at this; simpa using this
              have hd1 : (x.dir != y.dir) = true := by simpa using hdir
              have hd2 : (x.dir == y.dir) = false := by simpa using hdir
              have Hdir := Lib.hid hdir
              clear hrest hdir
              go_wp2
              (refine wp_region_hold (fun W => Ext wr W) 16 [(0, true), (1, true), (2, true), (3, true), (4, true), (5, true), (6, true), (7, true), (8, true), (9, true), (10, true), (11, true), (12, true), (13, true), (14, true), (15, true)] (by kernel_rfl) (by kernel_rfl) ?_ ?_; (· (show Ext _ _); (repeat' (first | exact Ext.refl _ | assumption | refine Ext.alloc ?_ _ | refine Ext.drew ?_ | refine Ext.drewN ?_ _ | refine Ext.trans ?_ (by assumption)))); (repeat (first | (apply hw_read (by rfl) (by rfl); (· (intro W hW; (try dsimp only at hW); go_simp; (first | done | rfl | (rw [if_pos] <;> first | omega | rfl)))); (try simp only [Act.put, List.setIfInBounds_toArray, List.set_cons_zero, List.set_cons_succ])) | (refine hw_skip (by rfl) (by rfl) ?_; (try simp only [Act.put, List.setIfInBounds_toArray, List.set_cons_zero, List.set_cons_succ])))); (refine hw_nil ?_; simp only [List.drop_succ_cons, List.drop_zero]); go_wp2; all_goals (refine NoPanic.normal ?_; (try dsimp only [Exit.then])))
              go_wp2
              (refine wp_region_hold (fun W => Ext wr W) 12 [(0, true), (1, true), (2, true), (3, true), (4, true), (5, true), (6, true), (7, true), (8, true), (9, true), (10, true), (11, true)] (by kernel_rfl) (by kernel_rfl) ?_ ?_; (· (show Ext _ _); (repeat' (first | exact Ext.refl _ | assumption | refine Ext.alloc ?_ _ | refine Ext.drew ?_ | refine Ext.drewN ?_ _ | refine Ext.trans ?_ (by assumption)))); (repeat (first | (apply hw_read (by rfl) (by rfl); (· (intro W hW; (try dsimp only at hW); go_simp; (first | done | rfl | (rw [if_pos] <;> first | omega | rfl)))); (try simp only [Act.put, List.setIfInBounds_toArray, List.set_cons_zero, List.set_cons_succ])) | (refine hw_skip (by rfl) (by rfl) ?_; (try simp only [Act.put, List.setIfInBounds_toArray, List.set_cons_zero, List.set_cons_succ])))); (refine hw_nil ?_; simp only [List.drop_succ_cons, List.drop_zero]); go_wp2; all_goals (refine NoPanic.normal ?_; (try dsimp only [Exit.then])))
              go_wp2
              (refine wp_region_hold (fun W => Ext wr W) 8 [(0, true), (1, true), (2, true), (3, true), (4, true), (5, true), (6, true), (7, true)] (by kernel_rfl) (by kernel_rfl) ?_ ?_; (· (show Ext _ _); (repeat' (first | exact Ext.refl _ | assumption | refine Ext.alloc ?_ _ | refine Ext.drew ?_ | refine Ext.drewN ?_ _ | refine Ext.trans ?_ (by assumption)))); (repeat (first | (apply hw_read (by rfl) (by rfl); (· (intro W hW; (try dsimp only at hW); go_simp; (first | done | rfl | (rw [if_pos] <;> first | omega | rfl)))); (try simp only [Act.put, List.setIfInBounds_toArray, List.set_cons_zero, List.set_cons_succ])) | (refine hw_skip (by rfl) (by rfl) ?_; (try simp only [Act.put, List.setIfInBounds_toArray, List.set_cons_zero, List.set_cons_succ])))); (refine hw_nil ?_; simp only [List.drop_succ_cons, List.drop_zero]); go_wp2; all_goals (refine NoPanic.normal ?_; (try dsimp only [Exit.then])))
              go_wp2
              refine wp_region_hold (fun W => Ext wr W) 12 [(0, true), (1, true), (2, true), (3, true), (4, true), (5, true), (6, true), (7, true), (8, true), (9, true), (10, true), (11, false)] (by kernel_rfl) (by kernel_rfl) ?_ ?_
              · show Ext _ _; (repeat' (first | exact Ext.refl _ | assumption | refine Ext.alloc ?_ _ | refine Ext.drew ?_ | refine Ext.drewN ?_ _ | refine Ext.trans ?_ (by assumption)))
              (repeat (first | (apply hw_read (by rfl) (by rfl); (· (intro W hW; (try dsimp only at hW); go_simp; (first | done | rfl | (rw [if_pos] <;> first | omega | rfl)))); (try simp only [Act.put, List.setIfInBounds_toArray, List.set_cons_zero, List.set_cons_succ])) | (refine hw_skip (by rfl) (by rfl) ?_; (try simp only [Act.put, List.setIfInBounds_toArray, List.set_cons_zero, List.set_cons_succ]))))
              refine hw_step (by rfl) ?_
              go_wp2
              refine ⟨by (repeat' (first | exact Ext.refl _ | assumption | refine Ext.alloc ?_ _ | refine Ext.drew ?_ | refine Ext.drewN ?_ _ | refine Ext.trans ?_ (by assumption))), ?_⟩
              have HO6 := Lib.hid (HO.out.ext (ECgU_ok _) (Ext.refl wr).drew.drew.drew.drew)
              have he7 := he.drew.drew.drew.drew
              clear HO gx0 gx1 gx2 gy0 gy1 gy2 hd1 hd2
              (refine hw_nil ?_; simp only [List.drop_succ_cons, List.drop_zero])
              go_wp2_with (at_builtin; go_must (refine wp_ap1 (w0 := w) (by rfl) _ _ (by rfl) el_Cg (ECgU_ok _) he7 _ out [(⟨2, x⟩, .slice Ax x.ids.length cx), (⟨1, y⟩, .slice Ay y.ids.length cy)] (by rfl) HO6.out 2 2 rfl #[chgV 2 x (.slice Ax x.ids.length cx), chgV 1 y (.slice Ay y.ids.length cy)] _ (by rfl) (by first | rfl | simp) rfl one2c (two_E (ecgU_of (.inr (.inl rfl)) hpsx (HUx.out.ext he7)) ⟨.inl rfl, hpsy, rfl, HUy.out.ext he7⟩) ?_ ?_))
              · simp; unfold lim; omega
              · intro v' w' hO' he' hk'
                have HO' := Lib.hid hO'
                clear hO' hk' he7 he
                go_wp2
                refine NoPanic.normal ?_
                (try dsimp only [Exit.then])
                go_wp2
                refine wp_region_hold (fun W => Ext w' W) 5 [(0, true), (1, true), (2, true), (3, true), (4, true)] (by kernel_rfl) (by kernel_rfl) ?_ ?_
                · exact (Ext.refl _).drew
                (repeat (first | (apply hw_read (by rfl) (by rfl); (· (intro W hW; (try dsimp only at hW); go_simp; (first | done | rfl | (rw [if_pos] <;> first | omega | rfl)))); (try simp only [Act.put, List.setIfInBounds_toArray, List.set_cons_zero, List.set_cons_succ])) | (refine hw_skip (by rfl) (by rfl) ?_; (try simp only [Act.put, List.setIfInBounds_toArray, List.set_cons_zero, List.set_cons_succ]))))
                have HTT : Hid (SlIn B 35 3 (EItU B) w (if c1 = 1 then some ⟨b1, o1, none⟩ else some ⟨b1, o1 + 3, none⟩) (c1 - 1) la ∧ SlIn B 35 3 (EItU B) w (if c2 = 1 then some ⟨b2, o2, none⟩ else some ⟨b2, o2 + 3, none⟩) (c2 - 1) lb) := Lib.hid ⟨HTx.out, HTy.out⟩
                clear HTx HTy HST
                generalize (if c1 = 1 then (some ⟨b1, o1, none⟩ : Option Addr) else some ⟨b1, o1 + 3, none⟩) = X1 at *
                generalize (if c2 = 1 then (some ⟨b2, o2, none⟩ : Option Addr) else some ⟨b2, o2 + 3, none⟩) = X2 at *
                (refine hw_nil ?_; simp only [List.drop_succ_cons, List.drop_zero])
                go_wp2
                refine NoPanic.normal ?_
                (try dsimp only [Exit.then])
                go_wp2
                exact ⟨⟨la, lb, out ++ [(⟨2, x⟩, .slice Ax x.ids.length cx), (⟨1, y⟩, .slice Ay y.ids.length cy)], _, _, _, _, by rw [Hmla.out], by rw [Hmlb.out], Lib.hid HTT.out.1, Lib.hid HTT.out.2, by (repeat' (first | exact Ext.refl _ | assumption | refine Ext.alloc ?_ _ | refine Ext.drew ?_ | refine Ext.drewN ?_ _ | refine Ext.trans ?_ (by assumption))), Lib.hid (HO'.out.ext (ECgU_ok _) (by (repeat' (first | exact Ext.refl _ | assumption | refine Ext.alloc ?_ _ | refine Ext.drew ?_ | refine Ext.drewN ?_ _ | refine Ext.trans ?_ (by assumption))))), by have := Hmla.out; have := Hmlb.out; simp; omega, Lib.hid (hr.out _ _ rfl rfl)⟩, by simp [lenOf]; omega⟩
end Go.Sf
