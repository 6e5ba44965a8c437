/- The changes between two trees, made in the first one, give the second one. -/
import Derived.Test.YtbdgpbakhjpklaaGreatDoorGI
import Derived.Test.YtbdgpbakhjpklaaGreatDoorGG
namespace Go.Sf
/-! ### the changes between two trees, made in the first one, give the second one -/
theorem putIt_mid {x : It} : ∀ {bd r : List It}, (∀ y, y ∈ bd → blt y.path x.path = true) → (∀ z, z ∈ r → blt x.path z.path = true) → putIt x (bd ++ r) = bd ++ x :: r := by
  intro bd
  induction bd with
  | nil =>
    intro r _ h
    cases r with
    | nil => rfl
    | cons z r =>
      rw [List.nil_append, putIt, if_neg (by rw [blt_asymm' (h z (by simp))]; simp), filter_same fun y hy e => by
        have := h y hy; rw [e, blt_irr] at this; cases this]
      rfl
  | cons y bd ih =>
    intro r h1 h2
    rw [List.cons_append, putIt, if_pos (h1 y (by simp)), ih (fun z hz => h1 z (by simp [hz])) h2]; rfl
theorem putIt_at {x a : It} (e : a.path = x.path) : ∀ {bd r : List It}, (∀ y, y ∈ bd → blt y.path x.path = true) → (∀ z, z ∈ r → blt x.path z.path = true) → putIt x (bd ++ a :: r) = bd ++ x :: r := by
  intro bd
  induction bd with
  | nil =>
    intro r _ h
    rw [List.nil_append, putIt, if_neg (by rw [e, blt_irr]; simp), List.filter_cons_of_neg (by rw [eqb_true.2 e]; simp), filter_same fun y hy e => by
      have := h y hy; rw [e, blt_irr] at this; cases this]
    rfl
  | cons y bd ih =>
    intro r h1 h2
    rw [List.cons_append, putIt, if_pos (h1 y (by simp)), ih (fun z hz => h1 z (by simp [hz])) h2]; rfl
theorem drop_at {a : It} {bd r : List It} (h : Srt (bd ++ a :: r)) : (bd ++ a :: r).filter (awP a) = bd ++ r := by
  have h' := List.pairwise_append.1 h
  have h'' := List.pairwise_cons.1 h'.2.1
  rw [List.filter_append, List.filter_cons_of_neg (by rw [awP, eqb_true.2 rfl]; simp)]
  have f1 : bd.filter (awP a) = bd := List.filter_eq_self.2 fun y hy => by
    rw [awP, eqb_false.2 fun e => by have := h'.2.2 y hy a (by simp); rw [e, blt_irr] at this; cases this]; rfl
  have f2 : r.filter (awP a) = r := List.filter_eq_self.2 fun y hy => by
    rw [awP, eqb_false.2 fun e => by have := h''.1 y hy; rw [e, blt_irr] at this; cases this]; rfl
  rw [f1, f2]
theorem srt_cut {bd r : List It} {a : It} (h : Srt (bd ++ a :: r)) : (∀ y, y ∈ bd → blt y.path a.path = true) ∧ (∀ z, z ∈ r → blt a.path z.path = true) ∧ Srt (bd ++ r) := by
  have h' := List.pairwise_append.1 h
  have h'' := List.pairwise_cons.1 h'.2.1
  exact ⟨fun y hy => h'.2.2 y hy a (by simp), h''.1, List.pairwise_append.2 ⟨h'.1, h''.2, fun y hy z hz => h'.2.2 y hy z (by simp [hz])⟩⟩
theorem find_mid {bd r : List It} {a : It} (h : Srt (bd ++ a :: r)) : findIt (bd ++ a :: r) a.path = some a := (find_iff h).2 ⟨by simp, rfl⟩
theorem noFind {bd r : List It} {p : ByteArray} (h1 : ∀ y, y ∈ bd → blt y.path p = true) (h2 : ∀ z, z ∈ r → blt p z.path = true) : (findIt (bd ++ r) p).isSome = false := by
  rw [findIt_isNone]
  intro y hy e
  rcases List.mem_append.1 hy with hy | hy
  · have := h1 y hy; rw [e, blt_irr] at this; cases this
  · have := h2 y hy; rw [e, blt_irr] at this; cases this
theorem run_gone {S r : List It} {a : It} {cs : List Ch} (h : Srt (S ++ a :: r)) (ho : itemOk a = true) : runAll (S ++ a :: r) (⟨2, a⟩ :: cs) = runAll (S ++ r) cs := by
  refine run_step ho ?_
  unfold stepOf
  rw [if_neg (by simp), if_pos rfl, if_pos (find_mid h), drop_at h]
theorem run_new {S r : List It} {b : It} {cs : List Ch} (h1 : ∀ y, y ∈ S → blt y.path b.path = true) (h2 : ∀ z, z ∈ r → blt b.path z.path = true) (ho : itemOk b = true) : runAll (S ++ r) (⟨1, b⟩ :: cs) = runAll ((S ++ [b]) ++ r) cs := by
  refine run_step ho ?_
  unfold stepOf
  rw [if_pos rfl, if_neg (by rw [noFind h1 h2]; simp), putIt_mid h1 h2]
  simp
theorem item_ids {x : It} (h : itemOk x = true) (hd : x.dir = true) : x.ids = [] := by
  unfold itemOk idsOk at h
  rw [hd] at h
  cases hi : x.ids with
  | nil => rfl
  | cons i r => rw [hi] at h; simp at h
def RunsTo (a b : List It) : Prop := ∀ bd, Srt (bd ++ a) → Srt (bd ++ b) → (∀ x, x ∈ a → itemOk x = true) → (∀ y, y ∈ b → itemOk y = true) → runAll (bd ++ a) (chg a b) = some (bd ++ b)
theorem runs_to (a b : List It) : RunsTo a b := by
  refine chg_ind (M := RunsTo) ?_ ?_ ?_ ?_ ?_ ?_ _ a b (Nat.le_refl _)
  · intro bd _ _ _ _
    rw [chg_nil]; rfl
  · intro a az ih bd h1 h2 h3 h4
    rw [chg_left, run_gone h1 (h3 a (by simp))]
    exact ih bd (srt_cut h1).2.2 h2 (fun x hx => h3 x (by simp [hx])) h4
  · intro b bz ih bd h1 h2 h3 h4
    obtain ⟨k1, k2, k3⟩ := srt_cut h2
    rw [chg_right, run_new k1 (fun z hz => by cases hz) (h4 b (by simp))]
    have := ih (bd ++ [b]) (by
      rw [List.append_nil] at h1 ⊢
      exact List.pairwise_append.2 ⟨h1, List.pairwise_singleton _ _, fun y hy z hz => by simp at hz; subst hz; exact k1 y hy⟩) (by simpa using h2) h3 (fun y hy => h4 y (by simp [hy]))
    simpa using this
  · intro a az b bz hlt ih bd h1 h2 h3 h4
    rw [chg_lt _ _ hlt, run_gone h1 (h3 a (by simp))]
    exact ih bd (srt_cut h1).2.2 h2 (fun x hx => h3 x (by simp [hx])) h4
  · intro a az b bz hlt hgt ih bd h1 h2 h3 h4
    obtain ⟨k1, k2, k3⟩ := srt_cut h2
    obtain ⟨m1, m2, m3⟩ := srt_cut h1
    have hb : ∀ z, z ∈ a :: az → blt b.path z.path = true := fun z hz => by
      rcases List.mem_cons.1 hz with rfl | hz
      · exact hgt
      · exact blt_tr hgt (m2 z hz)
    rw [chg_gt _ _ hlt hgt, run_new k1 hb (h4 b (by simp))]
    have hs : Srt ((bd ++ [b]) ++ (a :: az)) := by
      have q := List.pairwise_append.1 h1
      rw [List.append_assoc]
      exact List.pairwise_append.2 ⟨q.1, List.pairwise_cons.2 ⟨hb, q.2.1⟩, fun y hy z hz => by
        rcases List.mem_cons.1 hz with rfl | hz
        · exact k1 y hy
        · exact q.2.2 y hy z hz⟩
    have := ih (bd ++ [b]) hs (by simpa using h2) h3 (fun y hy => h4 y (by simp [hy]))
    simpa using this
  · intro a az b bz hlt hgt ih bd h1 h2 h3 h4
    have e : a.path = b.path := blt_tot hlt hgt
    obtain ⟨k1, k2, k3⟩ := srt_cut h2
    obtain ⟨m1, m2, m3⟩ := srt_cut h1
    have hbz : ∀ z, z ∈ az → blt b.path z.path = true := fun z hz => by rw [← e]; exact m2 z hz
    have hs : Srt ((bd ++ [b]) ++ az) := by
      have q := List.pairwise_append.1 m3
      rw [List.append_assoc]
      exact List.pairwise_append.2 ⟨q.1, List.pairwise_cons.2 ⟨hbz, q.2.1⟩, fun y hy z hz => by
        rcases List.mem_cons.1 hz with rfl | hz
        · exact k1 y hy
        · exact q.2.2 y hy z hz⟩
    have hi := ih (bd ++ [b]) hs (by simpa using h2) (fun x hx => h3 x (by simp [hx])) (fun y hy => h4 y (by simp [hy]))
    by_cases hd : a.dir = b.dir
    · cases he : eqb a b with
      | true =>
        obtain rfl := eqb_true.1 he
        rw [chg_same _ _ hlt hgt hd he]
        simpa using hi
      | false =>
        rw [chg_other _ _ hlt hgt hd he]
        have hne := eqb_false.1 he
        have hdf : b.dir = false := by
          cases hb : b.dir with
          | false => rfl
          | true =>
            exfalso
            have q1 := item_ids (h3 a (by simp)) (hd.trans hb)
            have q2 := item_ids (h4 b (by simp)) hb
            apply hne
            cases a; cases b
            simp only at e hd q1 q2 hb
            subst e; subst hd; subst q1; subst q2; rfl
        have hids : a.ids ≠ b.ids := fun q => hne (by
          cases a; cases b
          simp only at e hd q
          subst e; subst hd; subst q; rfl)
        rw [run_step (h4 b (by simp)) (S' := (bd ++ [b]) ++ az) (by
          unfold stepOf
          rw [if_neg (by simp), if_neg (by simp), if_pos rfl, if_pos ⟨a, by rw [← e]; exact find_mid h1, hd.trans hdf, hdf, hids⟩, putIt_at e k1 hbz]
          simp)]
        simpa using hi
    · rw [chg_two _ _ hlt hgt hd, run_gone h1 (h3 a (by simp)), run_new k1 hbz (h4 b (by simp))]
      simpa using hi
theorem run_chg {a b : List It} (ha : treeOk a = true) (hb : treeOk b = true) : runOf a (chg a b) = some b := by
  obtain ⟨-, a2, a3⟩ := tree_set.1 ha
  obtain ⟨-, b2, b3⟩ := tree_set.1 hb
  have := runs_to a b [] a2 b2 (fun x hx => (a3 x hx).1) (fun y hy => (b3 y hy).1)
  unfold runOf
  rw [if_pos ha, show runAll a (chg a b) = some b from this]
  simp [hb]
theorem runOf_some {l o : List It} {cs : List Ch} (h : runOf l cs = some o) : treeOk l = true ∧ treeOk o = true := by
  unfold runOf at h
  split at h
  · rename_i hl
    cases hr : runAll l cs with
    | none => rw [hr] at h; cases h
    | some q =>
      rw [hr] at h
      simp only [Option.bind_some] at h
      split at h
      · rename_i ho; cases h; exact ⟨hl, ho⟩
      · cases h
  · cases h
theorem chgs_len (a b : List It) : (chg a b).length ≤ a.length + b.length := by
  refine chg_ind (M := fun a b => (chg a b).length ≤ a.length + b.length) ?_ ?_ ?_ ?_ ?_ ?_ _ a b (Nat.le_refl _)
  · simp [chg_nil]
  · intro a az ih; rw [chg_left]; simp at ih ⊢; omega
  · intro b bz ih; rw [chg_right]; simp at ih ⊢; omega
  · intro a az b bz h ih; rw [chg_lt _ _ h]; simp at ih ⊢; omega
  · intro a az b bz h h' ih; rw [chg_gt _ _ h h']; simp at ih ⊢; omega
  · intro a az b bz h h' ih
    by_cases hd : a.dir = b.dir
    · cases he : eqb a b with
      | true => rw [chg_same _ _ h h' hd he]; simp; omega
      | false => rw [chg_other _ _ h h' hd he]; simp; omega
    · rw [chg_two _ _ h h' hd]; simp; omega
theorem run_back {l o : List It} {cs : List Ch} (h : runOf l cs = some o) : chgOf l o = some (chg l o) ∧ runOf l (chg l o) = some o ∧ (chg l o).length ≤ 24 := by
  obtain ⟨h1, h2⟩ := runOf_some h
  refine ⟨if_pos ⟨h1, h2⟩, run_chg h1 h2, ?_⟩
  have := chgs_len l o
  have a1 := (tree_set.1 h1).1; have a2 := (tree_set.1 h2).1
  omega
end Go.Sf
