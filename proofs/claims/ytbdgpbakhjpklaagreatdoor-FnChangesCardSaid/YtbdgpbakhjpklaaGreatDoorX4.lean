/- Rows of the call's own are marked: markIntS, markItemS; what they leave alone. -/
import Derived.Test.YtbdgpbakhjpklaaGreatDoorX2
import Derived.Test.YtbdgpbakhjpklaaGreatDoorX3
namespace Go.Sf
open Go Go.RowKit Go.Proofs
/-- nothing but the blocks in S has changed; new ones may have come -/
def Mod (S : Nat → Prop) (w w' : World) : Prop := (w'.os = w.os ∧ w'.tape = w.tape ∧ w'.output = w.output) ∧ w.heap.size ≤ w'.heap.size ∧ ∀ b, b < w.heap.size → ¬ S b → w'.heap[b]? = w.heap[b]?
section
variable {S S' : Nat → Prop} {w w' w'' w0 : World}
theorem Ext.mod (h : Ext w w') (S : Nat → Prop) : Mod S w w' := ⟨⟨Below.os h, Below.tape h, Below.output h⟩, h.size, fun _ hb _ => h.block hb⟩
theorem Mod.refl (S : Nat → Prop) (w : World) : Mod S w w := (Ext.refl w).mod S
theorem Mod.trans (h : Mod S w w') (k : Mod S w' w'') : Mod S w w'' :=
  ⟨⟨k.1.1.trans h.1.1, k.1.2.1.trans h.1.2.1, k.1.2.2.trans h.1.2.2⟩, Nat.le_trans h.2.1 k.2.1, fun b hb hs => (k.2.2 b (Nat.lt_of_lt_of_le hb h.2.1) hs).trans (h.2.2 b hb hs)⟩
theorem Mod.mono (h : Mod S w w') (hs : ∀ b, S b → S' b) : Mod S' w w' := ⟨h.1, h.2.1, fun b hb hn => h.2.2 b hb fun h => hn (hs b h)⟩
theorem Mod.size (h : Mod S w w') : w.heap.size ≤ w'.heap.size := h.2.1
theorem Mod.keeps {B : Nat} (h : Mod S w w') (hs : ∀ b, S b → b < B) : Keeps B w w' := fun b hB hb => h.2.2 b hb fun k => by have := hs b k; omega
theorem Mod.ext (h : Mod S w w') (h0 : Ext w0 w) (hs : ∀ b, S b → w0.heap.size ≤ b) : Ext w0 w' :=
  ⟨h.1.1.trans (Below.os h0 : w.os = w0.os), h.1.2.1.trans (Below.tape h0 : w.tape = w0.tape), h.1.2.2.trans (Below.output h0 : w.output = w0.output), Nat.le_trans h0.size h.2.1, fun b hb => (h.2.2 b (Nat.lt_of_lt_of_le hb h0.size) (fun k => by have := hs b k; omega)).trans (h0.block hb)⟩
theorem Mod.set {p : Addr} (hp : S p.block) (u : Value) : Mod S w (w.setCell p u) :=
  ⟨⟨rfl, rfl, rfl⟩, by simp [World.setCell], fun k _ hk => Below.heap_setCell w p u k fun e => hk (e ▸ hp)⟩
theorem Mod.blk (h : Mod S w w') {b : Nat} {t : TypeId} {cs : Array Value} (hb : Blk w b t cs) (hs : ¬ S b) : Blk w' b t cs := (h.2.2 b hb.lt hs).trans hb
end
theorem SlIn.mod {α : Type} {B : Nat} {t : TypeId} {sz : Nat} {E E' : World → Array Value → Nat → α → Prop} {S : Nat → Prop} {w w' : World} {A : Option Addr} {c : Nat} {l : List α} (h : SlIn B t sz E w A c l) (hm : Mod S w w')
    (hs : ∀ b o, A = some ⟨b, o, none⟩ → ¬ S b) (hE : ∀ (k : Nat) (x : α) (cs : Array Value) (p : Nat), l[k]? = some x → E w cs p x → E' w' cs p x) : SlIn B t sz E' w' A c l :=
  ⟨h.1, h.2.1, h.2.2.1, fun k x hx => let ⟨b, o, cs, e1, e2, e3, e4⟩ := h.2.2.2 k x hx; ⟨b, o, cs, e1, e2, hm.blk e3 (hs b o e1), hE k x _ _ hx e4⟩⟩
theorem Blk.inj {w : World} {b : Nat} {t t' : TypeId} {cs cs' : Array Value} (h : Blk w b t cs) (h' : Blk w b t' cs') : cs = cs' := by
  unfold Blk at h h'
  rw [h] at h'
  simp only [Option.some.injEq, Obj.cells.injEq] at h'
  exact h'.1
/-- block b holds the ints xs of the slice u -/
def Own (u : Value) (xs : List Int) (b : Nat) : Prop := u.ownBlock = some b ∧ xs ≠ []
theorem Ints.own {B : Nat} {w : World} {u : Value} {xs : List Int} (h : Ints B w u xs) {b : Nat} (ho : Own u xs b) : B ≤ b ∧ ∃ cs, Blk w b 3 cs := by
  obtain ⟨A, c, rfl, -, -, -, h⟩ := h
  obtain ⟨ho, hn⟩ := ho
  cases xs with
  | nil => exact absurd rfl hn
  | cons x xs =>
    obtain ⟨b', o', cs, rfl, h1, h2, -⟩ := h 0 x rfl
    simp only [Value.ownBlock, Option.some.injEq] at ho
    subst ho
    exact ⟨h1, cs, h2⟩
theorem Ints.mod {B : Nat} {S : Nat → Prop} {w w' : World} {u : Value} {xs : List Int} (h : Ints B w u xs) (hm : Mod S w w') (hs : ∀ b, Own u xs b → ¬ S b) : Ints B w' u xs := by
  obtain ⟨A, c, rfl, h⟩ := h
  exact ⟨A, c, rfl, h.1, h.2.1, h.2.2.1, fun k x hx => let ⟨b, o, cs, e1, e2, e3, e4⟩ := h.2.2.2 k x hx; ⟨b, o, cs, e1, e2, hm.blk e3 (hs b ⟨by rw [e1]; rfl, fun e => by rw [e] at hx; simp at hx⟩), e4⟩⟩
/-- one element of a row turns -/
theorem SlIn.upd {α : Type} {B : Nat} {t : TypeId} {sz : Nat} {E : World → Array Value → Nat → α → Prop} {w w' : World} {b o c j : Nat} {L : List α} {x y : α} (h : SlIn B t sz E w (some ⟨b, o, none⟩) c L) (hj : L[j]? = some x)
    (hw : ∀ cs, Blk w b t cs → E w cs (o + j * sz) x → ∃ cs', Blk w' b t cs' ∧ E w' cs' (o + j * sz) y ∧ ∀ i z, i ≠ j → L[i]? = some z → E w cs (o + i * sz) z → E w' cs' (o + i * sz) z) :
    SlIn B t sz E w' (some ⟨b, o, none⟩) c (L.set j y) := by
  obtain ⟨h1, h2, h3, h4⟩ := h
  obtain ⟨b', o', cs, e1, hB, hb, he⟩ := h4 j x hj
  simp only [Option.some.injEq, Addr.mk.injEq, and_true] at e1
  obtain ⟨rfl, rfl⟩ := e1
  obtain ⟨cs', hb', hy, hz⟩ := hw cs hb he
  refine ⟨by simpa using h1, h2, by simpa using h3, fun k z hk => ⟨b, o, cs', rfl, hB, hb', ?_⟩⟩
  rw [List.getElem?_set] at hk
  by_cases hjk : j = k
  · subst hjk
    rw [if_pos rfl, if_pos (lt_of_get hj)] at hk
    rw [← Option.some.inj hk]; exact hy
  · rw [if_neg hjk] at hk
    obtain ⟨b2, o2, cs2, e2, -, hb2, he2⟩ := h4 k z hk
    simp only [Option.some.injEq, Addr.mk.injEq, and_true] at e2
    obtain ⟨rfl, rfl⟩ := e2
    have : cs2 = cs := by
      unfold Blk at hb hb2
      rw [hb] at hb2
      simp only [Option.some.injEq, Obj.cells.injEq] at hb2
      exact hb2.1.symm
    subst this
    exact hz k z (fun e => hjk e.symm) hk he2
theorem set_mid {α : Type} {a r : List α} {x y : α} {j : Nat} (hj : a.length = j) : (a ++ x :: r).set j y = a ++ y :: r := by
  rw [List.set_append_right _ _ (by omega), hj, Nat.sub_self]; rfl
/-! ### ints -/
def mkInts (k : Int) (n : Nat) : List Int := (List.range n).map fun i => k + (i : Nat)
theorem mkInts_len (k : Int) (n : Nat) : (mkInts k n).length = n := by simp [mkInts]
theorem mkInts_succ (k : Int) (n : Nat) : mkInts k (n + 1) = mkInts k n ++ [k + (n : Nat)] := by simp [mkInts, List.range_succ]
/-- what a call leaves that turns blocks of S and hands v back -/
def RetM (S : Nat → Prop) (v : Value) (R : World → Prop) (w : World) (e : Ending) (w' : World) : Prop := e = .returned v ∧ R w' ∧ Mod S w w'
set_option maxRecDepth 4000 in
set_option maxHeartbeats 1000000 in
theorem markIntS_c {B : Nat} {u : Value} {xs : List Int} {k : Int} (w : World) (h : Ints B w u xs) (h0 : 0 ≤ k) (h1 : k ≤ 2305843009213693951) :
    Calls Tryz.prog 62 #[u, .int .i64 k] w (RetM (Own u xs) (.int .i64 (k + (xs.length : Nat))) (fun w' => Ints B w' u (mkInts k xs.length)) w) := by
  obtain ⟨A, c, rfl, hA⟩ := h
  have hl := hA.2.2.1
  unfold lim at hl
  have hex : ∃ n, xs.length = n := ⟨_, rfl⟩
  obtain ⟨n, hn⟩ := hex
  rw [hn] at hl ⊢
  have Hn := Lib.hid hn
  have HA := Lib.hid hA
  clear hA hn
  go_enter Tryz.func62, Tryz.ntmps62
  go_wp2
  go_loopw [1, 5] (fun q i wr => ∃ j : Nat, j ≤ n ∧ i = .int .i64 j ∧ q = .int .i64 (k + (j : Nat)) ∧ Hid (SlIn B 3 1 EInt wr A c (mkInts k j ++ xs.drop j)) ∧ Hid (Mod (Own (Value.slice A n c) xs) w wr)) (fun _ i _ => n - (intOf i).toNat)
  case atStart => exact ⟨0, by omega, rfl, by simp, Lib.hid (by simpa [mkInts] using HA.out), Lib.hid (Mod.refl _ _)⟩
  case round =>
    obtain ⟨j, hj, rfl, rfl, hS, hM⟩ := hrel
    by_cases hlt : j < n
    · obtain ⟨x, hx⟩ := get_of_lt (l := xs) (k := j) (by rw [Hn.out]; exact hlt)
      have hL : (mkInts k j ++ xs.drop j)[j]? = some x := by
        rw [List.getElem?_append_right (by rw [mkInts_len]; exact Nat.le_refl _), mkInts_len, Nat.sub_self, List.getElem?_drop]; simpa using hx
      obtain ⟨b, o, cs, rfl, hB, hb, hE⟩ := hS.out.2.2.2 j x hL
      rw [Nat.mul_one] at hE
      have d0 := (hb.cell (o + j)).trans hE.1
      have f0 := hb.frozen (o + j)
      have hup : Hid (SlIn B 3 1 EInt (wr.setCell ⟨b, o + j, none⟩ (.int .i64 (k + (j : Nat)))) (some ⟨b, o, none⟩) c (mkInts k (j + 1) ++ xs.drop (j + 1))) := Lib.hid (by
        have hd := drop_cons hx
        have e : mkInts k (j + 1) ++ xs.drop (j + 1) = (mkInts k j ++ xs.drop j).set j (k + (j : Nat)) := by
          rw [mkInts_succ, hd, List.append_assoc, set_mid (mkInts_len k j)]; rfl
        rw [e]
        refine SlIn.upd hS.out hL fun cs2 hb2 he2 => ⟨_, hb2.set_ (o + j) (.int .i64 (k + (j : Nat))), ⟨?_, by unfold inI; omega⟩, fun i z hi hz hez => ⟨?_, hez.2⟩⟩
        · have := (Array.getElem?_eq_some_iff.1 he2.1).1
          rw [Nat.mul_one] at this ⊢
          rw [Array.getElem?_setIfInBounds, if_pos rfl, if_pos this]
        · rw [Array.getElem?_setIfInBounds, if_neg (by omega)]; exact hez.1)
      have hM2 : Hid (Mod (Own (Value.slice (some ⟨b, o, none⟩) n c) xs) w (wr.setCell ⟨b, o + j, none⟩ (.int .i64 (k + (j : Nat))))) := Lib.hid (hM.out.trans (Mod.set (S := Own (Value.slice (some ⟨b, o, none⟩) n c) xs) (p := ⟨b, o + j, none⟩) ⟨rfl, fun e => by rw [e] at hx; simp at hx⟩ _))
      clear hx hL hb hE hS hM
      go_wp2
      go_roundw
      case rel => exact ⟨j + 1, by omega, by go_num, by go_num, hup, hM2⟩
      case measure => simp [intOf]; omega
    · have hjs : j = n := by omega
      subst hjs
      have hS2 : Hid (SlIn B 3 1 EInt wr A c (mkInts k j)) := Lib.hid (by have := hS.out; rwa [List.drop_eq_nil_of_le (by rw [Hn.out]; exact Nat.le_refl _), List.append_nil] at this)
      clear hS
      go_wp2
      go_ret
      exact ⟨rfl, ⟨A, c, by rw [mkInts_len], hS2.out⟩, hM.out⟩
/-! ### items -/
def wIt (x : It) : Nat := 2 + x.ids.length
def cIts (l : List It) : Nat := (l.map wIt).sum
def mkIt (k : Int) (x : It) : It := ⟨mt k, ((k + 1) % 3 == 0), mkInts (k + 1 + 1) x.ids.length⟩
def mkItsU : Int → List (It × Value) → List (It × Value)
  | _, [] => []
  | k, q :: r => (mkIt k q.1, q.2) :: mkItsU (k + (wIt q.1 : Nat)) r
def mkIts : Int → List It → List It
  | _, [] => []
  | k, x :: r => mkIt k x :: mkIts (k + (wIt x : Nat)) r
theorem mkItsU_fst : ∀ (k : Int) (l : List (It × Value)), (mkItsU k l).map Prod.fst = mkIts k (l.map Prod.fst) := by
  intro k l
  induction l generalizing k with
  | nil => rfl
  | cons q r ih => rw [mkItsU, List.map_cons, List.map_cons, mkIts, ih]
theorem mkItsU_len (k : Int) (l : List (It × Value)) : (mkItsU k l).length = l.length := by
  induction l generalizing k with
  | nil => rfl
  | cons q r ih => rw [mkItsU, List.length_cons, List.length_cons, ih]
theorem mkItsU_snd (k : Int) (l : List (It × Value)) : (mkItsU k l).map Prod.snd = l.map Prod.snd := by
  induction l generalizing k with
  | nil => rfl
  | cons q r ih => rw [mkItsU, List.map_cons, List.map_cons, ih]
theorem mkItsU_snoc (k : Int) (l : List (It × Value)) (q : It × Value) : mkItsU k (l ++ [q]) = mkItsU k l ++ [(mkIt (k + (cIts (l.map Prod.fst) : Nat)) q.1, q.2)] := by
  induction l generalizing k with
  | nil => simp [mkItsU, cIts]
  | cons p r ih =>
    rw [List.cons_append, mkItsU, ih, mkItsU, List.cons_append]
    have e : k + (wIt p.1 : Nat) + (cIts (r.map Prod.fst) : Nat) = k + (cIts ((p :: r).map Prod.fst) : Nat) := by
      simp only [cIts, List.map_cons, List.sum_cons, Int.natCast_add]; omega
    rw [e]
theorem cIts_take {l : List It} {j : Nat} {x : It} (h : l[j]? = some x) : cIts (l.take (j + 1)) = cIts (l.take j) + wIt x := by
  unfold cIts; rw [List.take_add_one, h]; simp
theorem cIts_take_le (l : List It) (j : Nat) : cIts (l.take j) ≤ cIts l := by
  unfold cIts
  conv => rhs; rw [← List.take_append_drop j l]
  rw [List.map_append, List.sum_append]; omega
/-- the blocks that a row of items and their ids lie in -/
def FootIt (v : Value) (l : List (It × Value)) (b : Nat) : Prop := (v.ownBlock = some b ∧ l ≠ []) ∨ ∃ q, q ∈ l ∧ Own q.2 q.1.ids b
theorem ItsU.foot {B : Nat} {w : World} {v : Value} {l : List (It × Value)} (h : ItsU B w v l) {b : Nat} (hf : FootIt v l b) : B ≤ b ∧ b < w.heap.size := by
  obtain ⟨A, c, rfl, -, -, -, h⟩ := h
  rcases hf with ⟨ho, hn⟩ | ⟨q, hq, ho⟩
  · cases l with
    | nil => exact absurd rfl hn
    | cons x xs =>
      obtain ⟨b', o', cs, rfl, h1, h2, -⟩ := h 0 x rfl
      simp only [Value.ownBlock, Option.some.injEq] at ho
      subst ho
      exact ⟨h1, h2.lt⟩
  · obtain ⟨k, hk⟩ := List.mem_iff_getElem?.1 hq
    obtain ⟨b', o', cs, -, -, -, -, -, -, -, hi⟩ := h k q hk
    obtain ⟨h1, cs', h2⟩ := hi.own ho
    exact ⟨h1, h2.lt⟩
theorem Sep.ne {α : Type} {l : List (α × Value)} (h : Sep l) {i j : Nat} {p q : α × Value} (hi : l[i]? = some p) (hj : l[j]? = some q) (hij : i ≠ j) {g : Nat} (hg : p.2.ownBlock = some g) : q.2.ownBlock ≠ some g := by
  unfold Sep at h
  rw [List.pairwise_iff_getElem] at h
  have h1 := lt_of_get hi; have h2 := lt_of_get hj
  rw [List.getElem?_eq_getElem h1] at hi
  rw [List.getElem?_eq_getElem h2] at hj
  rcases Nat.lt_or_ge i j with hlt | hge
  · have := h i j h1 h2 hlt g
    rw [Option.some.inj hi, Option.some.inj hj] at this
    exact this hg
  · intro hq
    have := h j i h2 h1 (by omega) g
    rw [Option.some.inj hi, Option.some.inj hj] at this
    exact this hq hg
set_option maxRecDepth 4000 in
set_option maxHeartbeats 1000000 in
theorem markItemS_c {B : Nat} {v : Value} {l : List (It × Value)} {k : Int} (w : World) (h : ItsU B w v l) (hsep : Sep l) (h0 : 1 ≤ k) (h1 : k + (cIts (l.map Prod.fst) : Nat) ≤ 1152921504606846976) :
    Calls Tryz.prog 30 #[v, .int .i64 k] w (RetM (FootIt v l) (.int .i64 (k + (cIts (l.map Prod.fst) : Nat))) (fun w' => ItsU B w' v (mkItsU k l)) w) := by
  obtain ⟨A, c, rfl, hA⟩ := h
  have hl := hA.2.2.1
  unfold lim at hl
  have hex : ∃ n, l.length = n := ⟨_, rfl⟩
  obtain ⟨n, hn⟩ := hex
  rw [hn] at hl ⊢
  have Hn := Lib.hid hn
  have HA := Lib.hid hA
  have HS := Lib.hid hsep
  have H1 := Lib.hid h1
  clear hA hn hsep h1
  go_enter Tryz.func30, Tryz.ntmps30
  go_wp2
  go_loopw [1, 5] (fun q i wr => ∃ (j : Nat) (d : Int), j ≤ n ∧ i = .int .i64 j ∧ q = .int .i64 d ∧ Hid (d = k + (cIts ((l.map Prod.fst).take j) : Nat)) ∧ Hid (SlIn B 32 3 (EItU B) wr A c (mkItsU k (l.take j) ++ l.drop j)) ∧ Hid (Mod (FootIt (Value.slice A n c) l) w wr)) (fun _ i _ => n - (intOf i).toNat)
  case atStart => exact ⟨0, k, by omega, rfl, rfl, Lib.hid (by simp [cIts]), Lib.hid (by simpa [mkItsU] using HA.out), Lib.hid (Mod.refl _ _)⟩
  case round =>
    obtain ⟨j, d, hj, rfl, rfl, hd, hS, hM⟩ := hrel
    by_cases hlt : j < n
    · obtain ⟨x, hx⟩ := get_of_lt (l := l) (k := j) (by rw [Hn.out]; exact hlt)
      obtain ⟨x, u⟩ := x
      have hxf : (l.map Prod.fst)[j]? = some x := by rw [List.getElem?_map, hx]; rfl
      have htl : (l.take j).length = j := by rw [List.length_take, Hn.out]; omega
      have hL : (mkItsU k (l.take j) ++ l.drop j)[j]? = some (x, u) := by
        rw [List.getElem?_append_right (by rw [mkItsU_len, htl]; exact Nat.le_refl _), mkItsU_len, htl, Nat.sub_self, List.getElem?_drop]; simpa using hx
      obtain ⟨b, o, cs, rfl, hB, hb, e0, hps, e1, e2, hI⟩ := hS.out.2.2.2 j _ hL
      simp only at e0 hps e1 e2 hI
      have hc := cIts_take hxf
      have hc2 := cIts_take_le (l.map Prod.fst) (j + 1)
      have hdb : 1 ≤ d ∧ d + 2 + (x.ids.length : Nat) ≤ 1152921504606846976 := by
        have := hd.out; have := H1.out; have hw : wIt x = 2 + x.ids.length := rfl
        omega
      have hlen := hI.len
      obtain ⟨Au, cu, rfl, hU⟩ := hI
      have d0 := fun W (e : Ext wr W) => hb.at_ e0 W e; have d1 := fun W (e : Ext wr W) => hb.at_ e1 W e; have d2 := fun W (e : Ext wr W) => hb.at_ e2 W e
      have f0 := fun W (e : Ext wr W) => (hb.ext e).frozen (o + j * 3); have f1 := fun W (e : Ext wr W) => (hb.ext e).frozen (o + j * 3 + 1)
      have Cm : ∀ W, Calls Tryz.prog 61 #[.int .i64 d] W (Ret (.string (mt d)) W) := fun W => markText_c d W (by omega) (by omega)
      have Hb := Lib.hid hb; have HL := Lib.hid hL; have Hx := Lib.hid hx; have HU := Lib.hid hU; have Hc := Lib.hid hc; have Hxf := Lib.hid hxf; have Htl := Lib.hid htl
      obtain ⟨hd1, hd2⟩ := hdb
      clear hb hL hx hU hc hc2 hxf e0 e1 e2 htl
      go_wp2_with (go_at_call 61; refine (Cm _).mono ?_; rintro e w1 ⟨rfl, he1⟩; have d0 := d0 _ he1; have d1 := d1 _ he1; have d2 := d2 _ he1; have f0 := f0 _ he1; have f1 := f1 _ he1)
      have B0 := Hb.out.ext he1
      have B1 := B0.set_ (o + j * 3) (.string (mt d))
      have B2 := B1.set_ (o + j * 3 + 1) (.bool ((d + 1) % 3 == 0))
      have K2 := (KeepsT.set (i := o + j * 3) B0 (.string (mt d)) rfl).trans (KeepsT.set (i := o + j * 3 + 1) B1 (.bool ((d + 1) % 3 == 0)) rfl)
      have hu : Ints B _ (.slice Au x.ids.length cu) x.ids := (Ints.ext (w := wr) (w' := w1) ⟨Au, cu, rfl, HU.out⟩ he1).keepT K2 (by decide)
      have hne : l ≠ [] := fun e => by have := Hx.out; rw [e] at this; simp at this
      have M2 : Mod (FootIt (Value.slice (some ⟨b, o, none⟩) n c) l) w1 _ := (Mod.set (S := FootIt (Value.slice (some ⟨b, o, none⟩) n c) l) (p := ⟨b, o + j * 3, none⟩) (.inl ⟨rfl, hne⟩) (.string (mt d))).trans (Mod.set (S := FootIt (Value.slice (some ⟨b, o, none⟩) n c) l) (p := ⟨b, o + j * 3 + 1, none⟩) (.inl ⟨rfl, hne⟩) (.bool ((d + 1) % 3 == 0)))
      have M3 := Lib.hid ((he1.mod _).trans M2)
      clear M2 d0 d1 d2 f0 f1 B0 B1 Cm
      refine (markIntS_c (k := d + 1 + 1) _ hu (by omega) (by omega)).mono ?_
      rintro e w4 ⟨rfl, hu4, hM4⟩
      have hfo : ∀ b', Own (.slice Au x.ids.length cu) x.ids b' → FootIt (Value.slice (some ⟨b, o, none⟩) n c) l b' := fun b' ho => .inr ⟨_, List.mem_of_getElem? Hx.out, ho⟩
      have hM5 : Hid (Mod (FootIt (Value.slice (some ⟨b, o, none⟩) n c) l) w w4) := Lib.hid ((hM.out.trans M3.out).trans (hM4.mono hfo))
      have hbu : ¬ Own (.slice Au x.ids.length cu) x.ids b := fun ho => by
        obtain ⟨-, cs', h'⟩ := hu.own ho
        exact Blk.ne_ h' B2 (by decide) rfl
      have hup : Hid (SlIn B 32 3 (EItU B) w4 (some ⟨b, o, none⟩) c (mkItsU k (l.take (j + 1)) ++ l.drop (j + 1))) := Lib.hid (by
        have hdr := drop_cons Hx.out
        have e : mkItsU k (l.take (j + 1)) ++ l.drop (j + 1) = (mkItsU k (l.take j) ++ l.drop j).set j (mkIt d x, .slice Au x.ids.length cu) := by
          rw [hdr, set_mid (by rw [mkItsU_len, Htl.out]), List.take_add_one, Hx.out, Option.toList_some, mkItsU_snoc, List.append_assoc, List.map_take, ← hd.out]; rfl
        rw [e]
        refine SlIn.upd hS.out HL.out fun cs2 hb2 he2 => ⟨_, hM4.blk B2 hbu, ?_, fun i z hi hz hez => ?_⟩
        · obtain rfl := hb2.inj Hb.out
          obtain ⟨-, -, -, q2, -⟩ := he2
          have hsz := (Array.getElem?_eq_some_iff.1 q2).1
          refine ⟨?_, mt_size d, ?_, ?_, hu4⟩
          · rw [Array.getElem?_setIfInBounds, if_neg (by omega), Array.getElem?_setIfInBounds, if_pos rfl, if_pos (by omega)]; rfl
          · rw [Array.getElem?_setIfInBounds, if_pos rfl, Array.size_setIfInBounds, if_pos (by omega)]; rfl
          · rw [Array.getElem?_setIfInBounds, if_neg (by omega), Array.getElem?_setIfInBounds, if_neg (by omega)]; exact q2
        · obtain rfl := hb2.inj Hb.out
          obtain ⟨zi, zu⟩ := z
          obtain ⟨q0, hq, q1, q2, q3⟩ := hez
          simp only at q0 hq q1 q2 q3
          have q3' := ((q3.ext he1).keepT K2 (by decide)).mod hM4 (fun b' ho ho' => by
            have hii : ∃ zi', l[i]? = some (zi', zu) := by
              have e2 : ((mkItsU k (l.take j) ++ l.drop j).map Prod.snd)[i]? = some zu := by rw [List.getElem?_map, hz]; rfl
              rw [List.map_append, mkItsU_snd, ← List.map_append, List.take_append_drop, List.getElem?_map, Option.map_eq_some_iff] at e2
              obtain ⟨q', h1, rfl⟩ := e2
              exact ⟨q'.1, h1⟩
            obtain ⟨zi', hz'⟩ := hii
            exact HS.out.ne Hx.out hz' (fun e => hi e.symm) ho'.1 ho.1)
          refine ⟨?_, hq, ?_, ?_, q3'⟩
          · rw [Array.getElem?_setIfInBounds, if_neg (by omega), Array.getElem?_setIfInBounds, if_neg (by omega)]; exact q0
          · rw [Array.getElem?_setIfInBounds, if_neg (by omega), Array.getElem?_setIfInBounds, if_neg (by omega)]; exact q1
          · rw [Array.getElem?_setIfInBounds, if_neg (by omega), Array.getElem?_setIfInBounds, if_neg (by omega)]; exact q2)
      have hd3 : Hid (d + 1 + 1 + (x.ids.length : Nat) = k + (cIts ((l.map Prod.fst).take (j + 1)) : Nat)) := Lib.hid (by
        rw [Hc.out, hd.out]; have hw : wIt x = 2 + x.ids.length := rfl
        omega)
      clear K2 hbu hfo hu hM4 hu4 B2 M3 hM hS HL
      go_wp2
      go_roundw
      case rel => exact ⟨j + 1, _, by omega, by go_num, rfl, hd3, hup, hM5⟩
      case measure => simp [intOf]; omega
    · have hjs : j = n := by omega
      subst hjs
      have ht : l.take j = l := List.take_of_length_le (by rw [Hn.out]; exact Nat.le_refl _)
      have ht2 : (l.map Prod.fst).take j = l.map Prod.fst := by rw [← List.map_take, ht]
      have hS2 : Hid (SlIn B 32 3 (EItU B) wr A c (mkItsU k l)) := Lib.hid (by have := hS.out; rwa [ht, List.drop_eq_nil_of_le (by rw [Hn.out]; exact Nat.le_refl _), List.append_nil] at this)
      have hd2 := hd.out
      rw [ht2] at hd2
      clear hS hd ht ht2
      go_wp2
      go_ret
      exact ⟨ret_v (by rw [hd2]; rfl), ⟨A, c, by rw [mkItsU_len, Hn.out], hS2.out⟩, hM.out⟩
end Go.Sf
