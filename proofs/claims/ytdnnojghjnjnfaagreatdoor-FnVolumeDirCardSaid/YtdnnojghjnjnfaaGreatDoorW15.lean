/- What stays where only rows of one element type are written; disks that are worked on, in memory. -/
import Derived.Test.YtdnnojghjnjnfaaGreatDoorGQ
import Derived.Test.YtdnnojghjnjnfaaGreatDoorW14
import Derived.Test.YtdnnojghjnjnfaaGreatDoorT94
namespace Go.Sf
open Go Go.RowKit Go.Proofs Go.Maps
/-- all objects but cells of type t are as they were -/
def Keep1 (t : TypeId) (w w' : World) : Prop := ∀ (b : Nat) (o : Obj), w.heap[b]? = some o → (∀ cs, o ≠ Obj.cells cs t (0, 0)) → w'.heap[b]? = some o
theorem heap_lt {w : World} {b : Nat} {o : Obj} (h : w.heap[b]? = some o) : b < w.heap.size := by
  rcases Nat.lt_or_ge b w.heap.size with hlt | hge
  · exact hlt
  · rw [Array.getElem?_eq_none hge] at h; cases h
theorem Ext.keep1 {w w' : World} (h : Ext w w') (t : TypeId) : Keep1 t w w' := fun _ _ hb _ => (h.block (heap_lt hb)).trans hb
theorem Keep1.trans {t : TypeId} {a b c : World} (h : Keep1 t a b) (k : Keep1 t b c) : Keep1 t a c := fun i o hi ho => k i o (h i o hi ho) ho
theorem Keep1.keepsT {t : TypeId} {w w' : World} (h : Keep1 t w w') : KeepsT t w w' := fun b t' cs hne hb => h b _ hb (by intro cs' e; cases e; exact hne rfl)
theorem Keep1.set {t : TypeId} {w : World} {b i : Nat} {cs : Array Value} (hb : Blk w b t cs) (u : Value) : Keep1 t w (w.setCell ⟨b, i, none⟩ u) := fun j o hj ho => by
  refine (Below.heap_setCell w ⟨b, i, none⟩ u j ?_).trans hj
  rintro rfl
  unfold Blk at hb
  rw [hb] at hj
  exact ho cs (Option.some.inj hj).symm
theorem grown_keep1 {α : Type} {base : Nat} {t : TypeId} {sz : Nat} {E : World → Array Value → Nat → α → Prop} {W w' : World} {v : Value} {l : List α} (hO : OwnS base t sz E W v l) (hg : W.grownBy w' v.ownBlock) : Keep1 t W w' := fun j o hj ho => by
  refine (hg.block j (heap_lt hj) fun e => ?_).trans hj
  obtain ⟨-, cs, hb⟩ := hO.block e.symm
  unfold Blk at hb
  rw [hb] at hj
  exact ho cs (Option.some.inj hj).symm
theorem own_grown_ext {α : Type} {t : TypeId} {sz : Nat} {E : World → Array Value → Nat → α → Prop} {w0 W w' : World} {v : Value} {l : List α} (h : OwnS w0.heap.size t sz E W v l) (h0 : Ext w0 W) (hg : W.grownBy w' v.ownBlock) : Ext w0 w' := by
  obtain ⟨xs, hrow, -⟩ := h
  exact grown_ext h0 hrow hg
theorem StoreAt.keep1 {B b n : Nat} {t : TypeId} {w w' : World} {l : List Hd} (h : StoreAt B b n l w) (hk : Keep1 t w w') (ht : 3 ≠ t) : StoreAt B b n l w' := by
  refine h.keepT hk.keepsT ht ?_
  obtain ⟨M, ⟨D, ⟨es, cl, h1, -⟩, -⟩, -⟩ := h
  exact (hk b _ h1 (fun cs e => by cases e)).trans h1.symm
theorem StoreAt.low {B B' b n : Nat} {w : World} {l : List Hd} (h : StoreAt B b n l w) (hB : B' ≤ B) : StoreAt B' b n l w := let ⟨M, q1, q2⟩ := h; ⟨M, q1, fun i => ⟨(q2 i).1, fun y hy => let ⟨u, r1, r2⟩ := (q2 i).2 y hy; ⟨u, r1, r2.keep hB (fun _ _ _ => rfl)⟩⟩⟩
theorem TreeAt.low {B B' : Nat} {w : World} {l : List It} {adr : Key → Nat} {kv : Key → Value} (h : TreeAt B w l adr kv) (hB : B' ≤ B) : TreeAt B' w l adr kv := ⟨h.root.low hB, fun x hx => (h.nodes x hx).low hB, h.inj, h.sep⟩
/-- no kids of the tree lie in block g -/
def Clear (g : Option Nat) (l : List It) (kv : Key → Value) : Prop := ∀ k b, isKey l k → (kv k).ownBlock = some b → some b ≠ g
theorem TreeAt.kid_block {B : Nat} {w : World} {l : List It} {adr : Key → Nat} {kv : Key → Value} (h : TreeAt B w l adr kv) {k : Key} (hk : isKey l k) {b : Nat} (hb : (kv k).ownBlock = some b) : B ≤ b ∧ b < w.heap.size := by
  obtain ⟨dir, ids, ⟨-, hO, -⟩, -⟩ := h.node hk
  obtain ⟨h1, cs, h2⟩ := hO.block hb
  exact ⟨h1, h2.lt⟩
/-- a row of pointers apart from the tree is written -/
theorem TreeAt.frame {B : Nat} {w w' : World} {l : List It} {adr : Key → Nat} {kv : Key → Value} {g : Option Nat} (h : TreeAt B w l adr kv) (hk : KeepsT 84 w w') (hg : w.grownBy w' g) (hc : Clear g l kv) : TreeAt B w' l adr kv := by
  have key : ∀ {k dir ids}, isKey l k → Node B w l adr kv k dir ids → Node B w' l adr kv k dir ids := fun {k dir ids} hik ⟨h1, h2, u, h3, h4⟩ =>
    ⟨h1, h2.frame (fun b hb => hg.block b (h.kid_block hik hb).2 (hc k b hik hb)) (fun _ _ _ e => e), u, hk _ _ _ (by decide) h3, h4.keepT hk (by decide)⟩
  exact ⟨key (.inl rfl) h.root, fun x hx => key (.inr ⟨x, hx, rfl⟩) (h.nodes x hx), h.inj, h.sep⟩
/-- a name and where a tree's root lies -/
def ESP (_ : World) (cs : Array Value) (p : Nat) (q : ByteArray × Nat) : Prop := cs[p]? = some (.string q.1) ∧ cs[p + 1]? = some (.pointer (some ⟨q.2, 0, none⟩)) ∧ q.1.size < lim
theorem esp_ok : ElOk 170 2 ESP := ⟨fun _ _ _ _ _ _ h => h, fun _ _ _ p p' _ hj h => by
  have h0 := hj 0 (by omega); have h1 := hj 1 (by omega)
  simp only [Nat.add_zero] at h0
  exact ⟨by rw [h0]; exact h.1, by rw [h1]; exact h.2.1, h.2.2⟩, fun _ _ _ q h j hj => by
  rcases (by omega : j = 0 ∨ j = 1) with rfl | rfl
  · exact ⟨_, h.1, rfl⟩
  · exact ⟨_, h.2.1, rfl⟩⟩
theorem el_Sp : Elem Tryz.prog 140 170 2 :=
  elem_of (z := .agg #[.string ⟨#[]⟩, .pointer none]) (b := 24) Tryz.underlying140 (by kernel_rfl) (by decide) rfl (by decide)
def spAt (aq : List (ByteArray × Nat)) (p : ByteArray) : Int := atG (fun q => eqb q.1 p) aq 0
/-- snapshots as a row tells them: where their trees lie; none of them has kids in block g -/
def SnapsIn (B : Nat) (w : World) (l : List Sn) (aq : List (ByteArray × Nat)) (g : Option Nat) : Prop := aq.length = l.length ∧ ∀ (k : Nat) (x : Sn), l[k]? = some x → x.name.size < lim ∧ treeOk x.tree = true ∧ ∃ adr kv, aq[k]? = some (x.name, adr []) ∧ TreeAt B w x.tree adr kv ∧ Clear g x.tree kv
section
variable {B : Nat} {w w' : World} {l : List Sn} {aq : List (ByteArray × Nat)} {g : Option Nat}
theorem SnapsIn.ext (h : SnapsIn B w l aq g) (e : Ext w w') : SnapsIn B w' l aq g := ⟨h.1, fun k x hx => let ⟨a, b, adr, kv, c, d, f⟩ := h.2 k x hx; ⟨a, b, adr, kv, c, d.ext e, f⟩⟩
theorem SnapsIn.keep1 {t : TypeId} (h : SnapsIn B w l aq g) (hk : Keep1 t w w') (h1 : 84 ≠ t) (h2 : 99 ≠ t) (h3 : 3 ≠ t) : SnapsIn B w' l aq g := ⟨h.1, fun k x hx => let ⟨a, b, adr, kv, c, d, f⟩ := h.2 k x hx; ⟨a, b, adr, kv, c, d.keepT hk.keepsT h1 h2 h3, f⟩⟩
theorem SnapsIn.frame {g' : Option Nat} (h : SnapsIn B w l aq g) (hk : KeepsT 84 w w') (hg : w.grownBy w' g) (hg' : g' = g ∨ ∃ n, g' = some n ∧ w.heap.size ≤ n) : SnapsIn B w' l aq g' := ⟨h.1, fun k x hx => by
  obtain ⟨a, b, adr, kv, c, d, f⟩ := h.2 k x hx
  refine ⟨a, b, adr, kv, c, d.frame hk hg f, fun k' b' hk' hb' => ?_⟩
  rcases hg' with rfl | ⟨n, rfl, hn⟩
  · exact f k' b' hk' hb'
  · have := (d.kid_block hk' hb').2
    intro e; cases e; omega⟩
theorem SnapsIn.nil (B : Nat) (w : World) (g : Option Nat) : SnapsIn B w [] [] g := ⟨rfl, fun k x h => by simp at h⟩
theorem SnapsIn.none (h : SnapsIn B w l aq g) : SnapsIn B w l aq none := ⟨h.1, fun k x hx => let ⟨a, b, adr, kv, c, d, _⟩ := h.2 k x hx; ⟨a, b, adr, kv, c, d, fun _ _ _ _ e => by cases e⟩⟩
theorem SnapsIn.names (h : SnapsIn B w l aq g) : aq.map Prod.fst = l.map Sn.name := by
  refine List.ext_getElem? fun k => ?_
  rw [List.getElem?_map, List.getElem?_map]
  cases hx : l[k]? with
  | none => rw [List.getElem?_eq_none_iff] at hx; rw [List.getElem?_eq_none (by rw [h.1]; exact hx)]; rfl
  | some x =>
    obtain ⟨-, -, adr, kv, c, -⟩ := h.2 k x hx
    rw [c]; rfl
end
theorem atG_map {α β : Type} (f : β → α) (p : α → Bool) (l : List β) : ∀ k, atG (fun x => p (f x)) l k = atG p (l.map f) k := by
  induction l with
  | nil => intro k; rfl
  | cons x xs ih => intro k; simp only [atG, List.map_cons, ih]
theorem spAt_sn {aq : List (ByteArray × Nat)} {l : List Sn} (h : aq.map Prod.fst = l.map Sn.name) (p : ByteArray) : spAt aq p = snAt l p := by
  have h1 := atG_map Prod.fst (fun n => eqb n p) aq 0
  have h2 := atG_map Sn.name (fun n => eqb n p) l 0
  unfold spAt snAt
  rw [h1, h, ← h2]; rfl
/-- a disk that is worked on at g -/
def DiskAt (B : Nat) (w : World) (g : Nat) (s : List Hd) (t : List It) (l : List Sn) : Prop :=
  ∃ b adr kv v aq, B ≤ g ∧ Blk w g 142 #[.int .i32 0, .int .u32 0, .map (some b), .pointer (some ⟨adr [], 0, none⟩), v] ∧ StoreAt B b 16 s w ∧ TreeAt B w t adr kv ∧ OwnS B 170 2 ESP w v aq ∧ SnapsIn B w l aq none
theorem DiskAt.ext {B : Nat} {w w' : World} {g : Nat} {s : List Hd} {t : List It} {l : List Sn} (h : DiskAt B w g s t l) (e : Ext w w') : DiskAt B w' g s t l :=
  let ⟨b, adr, kv, v, aq, h0, h1, h2, h3, h4, h5⟩ := h; ⟨b, adr, kv, v, aq, h0, h1.ext e, h2.ext e, h3.ext e, h4.ext esp_ok e, h5.ext e⟩
theorem DiskAt.low {B B' : Nat} {w : World} {g : Nat} {s : List Hd} {t : List It} {l : List Sn} (h : DiskAt B w g s t l) (hB : B' ≤ B) : DiskAt B' w g s t l :=
  let ⟨b, adr, kv, v, aq, h0, h1, h2, h3, h4, h5⟩ := h; ⟨b, adr, kv, v, aq, Nat.le_trans hB h0, h1, h2.low hB, h3.low hB, h4.mono hB, h5.1, fun k x hx => let ⟨q, r, adr, kv, c, d, f⟩ := h5.2 k x hx; ⟨q, r, adr, kv, c, d.low hB, f⟩⟩
theorem sps_ext {B : Nat} {w w' : World} {v : Value} {aq : List (ByteArray × Nat)} (h : SlOf B 170 2 ESP w v aq) (e : Ext w w') : SlOf B 170 2 ESP w' v aq := h.mono (Nat.le_refl _) (e.keeps _) (fun _ _ _ e => e)
theorem TreesAt.ext {B : Nat} {w w' : World} {A : Option Addr} {c : Nat} {ts : List (List It)} (h : TreesAt B w A c ts) (e : Ext w w') : TreesAt B w' A c ts := ⟨h.1, h.2.1, fun k t ht => let ⟨b, o, adr, kv, h1, h2, h3, h4⟩ := h.2.2 k t ht; ⟨b, o, adr, kv, h1, e.cell h2, h3.ext e, h4⟩⟩
theorem Sps.at_ {B : Nat} {w : World} {A : Option Addr} {c : Nat} {aq : List (ByteArray × Nat)} (h : SlIn B 170 2 ESP w A c aq) {k : Nat} {q : ByteArray × Nat} (hx : aq[k]? = some q) :
    ∃ b o, A = some ⟨b, o, none⟩ ∧ q.1.size < lim ∧ (∀ W, Ext w W → W.cell? ⟨b, o + k * 2, none⟩ = some (.string q.1)) ∧ ∀ W, Ext w W → W.cell? ⟨b, o + k * 2 + 1, none⟩ = some (.pointer (some ⟨q.2, 0, none⟩)) := by
  obtain ⟨b, o, cs, rfl, -, hb, h1, h2, h3⟩ := h.2.2.2 k q hx
  exact ⟨b, o, rfl, h3, hb.at_ h1, hb.at_ h2⟩
set_option maxHeartbeats 1000000 in
theorem snapAt_c {B g : Nat} {v : Value} {aq : List (ByteArray × Nat)} (p : ByteArray) (w : World) (hc : w.cell? ⟨g, 4, none⟩ = some v) (hv : SlOf B 170 2 ESP w v aq) :
    Calls Tryz.prog 110 #[.pointer (some ⟨g, 0, none⟩), .string p] w (Ret (.int .i64 (spAt aq p)) w) := by
  obtain ⟨A, c, rfl, hA⟩ := hv
  have hl := hA.2.2.1
  unfold lim at hl
  generalize hn : aq.length = n at *
  have Hn := Lib.hid hn; clear hn
  have HA := Lib.hid hA; clear hA
  go_enter Tryz.func110, Tryz.ntmps110
  go_wp2
  go_loopw [12] (fun i wr => ∃ k : Nat, k ≤ n ∧ i = .int .i64 k ∧ Ext w wr ∧ Hid (atG (fun q => eqb q.1 p) (aq.drop k) k = spAt aq p)) (fun i _ => n - (RowKit.intOf i).toNat)
  case atStart => exact ⟨0, by omega, rfl, Ext.refl _, Lib.hid rfl⟩
  case round =>
    obtain ⟨k, hk, rfl, he, hrest⟩ := hrel
    by_cases hlt : k < n
    · obtain ⟨x, hx⟩ := get_of_lt (l := aq) (k := k) (by rw [Hn.out]; exact hlt)
      obtain ⟨b, o, rfl, -, hc0, hc1⟩ := Sps.at_ HA.out hx
      have ha := hc0 wr he; have hb := hc1 wr he
      have Hd := Lib.hid (drop_cons hx)
      clear hc0 hc1 hx
      go_wp2
      · have hp : (x.1.toList == p.toList) = true := by assumption
        go_ret
        refine ⟨ret_i ?_, he.trans (by (repeat' (first | exact Ext.refl _ | assumption | refine Ext.alloc ?_ _ | refine Ext.drew ?_ | refine Ext.drewN ?_ _)))⟩
        have := hrest.out
        rw [bytes_ne_iff, decide_eq_true_iff] at hp
        rw [Hd.out] at this
        simpa [atG, eqb, hp] using this
      · have hp : (x.1.toList == p.toList) = false := by assumption
        rw [bytes_ne_iff, decide_eq_false_iff_not] at hp
        go_roundw
        case rel => exact ⟨k + 1, by omega, by go_num, he.trans (by (repeat' (first | exact Ext.refl _ | assumption | refine Ext.alloc ?_ _ | refine Ext.drew ?_ | refine Ext.drewN ?_ _))), Lib.hid (by have := hrest.out; rw [Hd.out] at this; simpa [atG, eqb, hp] using this)⟩
        case measure => simp [RowKit.intOf]; omega
    · have hks : k = n := by omega
      subst hks
      go_wp2
      go_ret
      refine ⟨ret_i ?_, he⟩
      have := hrest.out
      rw [List.drop_of_length_le (by rw [Hn.out]; omega)] at this
      exact this
end Go.Sf
