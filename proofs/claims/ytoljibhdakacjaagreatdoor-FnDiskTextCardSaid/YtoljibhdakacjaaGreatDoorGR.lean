/- Disks are checked: the reference's way. -/
import Derived.Test.YtoljibhdakacjaaGreatDoorHF
/-! Disks are checked: the reference's way. -/
namespace Go.Sf
open Go Go.RowKit Go.Proofs
set_option maxRecDepth 8000 in
set_option maxHeartbeats 4000000 in
theorem specDiskValid_c {B B' B2 : Nat} {vs vt vn : Value} {s : List Hd} {t : List It} {l : List Sn} (w : World) (hs : Hds B w vs s) (ht : Its B' w vt t) (hn : Sns B2 w vn l) : Calls Tryz.prog 19 #[.agg #[vs, vt, vn]] w (Ret (.bool (diskOk s t l)) w) := by
  have HS := Lib.hid hs; have HT := Lib.hid ht; have HN := Lib.hid hn
  obtain ⟨A, c, rfl, hA⟩ := hs
  obtain ⟨A2, c2, rfl, -⟩ := ht
  obtain ⟨A3, c3, rfl, -⟩ := hn
  have hl := hA.2.2.1
  unfold lim at hl
  have e0 : Ext w (w.alloc (.cells #[.slice A s.length c, .slice A2 t.length c2, .slice A3 l.length c3] 27)) := (Ext.refl w).alloc _
  have hbk := Blk.new w 27 #[.slice A s.length c, .slice A2 t.length c2, .slice A3 l.length c3]
  have d0 := fun W (e : Ext _ W) => hbk.at_ (i := 0) (u := .slice A s.length c) rfl W e
  have d1 := fun W (e : Ext _ W) => hbk.at_ (i := 1) (u := .slice A2 t.length c2) rfl W e
  have d2 := fun W (e : Ext _ W) => hbk.at_ (i := 2) (u := .slice A3 l.length c3) rfl W e
  have C1 := fun W (e : Ext (w.alloc (.cells #[.slice A s.length c, .slice A2 t.length c2, .slice A3 l.length c3] 27)) W) => specStoreValid_c W (HS.out.ext (e0.trans e))
  have C2 := fun W (e : Ext (w.alloc (.cells #[.slice A s.length c, .slice A2 t.length c2, .slice A3 l.length c3] 27)) W) => specTreeValid_c W (HT.out.ext (e0.trans e))
  have C3 := fun W (e : Ext (w.alloc (.cells #[.slice A s.length c, .slice A2 t.length c2, .slice A3 l.length c3] 27)) W) => l11Files_c W (HS.out.ext (e0.trans e)) (HT.out.ext (e0.trans e))
  have C4 := fun W (e : Ext (w.alloc (.cells #[.slice A s.length c, .slice A2 t.length c2, .slice A3 l.length c3] 27)) W) => l12Snaps_c W (HS.out.ext (e0.trans e)) (HT.out.ext (e0.trans e)) (HN.out.ext (e0.trans e))
  have HA := Lib.hid hA
  clear hbk hA
  cases h1 : storeOk s with
  | false =>
    rw [h1] at C1
    have Hr : Hid (diskOk s t l = false) := Lib.hid (by unfold diskOk; rw [h1]; rfl)
    clear h1 C2 C3 C4
    go_enter Tryz.func19, Tryz.ntmps19
    go_wp2_with (go_at_call 51; refine (C1 _ (Ext.refl _)).mono ?_; rintro e w2 ⟨rfl, he2⟩)
    go_ret
    exact ⟨ret_b Hr.out.symm, e0.trans he2⟩
  | true =>
  rw [h1] at C1
  cases h2 : treeOk t with
  | false =>
    rw [h2] at C2
    have Hr : Hid (diskOk s t l = false) := Lib.hid (by unfold diskOk; rw [h1, h2]; rfl)
    clear h1 h2 C3 C4
    go_enter Tryz.func19, Tryz.ntmps19
    go_wp2_with (first | (go_at_call 51; refine (C1 _ (Ext.refl _)).mono ?_; rintro e w2 ⟨rfl, he2⟩; have q1 := d1 w2 he2) | (go_at_call 52; refine (C2 _ he2).mono ?_; rintro e w3 ⟨rfl, he3⟩))
    go_ret
    exact ⟨ret_b Hr.out.symm, (e0.trans he2).trans he3⟩
  | true =>
  rw [h2] at C2
  cases h3 : filesFit s t with
  | false =>
    rw [h3] at C3
    have Hr : Hid (diskOk s t l = false) := Lib.hid (by unfold diskOk; rw [h1, h2, h3]; rfl)
    clear h1 h2 h3 C4
    go_enter Tryz.func19, Tryz.ntmps19
    go_wp2_with (first | (go_at_call 51; refine (C1 _ (Ext.refl _)).mono ?_; rintro e w2 ⟨rfl, he2⟩; have q1 := d1 w2 he2) | (go_at_call 52; refine (C2 _ he2).mono ?_; rintro e w3 ⟨rfl, he3⟩; have he4 := he2.trans he3; have r0 := d0 w3 he4; have r1 := d1 w3 he4) | (go_at_call 53; refine (C3 _ he4).mono ?_; rintro e w5 ⟨rfl, he5⟩))
    go_ret
    exact ⟨ret_b Hr.out.symm, (e0.trans he4).trans he5⟩
  | true =>
  rw [h3] at C3
  cases h4 : snapsOk s l with
  | false =>
    rw [h4] at C4
    have Hr : Hid (diskOk s t l = false) := Lib.hid (by unfold diskOk; rw [h1, h2, h3, h4]; rfl)
    clear h1 h2 h3 h4
    go_enter Tryz.func19, Tryz.ntmps19
    go_wp2_with (first | (go_at_call 51; refine (C1 _ (Ext.refl _)).mono ?_; rintro e w2 ⟨rfl, he2⟩; have q1 := d1 w2 he2) | (go_at_call 52; refine (C2 _ he2).mono ?_; rintro e w3 ⟨rfl, he3⟩; have he4 := he2.trans he3; have r0 := d0 w3 he4; have r1 := d1 w3 he4) | (go_at_call 53; refine (C3 _ he4).mono ?_; rintro e w5 ⟨rfl, he5⟩; have he6 := he4.trans he5; have s0 := d0 w5 he6; have s1 := d1 w5 he6; have s2 := d2 w5 he6) | (go_at_call 54; refine (C4 _ he6).mono ?_; rintro e w7 ⟨rfl, he7⟩))
    go_ret
    exact ⟨ret_b Hr.out.symm, (e0.trans he6).trans he7⟩
  | true =>
  rw [h4] at C4
  have h6 := (snapsOk_iff.1 h4).1
  have Hv : Hid (diskOk s t l = diskUses s t l) := Lib.hid (by unfold diskOk; rw [h1, h2, h3, h4]; rfl)
  clear h1 h2 h3 h4
  generalize hnn : s.length = n at *
  have Hn := Lib.hid hnn; clear hnn
  go_enter Tryz.func19, Tryz.ntmps19
  go_wp2_with (first | (go_at_call 51; refine (C1 _ (Ext.refl _)).mono ?_; rintro e w2 ⟨rfl, he2⟩; have q1 := d1 w2 he2) | (go_at_call 52; refine (C2 _ he2).mono ?_; rintro e w3 ⟨rfl, he3⟩; have he4 := he2.trans he3; have r0 := d0 w3 he4; have r1 := d1 w3 he4) | (go_at_call 53; refine (C3 _ he4).mono ?_; rintro e w5 ⟨rfl, he5⟩; have he6 := he4.trans he5; have s0 := d0 w5 he6; have s1 := d1 w5 he6; have s2 := d2 w5 he6) | (go_at_call 54; refine (C4 _ he6).mono ?_; rintro e w7 ⟨rfl, he7⟩))
  have he8 := he6.trans he7
  clear C1 C2 C3 C4 q1 r0 r1 s0 s1 s2 he2 he3 he4 he5 he6 he7
  go_loopw [3] (fun i wr => ∃ k : Nat, k ≤ n ∧ i = .int .i64 k ∧ Ext (w.alloc (.cells #[.slice A n c, .slice A2 t.length c2, .slice A3 l.length c3] 27)) wr ∧ Hid ((s.take k).all (fun h => eqb (cntTs h.id (treesOf t l) : Int) h.uses) = true)) (fun i _ => n - (RowKit.intOf i).toNat)
  case atStart => exact ⟨0, by omega, rfl, he8, Lib.hid rfl⟩
  case round =>
    obtain ⟨k, hk, rfl, he, hall⟩ := hrel
    have q0 := d0 wr he
    by_cases hlt : k < n
    · obtain ⟨x, hx⟩ := get_of_lt (l := s) (k := k) (by rw [Hn.out]; exact hlt)
      obtain ⟨b, o, u, rfl, -, -, -, -, -, hc0, -, hc2⟩ := Hds.at_ HA.out hx
      have a0 := fun W (e : Ext wr W) => hc0 W ((e0.trans he).trans e)
      have a2 := fun W (e : Ext wr W) => hc2 W ((e0.trans he).trans e)
      have D0 := fun W (e : Ext wr W) => d0 W (he.trans e)
      have D1 := fun W (e : Ext wr W) => d1 W (he.trans e)
      have D2 := fun W (e : Ext wr W) => d2 W (he.trans e)
      have Cc := fun W (e : Ext wr W) => l12Count_c x.id W (HS.out.ext ((e0.trans he).trans e)) (HT.out.ext ((e0.trans he).trans e)) (HN.out.ext ((e0.trans he).trans e)) h6
      have Hx := Lib.hid hx
      obtain ⟨xk, xb, xu⟩ := x
      simp only at a0 a2 Cc
      generalize hC : cntTs xk (treesOf t l) = C at *
      have HC := Lib.hid hC
      clear hc0 hc2 hx hC
      by_cases hcu : (C : Int) = xu
      · have hb : ((C : Int) != xu) = false := by simp [hcu]
        have Hr := Lib.hid (all_take hall.out Hx.out (by simp only [HC.out]; exact eqb_true.2 hcu))
        clear hall
        go_wp2
        refine wp_region_ext (by kernel_rfl) (by kernel_rfl) ?_
        repeat (first | (apply q_plain rfl; (· intro W eW; go_simp; (first | done | rfl | (rw [if_pos] <;> first | omega | rfl))); (try simp only [Act.put, List.setIfInBounds_toArray, List.set_cons_zero, List.set_cons_succ])) | (refine qg_skip (by rfl) ?_; (try simp only [Act.put, List.setIfInBounds_toArray, List.set_cons_zero, List.set_cons_succ])) | (apply qg_plain (by rfl); (· intro W eW; go_simp; (first | done | rfl | (rw [if_pos] <;> first | omega | rfl))); (try simp only [Act.put, List.setIfInBounds_toArray, List.set_cons_zero, List.set_cons_succ])))
        ((first | apply q_call rfl | apply qg_call (by rfl)); (· intro W eW; go_simp; (first | done | (constructor <;> rfl))); (· intro W eW; exact Cc W eW); (try simp only [Act.put, List.setIfInBounds_toArray, List.set_cons_zero, List.set_cons_succ]))
        repeat (first | (apply q_plain rfl; (· intro W eW; go_simp; (first | done | rfl | (rw [if_pos] <;> first | omega | rfl))); (try simp only [Act.put, List.setIfInBounds_toArray, List.set_cons_zero, List.set_cons_succ])) | (refine qg_skip (by rfl) ?_; (try simp only [Act.put, List.setIfInBounds_toArray, List.set_cons_zero, List.set_cons_succ])) | (apply qg_plain (by rfl); (· intro W eW; go_simp; (first | done | rfl | (rw [if_pos] <;> first | omega | rfl))); (try simp only [Act.put, List.setIfInBounds_toArray, List.set_cons_zero, List.set_cons_succ])))
        refine q_nil ?_
        intro w7 e7
        go_wp2
        go_roundw
        case rel => exact ⟨k + 1, by omega, by go_num, he.trans e7, Hr⟩
        case measure => simp [RowKit.intOf]; omega
      · have hb : ((C : Int) != xu) = true := by simp [hcu]
        have Hr : Hid (diskUses s t l = false) := Lib.hid (all_bad Hx.out (by simp only [HC.out]; exact eqb_false.2 hcu))
        clear hall
        go_wp2
        refine wp_region_ext (by kernel_rfl) (by kernel_rfl) ?_
        repeat (first | (apply q_plain rfl; (· intro W eW; go_simp; (first | done | rfl | (rw [if_pos] <;> first | omega | rfl))); (try simp only [Act.put, List.setIfInBounds_toArray, List.set_cons_zero, List.set_cons_succ])) | (refine qg_skip (by rfl) ?_; (try simp only [Act.put, List.setIfInBounds_toArray, List.set_cons_zero, List.set_cons_succ])) | (apply qg_plain (by rfl); (· intro W eW; go_simp; (first | done | rfl | (rw [if_pos] <;> first | omega | rfl))); (try simp only [Act.put, List.setIfInBounds_toArray, List.set_cons_zero, List.set_cons_succ])))
        ((first | apply q_call rfl | apply qg_call (by rfl)); (· intro W eW; go_simp; (first | done | (constructor <;> rfl))); (· intro W eW; exact Cc W eW); (try simp only [Act.put, List.setIfInBounds_toArray, List.set_cons_zero, List.set_cons_succ]))
        repeat (first | (apply q_plain rfl; (· intro W eW; go_simp; (first | done | rfl | (rw [if_pos] <;> first | omega | rfl))); (try simp only [Act.put, List.setIfInBounds_toArray, List.set_cons_zero, List.set_cons_succ])) | (refine qg_skip (by rfl) ?_; (try simp only [Act.put, List.setIfInBounds_toArray, List.set_cons_zero, List.set_cons_succ])) | (apply qg_plain (by rfl); (· intro W eW; go_simp; (first | done | rfl | (rw [if_pos] <;> first | omega | rfl))); (try simp only [Act.put, List.setIfInBounds_toArray, List.set_cons_zero, List.set_cons_succ])))
        refine q_nil ?_
        intro w7 e7
        go_wp2
        go_ret
        exact ⟨ret_b (by rw [Hv.out, Hr.out]), e0.trans (he.trans e7)⟩
    · have hks : k = n := by omega
      subst hks
      have Hr : Hid (diskUses s t l = true) := Lib.hid (all_end hall.out Hn.out)
      clear hall
      go_wp2
      go_ret
      exact ⟨ret_b (by rw [Hv.out, Hr.out]), e0.trans he⟩
end Go.Sf

/-! The program opens a disk. -/
namespace Go.Sf
open Go Go.RowKit Go.Proofs Go.Maps
theorem OwnS.lit1 {α : Type} {B : Nat} (t : TypeId) (sz : Nat) (E : World → Array Value → Nat → α → Prop) (w : World) (cs : Array Value) (y : α) (hcs : cs.size = sz) (hB : B ≤ w.heap.size) (hE : E (w.alloc (.cells cs t)) cs 0 y) :
    OwnS B t sz E (w.alloc (.cells cs t)) (.slice (some ⟨w.heap.size, 0, none⟩) 1 1) [y] :=
  ⟨cs.toList, ⟨by simp [hcs], .inr ⟨_, 1, cs, rfl, hB, Blk.new w t cs, Nat.le_refl _, by decide, by simp [hcs], List.take_of_length_le (by simp [hcs])⟩⟩, fun k x h => by
    cases k with
    | succ k => simp at h
    | zero => simp at h; subst h; simpa using hE⟩
theorem Clear.next {B : Nat} {w : World} {t : List It} {adr : Key → Nat} {kv : Key → Value} {g g' : Option Nat} (hT : TreeAt B w t adr kv) (h : Clear g t kv) (hg' : g' = g ∨ ∃ n, g' = some n ∧ w.heap.size ≤ n) : Clear g' t kv := fun k b hk hb => by
  rcases hg' with rfl | ⟨n, rfl, hn⟩
  · exact h k b hk hb
  · have := (hT.kid_block hk hb).2
    intro e; cases e; omega
/-- a disk with k of its snapshots -/
def NDk (B : Nat) (w : World) (g gv b : Nat) (adr : Key → Nat) (kv : Key → Value) (s : List Hd) (t : List It) (l : List Sn) (k : Nat) (vT : Value) : Prop :=
  ∃ v aq, B ≤ g ∧ Blk w g 86 #[.int .i32 0, .int .u32 0, .map (some b), .pointer (some ⟨adr [], 0, none⟩), v] ∧ Blk w gv 83 #[.map (some b), .pointer (some ⟨adr [], 0, none⟩)] ∧ StoreAt B b 16 s w ∧ TreeAt B w t adr kv ∧ Clear vT.ownBlock t kv ∧
    OwnS B 88 2 ESP w v aq ∧ OwnS B 81 1 EPtr w vT (adr [] :: aq.map Prod.snd) ∧ SnapsIn B w (l.take k) aq vT.ownBlock
section
variable {B : Nat} {w w5 w6 w7 w9 : World} {g gv b : Nat} {adr adr' : Key → Nat} {kv kv' : Key → Value} {s : List Hd} {t : List It} {l : List Sn} {k : Nat} {vT vT' v v' : Value} {aq : List (ByteArray × Nat)} {x : Sn} {cs : Array Value}
theorem NDk.ext {w' : World} (h : NDk B w g gv b adr kv s t l k vT) (e : Ext w w') : NDk B w' g gv b adr kv s t l k vT :=
  let ⟨v, aq, h0, h1, h2, h3, h4, h5, h6, h7, h8⟩ := h; ⟨v, aq, h0, h1.ext e, h2.ext e, h3.ext e, h4.ext e, h5, h6.ext esp_ok e, h7.ext eptr_ok e, h8.ext e⟩
theorem nd_next (hx : l[k]? = some x) (hBg : B ≤ g) (hD : Blk w7 g 86 #[.int .i32 0, .int .u32 0, .map (some b), .pointer (some ⟨adr [], 0, none⟩), v']) (hVo : Blk w7 gv 83 #[.map (some b), .pointer (some ⟨adr [], 0, none⟩)])
    (hSt : StoreAt B b 16 s w7) (hT : TreeAt B w7 t adr kv) (hCl : Clear vT.ownBlock t kv) (hO : OwnS B 88 2 ESP w7 v' (aq ++ [(x.name, adr' [])])) (hP : OwnS B 81 1 EPtr w7 vT (adr [] :: aq.map Prod.snd)) (hSn : SnapsIn B w7 (l.take k) aq vT.ownBlock)
    (hT' : TreeAt B w7 x.tree adr' kv') (hCl' : Clear vT.ownBlock x.tree kv') (hns : x.name.size < lim) (hok : treeOk x.tree = true)
    (hP9 : OwnS B 81 1 EPtr w9 vT' ((adr [] :: aq.map Prod.snd) ++ [adr' []])) (hg9 : (w7.alloc (.cells cs 81)).grownBy w9 vT.ownBlock) (hb9 : vT'.ownBlock = vT.ownBlock ∨ vT'.ownBlock = some (w7.heap.size + 1)) : NDk B w9 g gv b adr kv s t l (k + 1) vT' := by
  have e8 : Ext w7 (w7.alloc (.cells cs 81)) := (Ext.refl w7).alloc _
  have hk : Keep1 81 (w7.alloc (.cells cs 81)) w9 := grown_keep1 (hP.ext eptr_ok e8) hg9
  have hg' : vT'.ownBlock = vT.ownBlock ∨ ∃ n, vT'.ownBlock = some n ∧ (w7.alloc (.cells cs 81)).heap.size ≤ n := hb9.imp_right fun h => ⟨_, h, by simp⟩
  have hS9 := (hSn.ext e8).frame hk.keepsT hg9 hg'
  refine ⟨v', aq ++ [(x.name, adr' [])], hBg, hk.keepsT _ _ _ (by decide) (hD.ext e8), hk.keepsT _ _ _ (by decide) (hVo.ext e8), (hSt.ext e8).keep1 hk (by decide), (hT.ext e8).frame hk.keepsT hg9 hCl, hCl.next (hT.ext e8) hg',
    (hO.ext esp_ok e8).keepT hk.keepsT (by decide) (fun _ _ _ e => e), by simpa using hP9, ?_⟩
  have el : l.take (k + 1) = l.take k ++ [x] := by rw [List.take_add_one, hx]; rfl
  have hlen : (l.take k).length = k := by rw [List.length_take]; have := lt_of_get hx; omega
  have hal : aq.length = k := by rw [hSn.1, hlen]
  refine ⟨by rw [el]; simp [hSn.1], fun j y hj => ?_⟩
  rw [el] at hj
  rcases Nat.lt_or_ge j k with h | h
  · rw [List.getElem?_append_left (by omega)] at hj
    obtain ⟨a1, a2, adr2, kv2, a3, a4⟩ := hS9.2 j y hj
    exact ⟨a1, a2, adr2, kv2, by rw [List.getElem?_append_left (by omega)]; exact a3, a4⟩
  · have hjk : j = k := by
      have := lt_of_get hj
      simp at this; omega
    subst hjk
    rw [List.getElem?_append_right (by omega), hlen] at hj
    simp at hj
    subst hj
    refine ⟨hns, hok, adr', kv', by rw [List.getElem?_append_right (by omega), hal]; simp, (hT'.ext e8).frame hk.keepsT hg9 hCl', hCl'.next (hT'.ext e8) hg'⟩
theorem nd_bad (hx : l[k]? = some x) (h : ¬ SnAtI l k x) : diskOk s t l = false := by
  cases hd : diskOk s t l with
  | false => rfl
  | true => exact absurd ((diskOk_iff.1 hd).2.2.1.2 k x hx) h
theorem nd_trees (h : NDk B w g gv b adr kv s t l l.length vT) (ht : treeOk t = true) (h6 : l.length ≤ 6) : ∃ A c, vT = .slice A (treesOf t l).length c ∧ TreesAt 0 w A c (treesOf t l) := by
  obtain ⟨v, aq, -, -, -, -, hT, -, -, hP, hSn⟩ := h
  rw [List.take_length] at hSn
  have hlen : (adr [] :: aq.map Prod.snd).length = (treesOf t l).length := by simp [treesOf, hSn.1]
  obtain ⟨g', c, hv, -, hc, -⟩ := hP.formP (by simp)
  rw [hlen] at hv hc
  refine ⟨_, c, hv, hc, by unfold lim; simp [treesOf]; omega, fun j y hj => ?_⟩
  have cell : ∀ a, (adr [] :: aq.map Prod.snd)[j]? = some a → w.cell? ⟨g', 0 + j, none⟩ = some (.pointer (some ⟨a, 0, none⟩)) := fun a ha => by
    obtain ⟨g2, c2, cs2, hv2, -, hb2, he2⟩ := hP.at_ eptr_ok ha
    rw [hv] at hv2
    injection hv2 with e1 _ _
    simp only [Option.some.injEq, Addr.mk.injEq, and_true] at e1
    rw [Nat.mul_one] at he2
    rw [Nat.zero_add, e1, hb2.cell, he2]
  cases j with
  | zero =>
    simp only [treesOf, List.getElem?_cons_zero, Option.some.injEq] at hj
    subst hj
    exact ⟨g', 0, adr, kv, rfl, cell _ rfl, hT.low (Nat.zero_le _), ht⟩
  | succ j =>
    simp only [treesOf, List.getElem?_cons_succ, List.getElem?_map, Option.map_eq_some_iff] at hj
    obtain ⟨x, hx, rfl⟩ := hj
    obtain ⟨-, a2, adr2, kv2, a3, a4, -⟩ := hSn.2 j x hx
    exact ⟨g', 0, adr2, kv2, rfl, cell _ (by rw [List.getElem?_cons_succ, List.getElem?_map, a3]; rfl), a4.low (Nat.zero_le _), a2⟩
end
/-- what opening a disk leaves -/
def NewDP (w0 : World) (s : List Hd) (t : List It) (l : List Sn) (e : Ending) (w' : World) : Prop :=
  Ext w0 w' ∧ ((diskOk s t l = false ∧ e = .returned (.tuple #[.pointer none, .bool false])) ∨ (diskOk s t l = true ∧ ∃ g, e = .returned (.tuple #[.pointer (some ⟨g, 0, none⟩), .bool true]) ∧ DiskAt w0.heap.size w' g s t l))
set_option maxRecDepth 8000 in
set_option maxHeartbeats 4000000 in
theorem newDisk_c {B B' B2 : Nat} {vs vt vn : Value} {s : List Hd} {t : List It} {l : List Sn} (w : World) (hs : Hds B w vs s) (ht : Its B' w vt t) (hn : Sns B2 w vn l) (hm : ML w) : Calls Tryz.prog 39 #[.agg #[vs, vt, vn]] w (NewDP w s t l) := by
  have HS := Lib.hid hs; have HT := Lib.hid ht; have HM := Lib.hid hm
  obtain ⟨A, c, rfl, -⟩ := hs
  obtain ⟨A2, c2, rfl, -⟩ := ht
  obtain ⟨A3, c3, rfl, hA3⟩ := hn
  have hl := hA3.2.2.1
  unfold lim at hl
  have e0 : Ext w (w.alloc (.cells #[.slice A s.length c, .slice A2 t.length c2, .slice A3 l.length c3] 27)) := (Ext.refl w).alloc _
  have hbk := Blk.new w 27 #[.slice A s.length c, .slice A2 t.length c2, .slice A3 l.length c3]
  have d2 := fun W (e : Ext _ W) => hbk.at_ (i := 2) (u := .slice A3 l.length c3) rfl W e
  have Cn := newVolume_c _ (HS.out.ext e0) (HT.out.ext e0) (HM.out.ext e0)
  have HA3 := Lib.hid hA3
  clear hm hbk hA3
  generalize hnn : l.length = n at *
  have Hn := Lib.hid hnn; clear hnn
  go_enter Tryz.func39, Tryz.ntmps39
  go_wp2_with fail
  refine Cn.mono ?_
  rintro e w1 ⟨he1, ⟨hv, rfl⟩ | ⟨hs1, ht1, b, adr, kv, rfl, hSt, hTr, -⟩⟩
  · have Hr : Hid (diskOk s t l = false) := Lib.hid (by
      cases hd : diskOk s t l with
      | false => rfl
      | true => obtain ⟨a1, a2, -⟩ := diskOk_iff.1 hd; rw [a1, a2] at hv; cases hv)
    clear hv Cn
    go_wp2
    go_ret2
    exact ⟨(e0.trans he1).alloc _, .inl ⟨Hr.out, rfl⟩⟩
  have HSO := Lib.hid (storeOk_iff.1 hs1); have HTO := Lib.hid ht1
  have q2 := d2 w1 he1
  by_cases h6 : 6 < n
  · have h6' : (6 : Int) < (n : Int) := by omega
    have Hr : Hid (diskOk s t l = false) := Lib.hid (by
      cases hd : diskOk s t l with
      | false => rfl
      | true => have := (diskOk_iff.1 hd).2.2.1.1; have := Hn.out; omega)
    have q2' := d2 (w1.alloc (.cells #[.map (some b), .pointer (some ⟨adr [], 0, none⟩)] 83)) (he1.alloc _)
    clear hs1 ht1 hSt hTr Cn
    go_wp2
    go_ret2
    exact ⟨(e0.trans he1).alloc _, .inl ⟨Hr.out, rfl⟩⟩
  have h6' : ¬ (6 : Int) < (n : Int) := by omega
  have hw : w.heap.size ≤ w1.heap.size := (e0.trans he1).size
  have hInit : Hid (NDk w.heap.size (((w1.alloc (.cells #[.map (some b), .pointer (some ⟨adr [], 0, none⟩)] 83)).alloc (.cells #[.int .i32 0, .int .u32 0, .map (some b), .pointer (some ⟨adr [], 0, none⟩), .slice none 0 0] 86)).alloc (.cells #[.pointer (some ⟨adr [], 0, none⟩)] 81)) (w1.heap.size + 1) w1.heap.size b adr kv s t l 0 (.slice (some ⟨w1.heap.size + 1 + 1, 0, none⟩) 1 1)) := Lib.hid (by
    have e3 : Ext w1 (((w1.alloc (.cells #[.map (some b), .pointer (some ⟨adr [], 0, none⟩)] 83)).alloc (.cells #[.int .i32 0, .int .u32 0, .map (some b), .pointer (some ⟨adr [], 0, none⟩), .slice none 0 0] 86)).alloc (.cells #[.pointer (some ⟨adr [], 0, none⟩)] 81)) := (((Ext.refl w1).alloc _).alloc _).alloc _
    have hT0 : TreeAt w.heap.size w1 t adr kv := hTr.low (by simp)
    refine ⟨.slice none 0 0, [], by omega, ?_, ?_, (hSt.low (by simp)).ext e3, hT0.ext e3, fun k b' hk hb' => ?_, OwnS.nil _ _ _ _ _, ?_, SnapsIn.nil _ _ _⟩
    · have := (Blk.new (w1.alloc (.cells #[.map (some b), .pointer (some ⟨adr [], 0, none⟩)] 83)) 86 #[.int .i32 0, .int .u32 0, .map (some b), .pointer (some ⟨adr [], 0, none⟩), .slice none 0 0]).alloc (.cells #[.pointer (some ⟨adr [], 0, none⟩)] 81)
      simpa using this
    · exact ((Blk.new w1 83 #[.map (some b), .pointer (some ⟨adr [], 0, none⟩)]).alloc _).alloc _
    · have := (hT0.kid_block hk hb').2
      intro e
      simp only [Value.ownBlock, Option.some.injEq] at e
      omega
    · have := OwnS.lit1 (B := w.heap.size) 81 1 EPtr ((w1.alloc (.cells #[.map (some b), .pointer (some ⟨adr [], 0, none⟩)] 83)).alloc (.cells #[.int .i32 0, .int .u32 0, .map (some b), .pointer (some ⟨adr [], 0, none⟩), .slice none 0 0] 86)) #[.pointer (some ⟨adr [], 0, none⟩)] (adr []) rfl (by simp; omega) rfl
      simpa using this)
  have E3 : Hid (Ext w (((w1.alloc (.cells #[.map (some b), .pointer (some ⟨adr [], 0, none⟩)] 83)).alloc (.cells #[.int .i32 0, .int .u32 0, .map (some b), .pointer (some ⟨adr [], 0, none⟩), .slice none 0 0] 86)).alloc (.cells #[.pointer (some ⟨adr [], 0, none⟩)] 81))) := Lib.hid (e0.trans (((he1.alloc _).alloc _).alloc _))
  have q3 := d2 (w1.alloc (.cells #[.map (some b), .pointer (some ⟨adr [], 0, none⟩)] 83)) (he1.alloc _)
  have q4 := d2 _ (((he1.alloc (.cells #[.map (some b), .pointer (some ⟨adr [], 0, none⟩)] 83)).alloc (.cells #[.int .i32 0, .int .u32 0, .map (some b), .pointer (some ⟨adr [], 0, none⟩), .slice none 0 0] 86)).alloc (.cells #[.pointer (some ⟨adr [], 0, none⟩)] 81))
  clear hs1 ht1 hSt hTr Cn d2
  go_wp2
  have hgx : ∃ gv, gv = w1.heap.size := ⟨_, rfl⟩
  obtain ⟨gv, hgv⟩ := hgx
  rw [← hgv] at hInit ⊢
  clear q2 q3 q4 he1 e0 hgv hw
  go_loopw [7, 37] (fun vT i wr => ∃ k : Nat, k ≤ n ∧ i = .int .i64 k ∧ Ext w wr ∧ Hid (NDk w.heap.size wr (gv + 1) gv b adr kv s t l k vT) ∧ Hid (∀ j y, j < k → l[j]? = some y → SnAtI l j y)) (fun _ i _ => n - (RowKit.intOf i).toNat)
  case atStart => exact ⟨0, by omega, rfl, E3.out, hInit, Lib.hid fun j y hj => absurd hj (by omega)⟩
  case round =>
    clear hInit E3
    obtain ⟨k, hk, rfl, he, hinv, hall⟩ := hrel
    by_cases hlt : k < n
    · obtain ⟨x, hx⟩ := get_of_lt (l := l) (k := k) (by rw [Hn.out]; exact hlt)
      obtain ⟨b3, o3, u, rfl, -, -, hns, hu, hc0, hc1⟩ := Sns.at_ HA3.out hx
      have a0 := hc0 wr he; have a1 := hc1 wr he
      have Hx := Lib.hid hx
      obtain ⟨xn, xt⟩ := x
      simp only at a0 a1 hns hu
      have ea : Ext wr (wr.alloc (.cells #[.string xn, .slice (some ⟨b3, o3, none⟩) 0 0] 35)) := (Ext.refl wr).alloc _
      have Ho := fun W (e : Ext wr W) => openTree_c W (hu.ext (he.trans e)) (HM.out.ext (he.trans e))
      obtain ⟨Au, cu, rfl, -⟩ := hu
      have hbs := Blk.new wr 35 #[.string xn, .slice Au xt.length cu]
      have s0 := fun W (e : Ext _ W) => hbs.at_ (i := 0) (u := .string xn) rfl W e
      have HBs : Hid (∀ W, Ext _ W → Blk W wr.heap.size 35 #[.string xn, .slice Au xt.length cu]) := Lib.hid fun W e => hbs.ext e
      clear hc0 hc1 hx hbs ea
      have ea : Ext wr (wr.alloc (.cells #[.string xn, .slice Au xt.length cu] 35)) := (Ext.refl wr).alloc _
      go_wp2_with fail
      refine (Ho _ ea).mono ?_
      rintro e w2 ⟨he2, ⟨ht2, rfl⟩ | ⟨ht2, adr2, kv2, rfl, hT2⟩⟩
      · have Hr : Hid (diskOk s t l = false) := Lib.hid (nd_bad Hx.out fun h => by have := h.1; simp only at this; rw [ht2] at this; cases this)
        clear ht2 Ho
        go_wp2
        go_ret2
        exact ⟨he.trans (ea.trans he2), .inl ⟨Hr.out, rfl⟩⟩
      have E2 := ea.trans he2
      have z2 := s0 w2 he2
      obtain ⟨v, aq, hBg, hD, hVo, hSt, hT, hCl, hO, hP, hSn⟩ := hinv.out.ext E2
      have Hal : Hid (aq.length = k) := Lib.hid (by rw [hSn.1, List.length_take, Hn.out]; omega)
      have hal : aq.length ≤ 4194304 := by have := Hal.out; omega
      have D4 := fun W (e : Ext w2 W) => hD.at_ (i := 4) (u := v) rfl W e
      have Cs := fun W (e : Ext w2 W) => snapAt_c xn W (D4 W e) (sps_ext (hO.sl esp_ok (Nat.le_refl _) (by unfold lim; omega)) e)
      rw [spAt_sn hSn.names] at Cs
      obtain ⟨A8, c8, rfl⟩ := hO.form
      obtain ⟨A7, c7, hvT⟩ := hP.form
      have hmx : ∃ m, (adr [] :: aq.map Prod.snd).length = m := ⟨_, rfl⟩
      obtain ⟨m, hm⟩ := hmx
      rw [hm] at hvT
      subst hvT
      have HD := Lib.hid hD; have HVo := Lib.hid hVo; have HSt := Lib.hid hSt; have HTt := Lib.hid hT; have HCl := Lib.hid hCl; have HO := Lib.hid hO; have HP := Lib.hid hP; have HSn := Lib.hid hSn
      have HT2 := Lib.hid hT2; have Ht2 := Lib.hid ht2; have HBg := Lib.hid hBg
      have HCl2 : Hid (Clear (Value.slice A7 m c7).ownBlock xt kv2) := Lib.hid fun q b' hq hb' e => by
        have h1 := (hT2.kid_block hq hb').1
        have hP0 := (let ⟨v, aq, _, _, _, _, _, _, _, hP, _⟩ := hinv.out; (⟨_, hP⟩ : ∃ L, OwnS w.heap.size 81 1 EPtr wr (Value.slice A7 m c7) L))
        obtain ⟨L, hP0⟩ := hP0
        obtain ⟨-, cs, hb⟩ := hP0.block e.symm
        have h2 := hb.lt
        have h3 := ea.size
        omega
      have Cp := partValid_c xn w2 hns
      clear Ho hT2 ht2 a0 a1 hD hVo hSt hT hCl hO hP hSn hBg hm
      cases hwd : wordOk (bl xn) with
      | false =>
        rw [hwd] at Cp
        have Hr : Hid (diskOk s t l = false) := Lib.hid (nd_bad Hx.out fun h => by have := h.2.1; simp only at this; rw [hwd] at this; cases this)
        clear hwd
        go_wp2_with (go_at_call 87; refine Cp.mono ?_; rintro e w3 ⟨rfl, he3⟩)
        go_ret2
        exact ⟨he.trans (E2.trans he3), .inl ⟨Hr.out, rfl⟩⟩
      | true =>
      rw [hwd] at Cp
      have Hwd := Lib.hid hwd
      clear hwd
      rcases atG_find (snIs xn) (l.take k) 0 with ⟨f1, f2⟩ | ⟨i, y, f1, f2, -, f4, -⟩
      · rw [snAt, f2] at Cs
        have Hsn : Hid (SnAtI l k ⟨xn, xt⟩) := Lib.hid ⟨Ht2.out, Hwd.out, fun j y hj hy e => by
          have := List.find?_eq_none.1 f1 y (List.mem_of_getElem? (i := j) (by rw [List.getElem?_take, if_pos hj]; exact hy))
          exact this (by simp [snIs, eqb_iff, e])⟩
        clear f1 f2
        go_wp2_with (first | (go_at_call 87; refine Cp.mono ?_; rintro e w3 ⟨rfl, he3⟩; have z3 := s0 w3 (he2.trans he3)) | (go_at_call 88; refine (Cs _ he3).mono ?_; rintro e w4 ⟨rfl, he4⟩))
        have E4 := (he3.trans he4).drew
        have E24 := E2.trans E4
        have HB4 := HBs.out _ (he2.trans E4)
        have HB4 := Lib.hid HB4
        have HD5 := Lib.hid (HD.out.ext E4); have HO5 := Lib.hid (HO.out.ext esp_ok E4)
        have hsz := (he.trans E24).size
        refine wp_region_hold (fun W => W.cell? ⟨gv + 1, 4, none⟩ = some (.slice A8 aq.length c8) ∧ W.cell? ⟨wr.heap.size, 0, none⟩ = some (.string xn)) 11 [(0, true), (1, true), (2, true), (3, true), (4, true), (5, true), (6, true), (7, true), (8, true), (9, false), (10, false)] (by kernel_rfl) (by kernel_rfl) ?_ ?_
        · exact ⟨D4 _ E4, s0 _ (he2.trans E4)⟩
        (repeat (first | (apply hw_read (by rfl) (by rfl); (· (intro W hW; (try dsimp only at hW); go_simp; (first | done | rfl | (rw [if_pos] <;> first | omega | rfl)))); (try simp only [Act.put, List.setIfInBounds_toArray, List.set_cons_zero, List.set_cons_succ])) | (refine hw_skip (by rfl) (by rfl) ?_; (try simp only [Act.put, List.setIfInBounds_toArray, List.set_cons_zero, List.set_cons_succ]))))
        refine hw_step (by rfl) ?_
        go_wp2
        refine ⟨⟨D4 _ (E4.alloc _), s0 _ ((he2.trans E4).alloc _)⟩, ?_⟩
        refine hw_step (by rfl) ?_
        go_wp2_with (at_builtin; go_must (refine wp_ap1W (B := w.heap.size) (by rfl) _ _ (by rfl) el_Sp esp_ok hsz (.slice A8 aq.length c8) aq [(xn, adr2 [])] (by rfl) HO5.out 1 1 rfl (by decide) #[.string xn, .pointer (some ⟨adr2 [], 0, none⟩)] _ (by rfl) (by first | rfl | simp) rfl (one_cells rfl) (one_E ⟨rfl, rfl, hns⟩) ?_ ?_))
        · have := Hal.out; simp; unfold lim; omega
        intro v6 w6 hO6 hg6 hk6 _
        have D6 := hk6 _ _ _ (by decide) HD5.out
        have N6 := (hk6 _ _ _ (by decide) HB4.out).cell 0
        have c4 := D6.cell 4; have f4 := D6.frozen 4
        simp at c4 N6
        obtain ⟨A9, c9, rfl⟩ := hO6.form
        have hmx : ∃ m9, (aq ++ [(xn, adr2 [])]).length = m9 := ⟨_, rfl⟩
        obtain ⟨m9, hm9⟩ := hmx
        rw [hm9] at hO6 ⊢
        have HO6 := Lib.hid hO6; have Hg6 := Lib.hid hg6; have HD6 := Lib.hid D6
        clear hO6 hg6 hk6 D6 hm9
        go_wp2
        refine ⟨⟨c4, N6⟩, ?_⟩
        (refine hw_nil ?_; (try simp only [List.drop_succ_cons, List.drop_zero]))
        go_wp2
        refine NoPanic.normal ?_
        (try dsimp only [Exit.then])
        -- the row of trees
        have e45 : Ext w4.drew (w4.drew.alloc (.cells #[.string xn, .pointer (some ⟨adr2 [], 0, none⟩)] 88)) := (Ext.refl _).alloc _
        have K6 : Keep1 88 w4.drew w6 := (e45.keep1 _).trans (grown_keep1 (HO5.out.ext esp_ok e45) Hg6.out)
        have K7 : Keep1 86 w6 (w6.setCell ⟨gv + 1, 4, none⟩ (.slice A9 m9 c9)) := Keep1.set HD6.out _
        have D7 := HD6.out.set_ 4 (.slice A9 m9 c9)
        simp at D7
        have E6 : Ext w w6 := own_grown_ext (HO5.out.ext esp_ok e45) ((he.trans E24).trans e45) Hg6.out
        have E7 : Ext w (w6.setCell ⟨gv + 1, 4, none⟩ (.slice A9 m9 c9)) := E6.setCell (p := ⟨gv + 1, 4, none⟩) HBg.out _
        have HVo7 := Lib.hid (K7.keepsT _ _ _ (by decide) (K6.keepsT _ _ _ (by decide) (HVo.out.ext E4)))
        have HSt7 := Lib.hid (((HSt.out.ext E4).keep1 K6 (by decide)).keep1 K7 (by decide))
        have HTt7 := Lib.hid (((HTt.out.ext E4).keepT K6.keepsT (by decide) (by decide) (by decide)).keepT K7.keepsT (by decide) (by decide) (by decide))
        have HT27 := Lib.hid (((HT2.out.ext E4).keepT K6.keepsT (by decide) (by decide) (by decide)).keepT K7.keepsT (by decide) (by decide) (by decide))
        have HO7 := Lib.hid (HO6.out.keepT K7.keepsT (by decide) (fun _ _ _ e => e))
        have HP7 := Lib.hid (((HP.out.ext eptr_ok E4).keepT K6.keepsT (by decide) (fun _ _ _ e => e)).keepT K7.keepsT (by decide) (fun _ _ _ e => e))
        have HSn7 := Lib.hid (((HSn.out.ext E4).keep1 K6 (by decide) (by decide) (by decide)).keep1 K7 (by decide) (by decide) (by decide))
        have HD7 := Lib.hid D7; have HE7 := Lib.hid E7
        have hsz7 := E7.size
        have hw2 : w.heap.size ≤ w2.heap.size := (he.trans E2).size
        have hw2' : w.heap.size ≤ (wr.alloc (.cells #[.string xn, .slice Au xt.length cu] 35)).heap.size := (he.trans ea).size
        clear D7 E7 K6 K7 E6 e45 c4 f4 N6 HVo HSt HTt HT2 HO6 HP HSn HD6 Hg6 HD HO HO5 HD5
        generalize w6.setCell ⟨gv + 1, 4, none⟩ (.slice A9 m9 c9) = w7 at *
        go_wp2_with (at_builtin; go_must (refine wp_ap1W (B := w.heap.size) (by rfl) _ _ (by rfl) el_Ptr eptr_ok hsz7 (.slice A7 m c7) (adr [] :: aq.map Prod.snd) [adr2 []] (by rfl) HP7.out 1 1 rfl (by decide) #[.pointer (some ⟨adr2 [], 0, none⟩)] _ (by rfl) (by first | rfl | simp) rfl (one_cells rfl) (one_E rfl) ?_ ?_))
        · have := Hal.out; unfold lim; simp only [List.length_cons, List.length_map, List.length_nil]; omega
        intro v9 w9 hO9 hg9 _ hb9
        have HE9 := Lib.hid (own_grown_ext (HP7.out.ext eptr_ok ((Ext.refl w7).alloc (.cells #[.pointer (some ⟨adr2 [], 0, none⟩)] 81))) (HE7.out.alloc _) hg9)
        have HN9 := Lib.hid (nd_next Hx.out HBg.out HD7.out HVo7.out HSt7.out HTt7.out HCl.out HO7.out HP7.out HSn7.out (HT27.out.low hw2') HCl2.out hns Ht2.out hO9 hg9 hb9)
        obtain ⟨A10, c10, rfl⟩ := hO9.form
        have Hn9 : Hid (∀ j y, j < k + 1 → l[j]? = some y → SnAtI l j y) := Lib.hid fun j y hj hy => by
          rcases Nat.lt_or_ge j k with h | h
          · exact hall.out j y h hy
          · obtain rfl : j = k := by omega
            rw [Hx.out] at hy
            cases hy
            exact Hsn.out
        clear hO9 hg9 hb9 hall
        go_wp2
        go_roundw
        case rel => exact ⟨k + 1, by omega, by go_num, HE9.out, HN9, Hn9⟩
        case measure => simp [RowKit.intOf]; omega
      · rw [snAt, f4] at Cs
        simp only [Nat.zero_add] at Cs
        have hge : (0 : Int) ≤ (i : Int) := by omega
        have hik : i < k := by have := lt_of_get f1; rw [List.length_take] at this; omega
        have Hr : Hid (diskOk s t l = false) := Lib.hid (nd_bad Hx.out fun h => by
          rw [List.getElem?_take, if_pos hik] at f1
          exact h.2.2 i y hik f1 (by simpa [snIs, eqb_iff] using f2))
        clear f1 f2 f4
        go_wp2_with (first | (go_at_call 87; refine Cp.mono ?_; rintro e w3 ⟨rfl, he3⟩; have z3 := s0 w3 (he2.trans he3)) | (go_at_call 88; refine (Cs _ he3).mono ?_; rintro e w4 ⟨rfl, he4⟩))
        go_ret2
        exact ⟨he.trans (E2.trans (he3.trans he4)), .inl ⟨Hr.out, rfl⟩⟩
    · have hks : k = n := by omega
      subst hks
      obtain ⟨A5, c5, rfl, hTs⟩ := nd_trees (by rw [Hn.out]; exact hinv.out) HTO.out (by have := Hn.out; omega)
      have Cu := fun W (e : Ext wr W) => usedBy_c W HSO.out (let ⟨v, aq, _, _, _, hSt, _⟩ := hinv.out; hSt.ext e) (hTs.ext e)
      have hV0 : wr.cell? ⟨gv, 0, none⟩ = some (.map (some b)) := by
        obtain ⟨v, aq, -, -, hVo, -⟩ := hinv.out
        have := hVo.cell 0
        simpa using this
      clear hTs
      cases hu : usedOk s (treesOf t l) with
      | false =>
        rw [hu] at Cu
        have Hr : Hid (diskOk s t l = false) := Lib.hid (by
          cases hd : diskOk s t l with
          | false => rfl
          | true => have := (diskOk_iff.1 hd).2.2.2; rw [hu] at this; cases this)
        clear hu hall
        go_wp2_with (go_at_call 89; refine (Cu _ (Ext.refl _)).mono ?_; rintro e w5 ⟨rfl, he5⟩)
        go_ret2
        exact ⟨he.trans he5, .inl ⟨Hr.out, rfl⟩⟩
      | true =>
        rw [hu] at Cu
        have Hr : Hid (diskOk s t l = true) := Lib.hid (diskOk_iff.2 ⟨storeOk_iff.2 HSO.out, HTO.out, ⟨by have := Hn.out; omega, fun j y hy => hall.out j y (by have := lt_of_get hy; have := Hn.out; omega) hy⟩, hu⟩)
        clear hu hall
        go_wp2_with (go_at_call 89; refine (Cu _ (Ext.refl _)).mono ?_; rintro e w5 ⟨rfl, he5⟩)
        go_ret2
        obtain ⟨v, aq, hBg, hD, -, hSt, hT, -, hO, -, hSn⟩ := hinv.out
        rw [List.take_of_length_le (by rw [Hn.out]; exact Nat.le_refl _)] at hSn
        exact ⟨he.trans he5, .inr ⟨Hr.out, gv + 1, rfl, b, adr, kv, v, aq, hBg, hD.ext he5, hSt.ext he5, hT.ext he5, hO.ext esp_ok he5, hSn.none.ext he5⟩⟩
end Go.Sf
