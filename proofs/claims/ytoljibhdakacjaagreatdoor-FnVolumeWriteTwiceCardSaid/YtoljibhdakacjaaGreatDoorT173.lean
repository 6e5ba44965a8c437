/- The program stores a file, block by block. -/
import Derived.Test.YtoljibhdakacjaaGreatDoorT172
import Derived.Test.YtoljibhdakacjaaGreatDoorGY
namespace Go.Sf
open Go Go.RowKit Go.Proofs Go.Maps
/-- what next leaves -/
def NextP (g : Nat) (w : World) (A : Option Addr) (n c k : Nat) (bs : List Int) (e : Ending) (w' : World) : Prop :=
  ∃ v, e = .returned v ∧ Ints w.heap.size w' v ((bs.drop k).take 8) ∧ ExtR g w w' ∧ Blk w' g 208 #[.slice A n c, .int .i64 ((min (k + 8) n : Nat) : Int)]
theorem ints_nil {B : Nat} {w : World} {A : Option Addr} {c : Nat} (hc : c ≤ maxLen) (hA : A = none → c = 0) : Ints B w (.slice A 0 c) [] := ⟨A, c, rfl, Nat.zero_le _, ⟨hc, hA⟩, Nat.zero_le _, fun k x h => by simp at h⟩
set_option maxRecDepth 4000 in
set_option maxHeartbeats 4000000 in
theorem next_c {B g n c k : Nat} {A : Option Addr} {bs : List Int} {w : World} (hb : Blk w g 208 #[.slice A n c, .int .i64 k]) (hA : SlIn B 3 1 EInt w A c bs) (hn : bs.length = n) (hn32 : n ≤ 32) (hk : k ≤ n) :
    Calls Tryz.prog 153 #[.pointer (some ⟨g, 0, none⟩)] w (NextP g w A n c k bs) := by
  have HB := Lib.hid hb; have HA := Lib.hid hA; have Hn := Lib.hid hn
  have hlc := hA.1
  have hcm := hA.2.1.1
  have hcA := hA.2.1.2
  unfold maxLen at hcm
  rw [hn] at hlc
  have hw1 : IntKind.i64.wrap ((k : Int) + 8) = (k : Int) + 8 := IntWalk.i64_in _ (by omega)
  obtain ⟨m, hm⟩ : ∃ m, min (k + 8) n = m := ⟨_, rfl⟩
  have hmin : min ((k : Int) + 8) (n : Int) = (m : Int) := by omega
  have hkm : k ≤ m := by omega
  have hmn : m ≤ n := by omega
  have hkm' : (k : Int) ≤ (m : Int) := by omega
  have hmc' : (m : Int) ≤ (c : Int) := by omega
  have HL : Hid (((bs.drop k).take 8).length = m - k) := Lib.hid (by rw [List.length_take, List.length_drop, hn]; omega)
  have Hm := Lib.hid hm
  have c0 : ∀ W, Ext w W → W.cell? ⟨g, 0, none⟩ = some (.slice A n c) := fun W e => hb.at_ (i := 0) rfl W e
  have c1 : ∀ W, Ext w W → W.cell? ⟨g, 1, none⟩ = some (.int .i64 k) := fun W e => hb.at_ (i := 1) rfl W e
  clear hb hA hn hm
  go_enter Tryz.func153, Tryz.ntmps153
  go_wp2
  (refine wp_region_hold (fun W => Ext w W) 10 [(0, true), (1, true), (2, true), (3, true), (4, true), (5, true), (6, true), (7, true), (8, true), (9, true)] (by kernel_rfl) (by kernel_rfl) ?_ ?_; (· (show Ext _ _); (repeat' (first | exact Ext.refl _ | assumption | refine Ext.alloc ?_ _ | refine Ext.drew ?_ | refine Ext.drewN ?_ _ | refine Ext.trans ?_ (by assumption)))); (repeat (first | (apply hw_read (by rfl) (by rfl); (· (intro W hW; (try dsimp only at hW); go_simp; (first | done | rfl | (rw [if_pos] <;> first | omega | rfl)))); (try simp only [Act.put, List.setIfInBounds_toArray, List.set_cons_zero, List.set_cons_succ])) | (refine hw_skip (by rfl) (by rfl) ?_; (try simp only [Act.put, List.setIfInBounds_toArray, List.set_cons_zero, List.set_cons_succ])))); (refine hw_nil ?_; (try simp only [List.drop_succ_cons, List.drop_zero])); go_wp2; all_goals (refine NoPanic.normal ?_; (try dsimp only [Exit.then])))
  by_cases hkn : k < n
  · obtain ⟨x, hx⟩ := get_of_lt (l := bs) (k := k) (by rw [Hn.out]; exact hkn)
    obtain ⟨b, o, rfl, -, -, -, -⟩ := Ints.at_ HA.out hx
    clear hx
    have hkc : ¬ c = k := by omega
    have hkc' : (k : Int) ≤ (c : Int) := by omega
    have HS : Hid (Ints B w (.slice (some ⟨b, o + k, none⟩) (m - k) (c - k)) ((bs.drop k).take 8)) := Lib.hid (by
      have := ints_sub HA.out (j := k) (m := m) hkm (by rw [Hn.out]; exact hmn)
      rwa [show (bs.drop k).take (m - k) = (bs.drop k).take 8 from by
        rcases Nat.le_total (k + 8) n with h | h
        · rw [show m - k = 8 by omega]
        · rw [List.take_of_length_le (by rw [List.length_drop, Hn.out]; omega), List.take_of_length_le (by rw [List.length_drop, Hn.out]; omega)]] at this)
    go_wp2
    refine wp_region_hold (fun W => Ext w W) 9 [(0, true), (1, true), (2, true), (3, true), (4, true), (5, true), (6, true), (7, true), (8, true)] (by kernel_rfl) (by kernel_rfl) ?_ ?_
    · exact (Ext.refl w).drew.drew
    (repeat (first | (apply hw_read (by rfl) (by rfl); (· (intro W hW; (try dsimp only at hW); go_simp; (first | done | rfl | (rw [if_pos] <;> first | omega | rfl)))); (try simp only [Act.put, List.setIfInBounds_toArray, List.set_cons_zero, List.set_cons_succ])) | (refine hw_skip (by rfl) (by rfl) ?_; (try simp only [Act.put, List.setIfInBounds_toArray, List.set_cons_zero, List.set_cons_succ]))))
    (refine hw_nil ?_; (try simp only [List.drop_succ_cons, List.drop_zero]))
    go_wp2_with (at_builtin; go_must (refine wp_apS (w0 := w) (by rfl) _ _ (by rfl) el_int eint_ok (Ext.refl w).drew.drew _ _ [] ((bs.drop k).take 8) (by rfl) (OwnS.nil _ _ _ _ _) (by rfl) (HS.out.ext (Ext.refl w).drew.drew) ?_ ?_))
    · rw [HL.out]; simp; unfold lim; omega
    · skip
      intro v' w' hO' he' hk'
      (try rw [List.nil_append] at hO')
      have HO' := Lib.hid hO'; have HE' := Lib.hid he'
      have hbw := HB.out.ext he'
      have d0 := c0 w' he'; have d1 := c1 w' he'; have f1 := hbw.frozen 1
      clear hO' he' hk'
      go_wp2
      (try refine NoPanic.normal ?_)
      (try dsimp only [Exit.then])
      (try go_wp2)
      go_ret
      have hks := KeepsT.set (i := 1) hbw (.int .i64 (m : Int)) rfl
      refine ⟨v', rfl, ((HO'.out.keepT hks (by decide) (fun _ _ _ h => h)).sl eint_ok (Nat.le_refl _) (by rw [HL.out]; unfold lim; omega)), (HE'.out.toR g).trans (ExtR.set rfl _), ?_⟩
      have := hbw.set_ 1 (.int .i64 (m : Int))
      rw [Hm.out]
      simpa using this
  · have hkn' : k = n := by omega
    have hmk : m = k := by omega
    have hz : (bs.drop k).take 8 = [] := by rw [List.drop_eq_nil_of_le (by rw [Hn.out]; omega)]; rfl
    have Hz := Lib.hid hz
    clear hkn hz HL hw1 hkm hmn hkm'
    subst hmk
    subst hkn'
    rcases A with _ | ⟨b, o, pth⟩
    · have hc := hcA rfl
      subst hc
      obtain rfl : m = 0 := by omega
      clear hcA hlc hcm
      go_wp2
      refine wp_region_hold (fun W => Ext w W) 9 [(0, true), (1, true), (2, true), (3, true), (4, true), (5, true), (6, true), (7, true), (8, true)] (by kernel_rfl) (by kernel_rfl) ?_ ?_
      · exact (Ext.refl w).drew.drew
      (repeat (first | (apply hw_read (by rfl) (by rfl); (· (intro W hW; (try dsimp only at hW); go_simp; (first | done | rfl | (rw [if_pos] <;> first | omega | rfl)))); (try simp only [Act.put, List.setIfInBounds_toArray, List.set_cons_zero, List.set_cons_succ])) | (refine hw_skip (by rfl) (by rfl) ?_; (try simp only [Act.put, List.setIfInBounds_toArray, List.set_cons_zero, List.set_cons_succ]))))
      (refine hw_nil ?_; (try simp only [List.drop_succ_cons, List.drop_zero]))
      go_wp2_with (at_builtin; go_must (refine wp_apS (B := 0) (w0 := w) (by rfl) _ _ (by rfl) el_int eint_ok (Ext.refl w).drew.drew _ _ [] [] (by rfl) (OwnS.nil _ _ _ _ _) (by rfl) ?_ ?_ ?_))
      · exact ints_nil (by omega) (by simp)
      · simp
      · skip
        intro v' w' hO' he' hk'
        (try rw [List.nil_append] at hO')
        have HO' := Lib.hid hO'; have HE' := Lib.hid he'
        have hbw := HB.out.ext he'
        have d0 := c0 w' he'; have d1 := c1 w' he'; have f1 := hbw.frozen 1
        clear hO' he' hk'
        go_wp2
        (try refine NoPanic.normal ?_)
        (try dsimp only [Exit.then])
        (try go_wp2)
        go_ret
        have hks := KeepsT.set (i := 1) hbw (.int .i64 0) rfl
        refine ⟨v', rfl, by rw [Hz.out]; exact ((HO'.out.keepT hks (by decide) (fun _ _ _ h => h)).sl eint_ok (Nat.le_refl _) (Nat.zero_le _)), (HE'.out.toR g).trans (ExtR.set rfl _), ?_⟩
        have := hbw.set_ 1 (.int .i64 0)
        simpa using this
    · clear hcA
      by_cases hcm9 : c = m
      · subst hcm9
        go_wp2
        refine wp_region_hold (fun W => Ext w W) 9 [(0, true), (1, true), (2, true), (3, true), (4, true), (5, true), (6, true), (7, true), (8, true)] (by kernel_rfl) (by kernel_rfl) ?_ ?_
        · exact (Ext.refl w).drew.drew
        (repeat (first | (apply hw_read (by rfl) (by rfl); (· (intro W hW; (try dsimp only at hW); go_simp; (first | done | rfl | (rw [if_pos] <;> first | omega | rfl)))); (try simp only [Act.put, List.setIfInBounds_toArray, List.set_cons_zero, List.set_cons_succ])) | (refine hw_skip (by rfl) (by rfl) ?_; (try simp only [Act.put, List.setIfInBounds_toArray, List.set_cons_zero, List.set_cons_succ]))))
        (refine hw_nil ?_; (try simp only [List.drop_succ_cons, List.drop_zero]))
        go_wp2_with (at_builtin; go_must (refine wp_apS (B := 0) (w0 := w) (by rfl) _ _ (by rfl) el_int eint_ok (Ext.refl w).drew.drew _ _ [] [] (by rfl) (OwnS.nil _ _ _ _ _) (by rfl) ?_ ?_ ?_))
        · exact ints_nil (by unfold maxLen; omega) (by simp)
        · simp
        · skip
          intro v' w' hO' he' hk'
          (try rw [List.nil_append] at hO')
          have HO' := Lib.hid hO'; have HE' := Lib.hid he'
          have hbw := HB.out.ext he'
          have d0 := c0 w' he'; have d1 := c1 w' he'; have f1 := hbw.frozen 1
          clear hO' he' hk'
          go_wp2
          (try refine NoPanic.normal ?_)
          (try dsimp only [Exit.then])
          (try go_wp2)
          go_ret
          have hks := KeepsT.set (i := 1) hbw (.int .i64 (c : Int)) rfl
          refine ⟨v', rfl, by rw [Hz.out]; exact ((HO'.out.keepT hks (by decide) (fun _ _ _ h => h)).sl eint_ok (Nat.le_refl _) (Nat.zero_le _)), (HE'.out.toR g).trans (ExtR.set rfl _), ?_⟩
          have := hbw.set_ 1 (.int .i64 (c : Int))
          simpa using this
      · have hmc9 : ¬ m = c := fun e => hcm9 e.symm
        go_wp2
        refine wp_region_hold (fun W => Ext w W) 9 [(0, true), (1, true), (2, true), (3, true), (4, true), (5, true), (6, true), (7, true), (8, true)] (by kernel_rfl) (by kernel_rfl) ?_ ?_
        · exact (Ext.refl w).drew.drew
        (repeat (first | (apply hw_read (by rfl) (by rfl); (· (intro W hW; (try dsimp only at hW); go_simp; (first | done | rfl | (rw [if_pos] <;> first | omega | rfl)))); (try simp only [Act.put, List.setIfInBounds_toArray, List.set_cons_zero, List.set_cons_succ])) | (refine hw_skip (by rfl) (by rfl) ?_; (try simp only [Act.put, List.setIfInBounds_toArray, List.set_cons_zero, List.set_cons_succ]))))
        (refine hw_nil ?_; (try simp only [List.drop_succ_cons, List.drop_zero]))
        go_wp2_with (at_builtin; go_must (refine wp_apS (B := 0) (w0 := w) (by rfl) _ _ (by rfl) el_int eint_ok (Ext.refl w).drew.drew _ _ [] [] (by rfl) (OwnS.nil _ _ _ _ _) (by rfl) ?_ ?_ ?_))
        · exact ints_nil (by unfold maxLen; omega) (by simp)
        · simp
        · skip
          intro v' w' hO' he' hk'
          (try rw [List.nil_append] at hO')
          have HO' := Lib.hid hO'; have HE' := Lib.hid he'
          have hbw := HB.out.ext he'
          have d0 := c0 w' he'; have d1 := c1 w' he'; have f1 := hbw.frozen 1
          clear hO' he' hk'
          go_wp2
          (try refine NoPanic.normal ?_)
          (try dsimp only [Exit.then])
          (try go_wp2)
          go_ret
          have hks := KeepsT.set (i := 1) hbw (.int .i64 (m : Int)) rfl
          refine ⟨v', rfl, by rw [Hz.out]; exact ((HO'.out.keepT hks (by decide) (fun _ _ _ h => h)).sl eint_ok (Nat.le_refl _) (Nat.zero_le _)), (HE'.out.toR g).trans (ExtR.set rfl _), ?_⟩
          have := hbw.set_ 1 (.int .i64 (m : Int))
          simpa using this
def slLen : Value → Nat
  | .slice _ n _ => n
  | _ => 0
theorem map_ne {B b n g : Nat} {M : Lit → Option Value} {l : List Hd} {w : World} {t : TypeId} {cs : Array Value} (h : StoreM B b n M l w) (hg : Blk w g t cs) : b ≠ g := fun e => by
  subst e
  obtain ⟨⟨D, ⟨es, cl, h1, -⟩, -⟩, -⟩ := h
  unfold Blk at hg
  rw [h1] at hg
  cases hg
theorem ints_row {B : Nat} {w w' : World} {u : Value} {xs : List Int} (h : Ints B w u xs) (hg : ∀ gg, u.ownBlock = some gg → w'.heap[gg]? = w.heap[gg]?) : Ints B w' u xs := by
  obtain ⟨A, c, rfl, a1, a2, a3, a4⟩ := h
  refine ⟨A, c, rfl, a1, a2, a3, fun j y hy => ?_⟩
  obtain ⟨b, o, cs, e1, e2, e3, e4⟩ := a4 j y hy
  subst e1
  exact ⟨b, o, cs, rfl, e2, (hg b rfl).trans e3, e4⟩
theorem StoreM.low {B b n : Nat} {M : Lit → Option Value} {l : List Hd} {w w' : World} (h : StoreM B b n M l w) (hb : w'.heap[b]? = w.heap[b]?) (hr : RowsOk (fun gg => w'.heap[gg]? = w.heap[gg]?) M) : StoreM B b n M l w' :=
  ⟨h.1.block hb, fun i => ⟨(h.2 i).1, fun y hy => by
    obtain ⟨u, h1, h2⟩ := (h.2 i).2 y hy
    exact ⟨u, h1, ints_row h2 fun gg hg => hr i _ _ _ h1 gg hg⟩⟩⟩
theorem RowsOk.mono {P Q : Nat → Prop} {M : Lit → Option Value} (h : RowsOk P M) (hq : ∀ g, P g → Q g) : RowsOk Q M := fun i a u c hi g hg => hq g (h i a u c hi g hg)
theorem RowsOk.and {P Q : Nat → Prop} {M : Lit → Option Value} (h : RowsOk P M) (h' : RowsOk Q M) : RowsOk (fun g => P g ∧ Q g) M := fun i a u c hi g hg => ⟨h i a u c hi g hg, h' i a u c hi g hg⟩
/-- the store when the row of ids has grown -/
theorem StoreM.grown {B b n base sz : Nat} {t : TypeId} {E : World → Array Value → Nat → Int → Prop} {M : Lit → Option Value} {l : List Hd} {W w' : World} {v : Value} {ids : List Int} {cs : Array Value} {t' : TypeId} (hs : StoreOk l) (h : StoreM B b n M l W) (hO : OwnS base t sz E W v ids) (hr : ∀ gg, v.ownBlock = some gg → RowsOk (fun x => x ≠ gg) M) (hg : (W.alloc (.cells cs t')).grownBy w' v.ownBlock) : StoreM B b n M l w' := by
  have h2 : ∀ gg, gg < W.heap.size → (∀ o, v.ownBlock = some o → gg ≠ o) → w'.heap[gg]? = W.heap[gg]? := fun gg hlt hne => by
    refine (hg.block gg (by simp; omega) fun e => hne gg e.symm rfl).trans ?_
    exact Below.heap_alloc W _ gg hlt
  refine h.low (h2 b h.1.lt fun o ho => ?_) ?_
  · obtain ⟨-, cs9, hb⟩ := hO.block ho
    exact map_ne h hb
  · intro i a u c hi gg hgg
    exact h2 gg (rows_lt hs h i a u c hi gg hgg) fun o ho => hr o ho i a u c hi gg hgg
theorem keepsC_grown {base sz : Nat} {t : TypeId} {E : World → Array Value → Nat → Int → Prop} {w W w' : World} {v : Value} {ids : List Int} (hk : KeepsC w W) (hO : OwnS base t sz E W v ids) (hb : w.heap.size ≤ base) (hg : W.grownBy w' v.ownBlock) : KeepsC w w' := fun gg t' cs hbk =>
  (hg.block gg (hk gg t' cs hbk).lt fun e => by
    have h1 := (hO.block e.symm).1
    have h2 := hbk.lt
    omega).trans (hk gg t' cs hbk)
theorem ext_grown {base sz : Nat} {t : TypeId} {E : World → Array Value → Nat → Int → Prop} {w0 W w' : World} {v : Value} {ids : List Int} (h0 : Ext w0 W) (hO : OwnS base t sz E W v ids) (hb : w0.heap.size ≤ base) (hg : W.grownBy w' v.ownBlock) : Ext w0 w' :=
  Below.grown h0 hg h0.size fun _ hj => Nat.le_trans hb (hO.block hj).1
theorem slin_keepC {B c : Nat} {A : Option Addr} {bs : List Int} {w w' : World} (h : SlIn B 3 1 EInt w A c bs) (hk : KeepsC w w') : SlIn B 3 1 EInt w' A c bs := h.keepT (hk.t 9) (by decide) (fun _ _ _ h => h)
def StoreFP (w0 w : World) (B b n : Nat) (o : Option (List Hd × List Int)) (e : Ending) (w' : World) : Prop :=
  Ext w0 w' ∧ KeepsC w w' ∧ ((o = none ∧ e = .returned (.tuple #[.slice none 0 0, .bool false])) ∨ (∃ s' ids v, o = some (s', ids) ∧ e = .returned (.tuple #[v, .bool true]) ∧ StoreAt B b n s' w' ∧ OwnS w.heap.size 3 1 EInt w' v ids))
theorem block_ok {bs : List Int} (h : fileOk bs = true) {k : Nat} (hk : 8 * k < bs.length) : blockOk ((bs.drop (8 * k)).take 8) = true := by
  unfold fileOk at h
  rw [Bool.and_eq_true, List.all_eq_true] at h
  unfold blockOk inB
  have hl : ((bs.drop (8 * k)).take 8).length = min 8 (bs.length - 8 * k) := by rw [List.length_take, List.length_drop]
  rw [Bool.and_eq_true, List.all_eq_true]
  refine ⟨fun x hx => h.1 x (List.mem_of_mem_drop (List.mem_of_mem_take hx)), ?_⟩
  rw [hl]
  simp
  omega
set_option maxRecDepth 4000 in
set_option maxHeartbeats 4000000 in
theorem storeFile_c {B B' b n : Nat} {M : Lit → Option Value} {v : Value} {s : List Hd} {bs : List Int} {w0 w : World} (hs : StoreOk s) (h : StoreM B b n M s w) (hi : Ints B' w v bs) (hok : fileOk bs = true) (hn : n + 8 < maxLen) (h0 : Ext w0 w) (hb : w0.heap.size ≤ b) (hB : B ≤ w.heap.size) :
    Calls Tryz.prog 121 #[.map (some b), v] w (StoreFP w0 w B b (n + 4) (putBs s (cutB bs))) := by
  obtain ⟨A, c, rfl, hA⟩ := hi
  have h32 : bs.length ≤ 32 := by
    unfold fileOk at hok
    rw [Bool.and_eq_true, decide_eq_true_eq] at hok
    exact hok.2
  have HA := Lib.hid hA; have HOK := Lib.hid hok; have H0 := Lib.hid h0; have HS0 := Lib.hid hs; have HM0 := Lib.hid h
  obtain ⟨q, hq⟩ : ∃ q, (cutB bs).length = q := ⟨_, rfl⟩
  have hq2 := hq
  rw [cutB_len] at hq2
  have Hcut : Hid (∀ k, k < q → (cutB bs).drop k = ((bs.drop (8 * k)).take 8) :: (cutB bs).drop (k + 1)) := Lib.hid fun k hk => by
    rw [List.drop_eq_getElem_cons (by omega)]
    congr 1
    simp [cutB]
  have Hq := Lib.hid hq
  generalize hbl : cutB bs = bl at *
  obtain ⟨m, hm⟩ : ∃ m, bs.length = m := ⟨_, rfl⟩
  have Hm := Lib.hid hm
  have hba := Blk.new w 208 #[.slice A m c, .int .i64 0]
  have ea : Ext w (w.alloc (.cells #[.slice A m c, .int .i64 0] 208)) := (Ext.refl w).alloc _
  have hsz : (w.alloc (.cells #[.slice A m c, .int .i64 0] 208)).heap.size = w.heap.size + 1 := by simp
  rw [hm] at h32 hq2 ⊢
  clear hA hok h0 hs h hq hbl hm
  go_enter Tryz.func121, Tryz.ntmps121
  go_wp2_with fail
  obtain ⟨g, hg⟩ : ∃ g, w.heap.size = g := ⟨_, rfl⟩
  rw [hg] at hba
  generalize hwa : w.alloc (.cells #[.slice A m c, .int .i64 0] 208) = wa at *
  (try rw [hg])
  refine (next_c (k := 0) hba (slin_keepC HA.out ea.keepsC) Hm.out h32 (Nat.zero_le _)).mono ?_
  rintro e w2 ⟨v8, rfl, hv8, hx2, hb2⟩
  have hgs : g < wa.heap.size := by omega
  have H02 : Hid (Ext w0 w2) := Lib.hid (hx2.ext (H0.out.trans ea) (by have := H0.out.size; omega))
  have HK2 : Hid (KeepsC w w2) := Lib.hid fun gg t cs hbk => hx2.blk (hbk.ext ea) (by have := hbk.lt; omega)
  have HM2 : Hid (StoreM B b n M s w2) := Lib.hid (by
    have h1 := HM0.out.ext ea
    refine ⟨h1.1.block (hx2.2.2 b h1.1.lt (map_ne h1 hba)), h1.2.keepT (hx2.keepsT hba) (by decide)⟩)
  have hwle : w.heap.size ≤ w2.heap.size := by have := hx2.size; omega
  have HV8 : Hid (Ints w.heap.size w2 v8 ((bs.drop (8 * 0)).take 8)) := Lib.hid (Ints.keep hv8 (by omega) (fun _ _ _ => rfl))
  have HB2 : Hid (Blk w2 g 208 #[.slice A m c, .int .i64 ((min (8 * (0 + 1)) m : Nat) : Int)]) := Lib.hid (by simpa using hb2)
  clear hv8 hx2 hb2 hba ea hsz hwa hgs
  go_wp2
  go_loopw [6, 8] (fun v6 v8 wr => ∃ (k : Nat) (st : List Hd) (ids : List Int) (M' : Lit → Option Value), k ≤ q ∧ slLen v6 = k ∧ OwnS w.heap.size 3 1 EInt wr v6 ids ∧ Hid (StoreOk st ∧ ids.length = k ∧ putBs s bl = (putBs st (bl.drop k)).map fun x => (x.1, ids ++ x.2)) ∧
      StoreM B b (n + k) M' st wr ∧ Hid (∀ gg, v6.ownBlock = some gg → RowsOk (fun x => x ≠ gg) M') ∧ Ints w.heap.size wr v8 ((bs.drop (8 * k)).take 8) ∧ Blk wr g 208 #[.slice A m c, .int .i64 ((min (8 * (k + 1)) m : Nat) : Int)] ∧ Ext w0 wr ∧ KeepsC w wr) (fun v6 _ _ => q + 1 - slLen v6)
  case atStart => exact ⟨0, s, [], M, Nat.zero_le _, rfl, OwnS.nil _ _ _ _ _, Lib.hid ⟨HS0.out, rfl, by simp⟩, HM2.out, Lib.hid (fun gg h => by cases h), HV8.out, HB2.out, H02.out, HK2.out⟩
  case round =>
    obtain ⟨k, st, ids, M', hk, hsl, hO, hP, hM, hR, hV, hBk, hE0, hKC⟩ := hrel
    obtain ⟨A8, c8, rfl, -⟩ := id hV
    obtain ⟨A6, c6, rfl⟩ := hO.form
    have hil : ids.length = k := hP.out.2.1
    rw [hil] at hO hR ⊢
    have HO := Lib.hid hO; have HM := Lib.hid hM; have HV := Lib.hid hV; have HBk := Lib.hid hBk; have HE0 := Lib.hid hE0; have HKC := Lib.hid hKC
    clear hO hM hBk hE0 hKC hV hsl
    have Hil := Lib.hid hil
    clear hil
    have hlen : ((bs.drop (8 * k)).take 8).length = min 8 (m - 8 * k) := by rw [List.length_take, List.length_drop, Hm.out]
    obtain ⟨z, hz⟩ : ∃ z, ((bs.drop (8 * k)).take 8).length = z := ⟨_, rfl⟩
    rw [hz] at hlen ⊢
    have Hz := Lib.hid hz; have Hlen := Lib.hid hlen
    clear hz hlen
    by_cases hlt : k < q
    · have hz0 : 0 < z := by have := Hlen.out; omega
      have hz0' : (0 : Int) < (z : Int) := by omega
      have hzd : decide ((0 : Int) < (z : Int)) = true := by simpa using hz0
      have hmk : 8 * k < m := by omega
      have Hst := hP.out.1
      have hwr : w.heap.size ≤ wr.heap.size := Nat.le_of_lt_succ (by have := HBk.out.lt; omega)
      have CP := bsPut_c (w0 := w0) (w := wr) Hst HM.out HV.out (block_ok HOK.out (by rw [Hm.out]; exact hmk)) (by omega) HE0.out hb (Nat.le_trans hB hwr)
      have Hc := Lib.hid (Hcut.out k hlt)
      have Hst := Lib.hid Hst
      rw [Hz.out] at CP
      go_wp2_with fail
      refine CP.mono ?_
      rintro e w4 ⟨he0, hkc, ⟨hnone, i, rfl⟩ | ⟨s', i, hsome, rfl, M2, hSM, hrows⟩⟩
      · have Hr : Hid (putBs s bl = none) := Lib.hid (by rw [hP.out.2.2, Hc.out, putBs_step, hnone]; rfl)
        go_wp2
        go_ret2
        exact ⟨he0, HKC.out.trans hkc, .inl ⟨Hr.out, rfl⟩⟩
      · have Hs' : Hid (putBs s bl = (putBs s' (bl.drop (k + 1))).map fun x => (x.1, (ids ++ [i]) ++ x.2)) := Lib.hid (by
          rw [hP.out.2.2, Hc.out, putBs_step, hsome]
          simp only [Option.bind_some, Option.map_map]
          congr 1
          funext x
          simp)
        obtain ⟨hS4, hi1, hi2, -, -⟩ := storePut_some hsome
        have HS4 := Lib.hid hS4; have HSM := Lib.hid hSM
        have hO4 : OwnS w.heap.size 3 1 EInt w4 (.slice A6 k c6) ids := HO.out.keepT (hkc.t 9) (by decide) (fun _ _ _ h => h)
        have HO4 := Lib.hid hO4
        have HR4 : Hid (∀ gg, (Value.slice A6 k c6).ownBlock = some gg → RowsOk (fun x => x ≠ gg) M2) := Lib.hid fun gg hg9 => hrows _ (hR.out gg hg9) fun x hx => by
          obtain ⟨-, cs9, hb9⟩ := HO.out.block hg9
          have := hb9.lt
          omega
        have HB4 : Hid (Blk w4 g 208 #[.slice A m c, .int .i64 ((min (8 * (k + 1)) m : Nat) : Int)]) := Lib.hid (hkc _ _ _ HBk.out)
        have HK4 := Lib.hid (HKC.out.trans hkc); have HE4 := Lib.hid he0
        have hii : inI i := by unfold inI; omega
        have hw4 : w.heap.size ≤ w4.heap.size := by have := HB4.out.lt; omega
        clear hSM hrows hO4 hkc he0 hS4
        go_wp2_with (at_builtin; go_must (refine wp_ap1W (B := w.heap.size) (by rfl) _ _ (by rfl) el_int eint_ok hw4 _ ids [i] (by rfl) HO4.out 1 1 rfl (by decide) #[.int .i64 i] _ (by rfl) (by first | rfl | simp) rfl (one_cells rfl) (one_E ⟨rfl, hii⟩) ?_ ?_))
        · rw [Hil.out]; simp; unfold lim; omega
        · intro v7 w5 hO5 hg5 hk5 hown
          have hga : (w4.alloc (.cells #[.int .i64 i] 3)).grownBy w5 (Value.slice (A6) k c6).ownBlock := hg5
          have HM5 := Lib.hid (StoreM.grown HS4.out HSM.out HO4.out HR4.out hga)
          have hO4a := HO4.out.ext eint_ok ((Ext.refl w4).alloc (.cells #[.int .i64 i] 3))
          have HK5 := Lib.hid (keepsC_grown (HK4.out.trans ((Ext.refl w4).alloc (.cells #[.int .i64 i] 3)).keepsC) hO4a (Nat.le_refl _) hga)
          have HE5 := Lib.hid (ext_grown (HE4.out.alloc (.cells #[.int .i64 i] 3)) hO4a H0.out.size hga)
          have HB5 := Lib.hid (hk5 _ _ _ (by decide) HB4.out)
          have HR5 : Hid (∀ gg, v7.ownBlock = some gg → RowsOk (fun x => x ≠ gg) M2) := Lib.hid fun gg hg9 => by
            rcases hown with h1 | h1
            · exact HR4.out gg (by rw [← h1]; exact hg9)
            · rw [h1] at hg9
              injection hg9 with hg9
              exact (rows_lt HS4.out HSM.out).mono fun x hx => by omega
          have HO5 := Lib.hid hO5
          have hp5 : min (8 * (k + 1)) m ≤ m := Nat.min_le_right _ _
          have CN := next_c HB5.out (slin_keepC HA.out HK5.out) Hm.out h32 hp5
          obtain ⟨A7, c7, rfl⟩ := hO5.form
          have hl7 : (ids ++ [i]).length = k + 1 := by rw [List.length_append, Hil.out]; rfl
          rw [hl7] at HO5 HR5 ⊢
          clear hO5 hg5 hga hk5 hown hO4a
          go_wp2_with fail
          refine CN.mono ?_
          rintro e w6 ⟨v9, rfl, hv9, hx6, hb6⟩
          have HE6 := Lib.hid (hx6.ext HE5.out (by have := H0.out.size; omega))
          have HK6 : Hid (KeepsC w w6) := Lib.hid fun gg t cs hbk => hx6.blk (HK5.out gg t cs hbk) (by have := hbk.lt; omega)
          have HM6 : Hid (StoreM B b (n + (k + 1)) M2 s' w6) := Lib.hid ⟨HM5.out.1.block (hx6.2.2 b HM5.out.1.lt (map_ne HM5.out HB5.out)), HM5.out.2.keepT (hx6.keepsT HB5.out) (by decide)⟩
          have HO6 := Lib.hid (HO5.out.keepT (hx6.keepsT HB5.out) (by decide) (fun _ _ _ h => h))
          have hdr : bs.drop (min (8 * (k + 1)) m) = bs.drop (8 * (k + 1)) := by
            rcases Nat.le_total (8 * (k + 1)) m with h | h
            · rw [Nat.min_eq_left h]
            · rw [Nat.min_eq_right h, List.drop_eq_nil_of_le (by rw [Hm.out]; exact Nat.le_refl _), List.drop_eq_nil_of_le (by rw [Hm.out]; exact h)]
          rw [hdr] at hv9
          have hw5 : w.heap.size ≤ w5.heap.size := by have := HB5.out.lt; omega
          have HV6 := Lib.hid (Ints.keep hv9 hw5 (fun _ _ _ => rfl))
          have hmm : min (min (8 * (k + 1)) m + 8) m = min (8 * (k + 1 + 1)) m := by omega
          rw [hmm] at hb6
          have HB6 := Lib.hid hb6
          have Hl7 := Lib.hid hl7
          clear hb6 hv9 hdr hmm hx6 hl7 CN
          go_wp2
          go_roundw
          case rel => exact ⟨k + 1, s', ids ++ [i], M2, by omega, rfl, (by first | exact HO6.out | (rw [hg]; exact HO6.out)), Lib.hid ⟨HS4.out, Hl7.out, Hs'.out⟩, HM6.out, HR5, (by first | exact HV6.out | (rw [hg]; exact HV6.out)), HB6.out, HE6.out, HK6.out⟩
          case measure => simp [slLen]; omega
    · obtain rfl : k = q := by omega
      obtain rfl : z = 0 := by have := Hlen.out; omega
      have Hr : Hid (putBs s bl = some (st, ids)) := Lib.hid (by
        rw [hP.out.2.2, List.drop_eq_nil_of_le (by rw [Hq.out]; exact Nat.le_refl _)]
        simp [putBs])
      go_wp2
      go_ret2
      exact ⟨HE0.out, HKC.out, .inr ⟨st, ids, _, Hr.out, rfl, ⟨M', HM.out.1.mono (by omega), HM.out.2⟩, (by first | exact HO.out | (rw [hg]; exact HO.out))⟩⟩
end Go.Sf
