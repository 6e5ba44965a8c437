/- Quotas and texts are marked. -/
import Derived.Test.YtneabdoianmfhaaGreatDoorX12
import Derived.Test.YtneabdoianmfhaaGreatDoorGL
namespace Go.Sf
open Go Go.RowKit Go.Proofs
theorem QtsU.row {B : Nat} {w : World} {v : Value} {l : List Qt} (h : QtsU B w v l) : ∃ g c cs, v = .slice (some ⟨g, 0, none⟩) l.length c ∧ B ≤ g ∧ l.length ≤ lim ∧ Blk w g 160 cs ∧ l.length * 2 ≤ cs.size := by
  obtain ⟨g, c, cs, h1, h2, h3, h4, h5, h6, h7⟩ := h
  refine ⟨g, c, cs, h1, h2, h5, h6, ?_⟩
  rcases Nat.eq_zero_or_pos l.length with hz | hz
  · omega
  · obtain ⟨x, hx⟩ := get_of_lt (l := l) (k := l.length - 1) (by omega)
    have := (Array.getElem?_eq_some_iff.1 (h7 _ x hx).2.1).1
    omega
set_option maxRecDepth 4000 in
set_option maxHeartbeats 1000000 in
theorem markQuotaS_c {B : Nat} {v : Value} {l : List Qt} {k : Int} (w : World) (h : QtsU B w v l) (h0 : 1 ≤ k) (h1 : k ≤ 1152921504606846976) :
    Calls Tryz.prog 35 #[v, .int .i64 k] w (RetM (fun b => v.ownBlock = some b) (.int .i64 (k + (2 * l.length : Nat))) (fun _ => True) w) := by
  obtain ⟨g, c, cs, rfl, -, hl, hb, hsz⟩ := h.row
  unfold lim at hl
  generalize l.length = n at *
  have hR : Hid (∃ cs, Blk w g 160 cs ∧ n * 2 ≤ cs.size) := Lib.hid ⟨cs, hb, hsz⟩
  clear hb hsz h
  go_enter Tryz.func35, Tryz.ntmps35
  go_wp2
  go_loopw [1, 5] (fun q i wr => ∃ (j : Nat) (d : Int), j ≤ n ∧ i = .int .i64 j ∧ q = .int .i64 d ∧ Hid (d = k + (2 * j : Nat)) ∧ Hid (∃ cs, Blk wr g 160 cs ∧ n * 2 ≤ cs.size) ∧ Hid (Mod (fun b => (Value.slice (some ⟨g, 0, none⟩) n c).ownBlock = some b) w wr)) (fun _ i _ => n - (intOf i).toNat)
  case atStart => exact ⟨0, k, by omega, rfl, rfl, Lib.hid (by simp), hR, Lib.hid (Mod.refl _ _)⟩
  case round =>
    clear hR
    obtain ⟨j, d, hj, rfl, rfl, hd, hC, hM⟩ := hrel
    by_cases hlt : j < n
    · obtain ⟨cs, hb, hsz⟩ := hC.out
      have hdb : 1 ≤ d ∧ d ≤ 1152921504606846976 + 8388608 := by have := hd.out; omega
      obtain ⟨hd1, hd2⟩ := hdb
      have Cm := markText_c d wr (by omega) (by omega)
      obtain ⟨s0, e0⟩ : ∃ s, cs[j * 2]? = some s := ⟨cs[j * 2], by simp⟩
      obtain ⟨s1, e1⟩ : ∃ s, cs[j * 2 + 1]? = some s := ⟨cs[j * 2 + 1], by simp⟩
      have c0 := fun W (e : Ext wr W) => hb.at_ (i := j * 2) (u := s0) e0 W e; have c1 := fun W (e : Ext wr W) => hb.at_ (i := j * 2 + 1) (u := s1) e1 W e
      have f0 := fun W (e : Ext wr W) => (hb.ext e).frozen (j * 2); have f1 := fun W (e : Ext wr W) => (hb.ext e).frozen (j * 2 + 1)
      have Hb := Lib.hid hb; have Hsz := Lib.hid hsz
      clear hb hsz hC e0 e1
      go_wp2_with (go_at_call 77; refine Cm.mono ?_; rintro e w1 ⟨rfl, he1⟩; have d0 := c0 _ he1; have d1 := c1 _ he1; have g0 := f0 _ he1; have g1 := f1 _ he1)
      have B1 := (Hb.out.ext he1).set_ (j * 2) (.string (mt d))
      have B2 := B1.set_ (j * 2 + 1) (.int .i64 (d + 1))
      have hC2 : Hid (∃ cs, Blk ((w1.setCell ⟨g, j * 2, none⟩ (.string (mt d))).setCell ⟨g, j * 2 + 1, none⟩ (.int .i64 (d + 1))) g 160 cs ∧ n * 2 ≤ cs.size) := Lib.hid ⟨_, B2, by have := Hsz.out; simpa using this⟩
      have hM2 : Hid (Mod (fun b => (Value.slice (some ⟨g, 0, none⟩) n c).ownBlock = some b) w ((w1.setCell ⟨g, j * 2, none⟩ (.string (mt d))).setCell ⟨g, j * 2 + 1, none⟩ (.int .i64 (d + 1)))) := Lib.hid (((hM.out.trans (he1.mod _)).trans (Mod.set (S := fun b => (Value.slice (some ⟨g, 0, none⟩) n c).ownBlock = some b) (p := ⟨g, j * 2, none⟩) rfl _)).trans (Mod.set (S := fun b => (Value.slice (some ⟨g, 0, none⟩) n c).ownBlock = some b) (p := ⟨g, j * 2 + 1, none⟩) rfl _))
      clear B1 B2 hM c0 c1 f0 f1 Cm
      go_roundw
      case rel => exact ⟨j + 1, d + 1 + 1, by omega, by go_num, by go_num, Lib.hid (by have := hd.out; omega), hC2, hM2⟩
      case measure => simp [intOf]; omega
    · have hjs : j = n := by omega
      subst hjs
      have hv : Hid (d = k + (2 * j : Nat)) := hd
      go_wp2
      go_ret
      exact ⟨ret_i hv.out, trivial, hM.out⟩
def mkStrs (k : Int) (n : Nat) : List ByteArray := (List.range n).map fun i => mt (k + (i : Nat))
theorem mkStrs_len (k : Int) (n : Nat) : (mkStrs k n).length = n := by simp [mkStrs]
theorem mkStrs_succ (k : Int) (n : Nat) : mkStrs k (n + 1) = mkStrs k n ++ [mt (k + (n : Nat))] := by simp [mkStrs, List.range_succ]
def OwnSt (u : Value) (xs : List ByteArray) (b : Nat) : Prop := u.ownBlock = some b ∧ xs ≠ []
theorem Strs.own {B : Nat} {w : World} {u : Value} {xs : List ByteArray} (h : Strs B w u xs) {b : Nat} (ho : OwnSt u xs b) : B ≤ b ∧ b < w.heap.size := by
  obtain ⟨A, c, rfl, hA⟩ := h
  obtain ⟨ho, hne⟩ := ho
  cases xs with
  | nil => exact absurd rfl hne
  | cons x xs =>
    obtain ⟨b', o, rfl, h1, h2, -⟩ := Strs.at_ hA (k := 0) (x := x) rfl
    simp only [Value.ownBlock, Option.some.injEq] at ho
    subst ho
    exact ⟨h1, h2⟩
set_option maxRecDepth 4000 in
set_option maxHeartbeats 1000000 in
theorem markStringS_c {B : Nat} {u : Value} {xs : List ByteArray} {k : Int} (w : World) (h : Strs B w u xs) (h0 : 1 ≤ k) (h1 : k ≤ 2305843009213693951) :
    Calls Tryz.prog 36 #[u, .int .i64 k] w (RetM (OwnSt u xs) (.int .i64 (k + (xs.length : Nat))) (fun w' => Strs B w' u (mkStrs k xs.length)) w) := by
  obtain ⟨A, c, rfl, hA⟩ := h
  have hl := hA.2.2.1
  unfold lim at hl
  have hex : ∃ n, xs.length = n := ⟨_, rfl⟩
  obtain ⟨n, hn⟩ := hex
  rw [hn] at hl ⊢
  have Hn := Lib.hid hn
  have HA := Lib.hid hA
  clear hA hn
  go_enter Tryz.func36, Tryz.ntmps36
  go_wp2
  go_loopw [1, 5] (fun q i wr => ∃ j : Nat, j ≤ n ∧ i = .int .i64 j ∧ q = .int .i64 (k + (j : Nat)) ∧ Hid (SlIn B 9 1 EStr wr A c (mkStrs k j ++ xs.drop j)) ∧ Hid (Mod (OwnSt (Value.slice A n c) xs) w wr)) (fun _ i _ => n - (intOf i).toNat)
  case atStart => exact ⟨0, by omega, rfl, by simp, Lib.hid (by simpa [mkStrs] using HA.out), Lib.hid (Mod.refl _ _)⟩
  case round =>
    obtain ⟨j, hj, rfl, rfl, hS, hM⟩ := hrel
    by_cases hlt : j < n
    · obtain ⟨x, hx⟩ := get_of_lt (l := xs) (k := j) (by rw [Hn.out]; exact hlt)
      have hL : (mkStrs k j ++ xs.drop j)[j]? = some x := by
        rw [List.getElem?_append_right (by rw [mkStrs_len]; exact Nat.le_refl _), mkStrs_len, Nat.sub_self, List.getElem?_drop]; simpa using hx
      have Cm := markText_c (k + (j : Nat)) wr (by omega) (by omega)
      obtain ⟨b, o, cs, rfl, hB, hb, hE⟩ := hS.out.2.2.2 j x hL
      rw [Nat.mul_one] at hE
      have Hb := Lib.hid hb; have HE := Lib.hid hE; have HL := Lib.hid hL; have Hx := Lib.hid hx
      clear hb hE hL hx
      go_wp2_with (go_at_call 77; refine Cm.mono ?_; rintro e w1 ⟨rfl, he1⟩; have d0 := ((Hb.out.ext he1).cell (o + j)).trans HE.out.1; have f0 := (Hb.out.ext he1).frozen (o + j))
      have hS1 : SlIn B 9 1 EStr w1 (some ⟨b, o, none⟩) c (mkStrs k j ++ xs.drop j) := by
        obtain ⟨q1, q2, q3, q4⟩ := hS.out
        exact ⟨q1, q2, q3, fun i z hz => let ⟨b', o', cs', e1, e2, e3, e4⟩ := q4 i z hz; ⟨b', o', cs', e1, e2, e3.ext he1, e4⟩⟩
      have hup : Hid (SlIn B 9 1 EStr (w1.setCell ⟨b, o + j, none⟩ (.string (mt (k + (j : Nat))))) (some ⟨b, o, none⟩) c (mkStrs k (j + 1) ++ xs.drop (j + 1))) := Lib.hid (by
        have hd := drop_cons Hx.out
        have e : mkStrs k (j + 1) ++ xs.drop (j + 1) = (mkStrs k j ++ xs.drop j).set j (mt (k + (j : Nat))) := by
          rw [mkStrs_succ, hd, List.append_assoc, set_mid (mkStrs_len k j)]; rfl
        rw [e]
        refine SlIn.upd hS1 HL.out fun cs2 hb2 he2 => ⟨_, hb2.set_ (o + j) (.string (mt (k + (j : Nat)))), ⟨?_, mt_size _⟩, fun i z hi hz hez => ⟨?_, hez.2⟩⟩
        · have := (Array.getElem?_eq_some_iff.1 he2.1).1
          rw [Nat.mul_one] at this ⊢
          rw [Array.getElem?_setIfInBounds, if_pos rfl, if_pos this]
        · rw [Array.getElem?_setIfInBounds, if_neg (by omega)]; exact hez.1)
      have hM2 : Hid (Mod (OwnSt (Value.slice (some ⟨b, o, none⟩) n c) xs) w (w1.setCell ⟨b, o + j, none⟩ (.string (mt (k + (j : Nat)))))) := Lib.hid ((hM.out.trans (he1.mod _)).trans (Mod.set (S := OwnSt (Value.slice (some ⟨b, o, none⟩) n c) xs) (p := ⟨b, o + j, none⟩) ⟨rfl, fun e => by have := Hx.out; rw [e] at this; simp at this⟩ _))
      clear hS1 hS hM Cm
      (try go_wp2)
      go_roundw
      case rel => exact ⟨j + 1, by omega, by go_num, by go_num, hup, hM2⟩
      case measure => simp [intOf]; omega
    · have hjs : j = n := by omega
      subst hjs
      have hS2 : Hid (SlIn B 9 1 EStr wr A c (mkStrs k j)) := Lib.hid (by have := hS.out; rwa [List.drop_eq_nil_of_le (by rw [Hn.out]; exact Nat.le_refl _), List.append_nil] at this)
      clear hS
      go_wp2
      go_ret
      exact ⟨rfl, ⟨A, c, by rw [mkStrs_len], hS2.out⟩, hM.out⟩
set_option maxRecDepth 4000 in
set_option maxHeartbeats 1000000 in
theorem heldStringS_c {B : Nat} {u : Value} {n : Nat} {k : Int} (w : World) (h : Strs B w u (mkStrs k n)) (h0 : 1 ≤ k) (h1 : k ≤ 2305843009213693951) : Calls Tryz.prog 37 #[u, .int .i64 k] w (Ret (.int .i64 (k + (n : Nat))) w) := by
  obtain ⟨A, c, rfl, hA⟩ := h
  rw [mkStrs_len]
  have hl := hA.2.2.1
  rw [mkStrs_len] at hl
  unfold lim at hl
  have HA := Lib.hid hA; clear hA
  go_enter Tryz.func37, Tryz.ntmps37
  go_wp2
  go_loopw [1, 5] (fun q i wr => ∃ j : Nat, j ≤ n ∧ i = .int .i64 j ∧ q = .int .i64 (k + (j : Nat)) ∧ Ext w wr) (fun _ i _ => n - (intOf i).toNat)
  case atStart => exact ⟨0, by omega, rfl, by simp, Ext.refl w⟩
  case round =>
    obtain ⟨j, hj, rfl, rfl, he⟩ := hrel
    by_cases hlt : j < n
    · have hx : (mkStrs k n)[j]? = some (mt (k + (j : Nat))) := by simp [mkStrs, hlt]
      obtain ⟨b, o, rfl, -, -, -, hc0⟩ := Strs.at_ HA.out hx
      have a0 := fun W (e : Ext wr W) => hc0 W (he.trans e)
      have Cm := fun W => markText_c (k + (j : Nat)) W (by omega) (by omega)
      clear hc0 hx
      generalize mt (k + (j : Nat)) = s at *
      go_wp2
      refine wp_region_hold (fun W => Ext wr W) 6 [(0, true), (1, true), (2, true), (3, true), (4, true), (5, false)] (by kernel_rfl) (by kernel_rfl) ?_ ?_
      · exact (Ext.refl _).drew
      (repeat (first | (apply hw_read (by rfl) (by rfl); (· (intro W hW; (try dsimp only at hW); go_simp; (first | done | rfl | (rw [if_pos] <;> first | omega | rfl)))); (try simp only [Act.put, List.setIfInBounds_toArray, List.set_cons_zero, List.set_cons_succ])) | (refine hw_skip (by rfl) (by rfl) ?_; (try simp only [Act.put, List.setIfInBounds_toArray, List.set_cons_zero, List.set_cons_succ]))))
      refine hw_step (by rfl) ?_
      go_wp2_with (go_at_call 77; refine (Cm _).mono ?_; rintro e w4 ⟨rfl, he4⟩)
      have he5 := (Ext.refl wr).drew.trans he4
      refine ⟨he5, ?_⟩
      (try (repeat (first | (apply hw_read (by rfl) (by rfl); (· (intro W hW; (try dsimp only at hW); go_simp; (first | done | rfl | (rw [if_pos] <;> first | omega | rfl)))); (try simp only [Act.put, List.setIfInBounds_toArray, List.set_cons_zero, List.set_cons_succ])) | (refine hw_skip (by rfl) (by rfl) ?_; (try simp only [Act.put, List.setIfInBounds_toArray, List.set_cons_zero, List.set_cons_succ])))))
      (refine hw_nil ?_; (try simp only [List.drop_succ_cons, List.drop_zero]))
      go_wp2
      refine NoPanic.normal ?_
      (try dsimp only [Exit.then])
      (try go_wp2)
      go_roundw
      case rel => exact ⟨j + 1, by omega, by go_num, by go_num, he.trans he5⟩
      case measure => simp [intOf]; omega
    · have hjs : j = n := by omega
      subst hjs
      go_wp2
      go_ret
      exact ⟨rfl, he⟩
end Go.Sf
