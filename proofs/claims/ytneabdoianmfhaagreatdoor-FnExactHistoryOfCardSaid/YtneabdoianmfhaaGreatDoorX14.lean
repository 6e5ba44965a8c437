/- Turns are marked and held. -/
import Derived.Test.YtneabdoianmfhaaGreatDoorX13
import Derived.Test.YtneabdoianmfhaaGreatDoorT103
namespace Go.Sf
open Go Go.RowKit Go.Proofs
def mkTn (d : Int) : Tn := ⟨mt d, d + 1⟩
def mkTns (k : Int) (n : Nat) : List Tn := (List.range n).map fun i => mkTn (k + (2 * i : Nat))
theorem mkTns_len (k : Int) (n : Nat) : (mkTns k n).length = n := by simp [mkTns]
theorem mkTns_succ (k : Int) (n : Nat) : mkTns k (n + 1) = mkTns k n ++ [mkTn (k + (2 * n : Nat))] := by simp [mkTns, List.range_succ]
def OwnTn (u : Value) (xs : List Tn) (b : Nat) : Prop := u.ownBlock = some b ∧ xs ≠ []
theorem Tns.own {B : Nat} {w : World} {u : Value} {xs : List Tn} (h : Tns B w u xs) {b : Nat} (ho : OwnTn u xs b) : B ≤ b ∧ b < w.heap.size := by
  obtain ⟨A, c, rfl, hA⟩ := h
  obtain ⟨ho, hne⟩ := ho
  cases xs with
  | nil => exact absurd rfl hne
  | cons x xs =>
    obtain ⟨b', o, cs, rfl, h1, h2, -⟩ := hA.2.2.2 0 x rfl
    simp only [Value.ownBlock, Option.some.injEq] at ho
    subst ho
    exact ⟨h1, h2.lt⟩
set_option maxRecDepth 4000 in
set_option maxHeartbeats 1000000 in
theorem markTurnS_c {B : Nat} {u : Value} {xs : List Tn} {k : Int} (w : World) (h : Tns B w u xs) (h0 : 1 ≤ k) (h1 : k ≤ 1152921504606846976) :
    Calls Tryz.prog 22 #[u, .int .i64 k] w (RetM (OwnTn u xs) (.int .i64 (k + (2 * xs.length : Nat))) (fun w' => Tns B w' u (mkTns k xs.length)) w) := by
  obtain ⟨A, c, rfl, hA⟩ := h
  have hl := hA.2.2.1
  unfold lim at hl
  have hex : ∃ n, xs.length = n := ⟨_, rfl⟩
  obtain ⟨n, hn⟩ := hex
  rw [hn] at hl ⊢
  have Hn := Lib.hid hn
  have HA := Lib.hid hA
  clear hA hn
  go_enter Tryz.func22, Tryz.ntmps22
  go_wp2
  go_loopw [1, 5] (fun q i wr => ∃ (j : Nat) (d : Int), j ≤ n ∧ i = .int .i64 j ∧ q = .int .i64 d ∧ Hid (d = k + (2 * j : Nat)) ∧ Hid (SlIn B 125 2 (ETn B) wr A c (mkTns k j ++ xs.drop j)) ∧ Hid (Mod (OwnTn (Value.slice A n c) xs) w wr)) (fun _ i _ => n - (intOf i).toNat)
  case atStart => exact ⟨0, k, by omega, rfl, rfl, Lib.hid (by simp), Lib.hid (by simpa [mkTns] using HA.out), Lib.hid (Mod.refl _ _)⟩
  case round =>
    obtain ⟨j, d, hj, rfl, rfl, hd, hS, hM⟩ := hrel
    by_cases hlt : j < n
    · obtain ⟨x, hx⟩ := get_of_lt (l := xs) (k := j) (by rw [Hn.out]; exact hlt)
      have hL : (mkTns k j ++ xs.drop j)[j]? = some x := by
        rw [List.getElem?_append_right (by rw [mkTns_len]; exact Nat.le_refl _), mkTns_len, Nat.sub_self, List.getElem?_drop]; simpa using hx
      have hdb : 1 ≤ d ∧ d ≤ 1152921504606846976 + 8388608 := by have := hd.out; omega
      obtain ⟨hd1, hd2⟩ := hdb
      have Cm := markText_c d wr (by omega) (by omega)
      obtain ⟨b, o, cs, rfl, hB, hb, hE⟩ := hS.out.2.2.2 j x hL
      obtain ⟨hE0, -, hE1, -⟩ := hE
      have Hb := Lib.hid hb; have HL := Lib.hid hL; have Hx := Lib.hid hx
      have c0 := fun W (e : Ext wr W) => hb.at_ hE0 W e; have c1 := fun W (e : Ext wr W) => hb.at_ hE1 W e
      clear hb hE0 hE1 hL hx
      go_wp2_with (go_at_call 77; refine Cm.mono ?_; rintro e w1 ⟨rfl, he1⟩; have d0 := c0 _ he1; have d1 := c1 _ he1; have f0 := (Hb.out.ext he1).frozen (o + j * 2); have f1 := (Hb.out.ext he1).frozen (o + j * 2 + 1))
      have hS1 : SlIn B 125 2 (ETn B) w1 (some ⟨b, o, none⟩) c (mkTns k j ++ xs.drop j) := by
        obtain ⟨q1, q2, q3, q4⟩ := hS.out
        exact ⟨q1, q2, q3, fun i z hz => let ⟨b', o', cs', e1, e2, e3, e4⟩ := q4 i z hz; ⟨b', o', cs', e1, e2, e3.ext he1, e4⟩⟩
      have hup : Hid (SlIn B 125 2 (ETn B) ((w1.setCell ⟨b, o + j * 2, none⟩ (.string (mt d))).setCell ⟨b, o + j * 2 + 1, none⟩ (.int .i64 (d + 1))) (some ⟨b, o, none⟩) c (mkTns k (j + 1) ++ xs.drop (j + 1))) := Lib.hid (by
        have hdr := drop_cons Hx.out
        have e : mkTns k (j + 1) ++ xs.drop (j + 1) = (mkTns k j ++ xs.drop j).set j (mkTn d) := by
          rw [mkTns_succ, hdr, List.append_assoc, set_mid (mkTns_len k j), ← hd.out]; rfl
        rw [e]
        refine SlIn.upd hS1 HL.out fun cs2 hb2 he2 => ⟨_, (hb2.set_ (o + j * 2) (.string (mt d))).set_ (o + j * 2 + 1) (.int .i64 (d + 1)), ⟨?_, mt_size _, ?_, by unfold mkTn inI; simp only; omega⟩, fun i z hi hz hez => ⟨?_, hez.2.1, ?_, hez.2.2.2⟩⟩
        · have := (Array.getElem?_eq_some_iff.1 he2.1).1
          rw [Array.getElem?_setIfInBounds, if_neg (by omega), Array.getElem?_setIfInBounds, if_pos rfl, if_pos this]; rfl
        · have := (Array.getElem?_eq_some_iff.1 he2.2.2.1).1
          rw [Array.getElem?_setIfInBounds, if_pos rfl, if_pos (by rw [Array.size_setIfInBounds]; exact this)]; rfl
        · rw [Array.getElem?_setIfInBounds, if_neg (by omega), Array.getElem?_setIfInBounds, if_neg (by omega)]; exact hez.1
        · rw [Array.getElem?_setIfInBounds, if_neg (by omega), Array.getElem?_setIfInBounds, if_neg (by omega)]; exact hez.2.2.1)
      have hown : OwnTn (Value.slice (some ⟨b, o, none⟩) n c) xs b := ⟨rfl, fun e => by have := Hx.out; rw [e] at this; simp at this⟩
      have hM2 : Hid (Mod (OwnTn (Value.slice (some ⟨b, o, none⟩) n c) xs) w ((w1.setCell ⟨b, o + j * 2, none⟩ (.string (mt d))).setCell ⟨b, o + j * 2 + 1, none⟩ (.int .i64 (d + 1)))) := Lib.hid (((hM.out.trans (he1.mod _)).trans (Mod.set (S := OwnTn (Value.slice (some ⟨b, o, none⟩) n c) xs) (p := ⟨b, o + j * 2, none⟩) hown _)).trans (Mod.set (S := OwnTn (Value.slice (some ⟨b, o, none⟩) n c) xs) (p := ⟨b, o + j * 2 + 1, none⟩) hown _))
      clear hS1 hS hM Cm c0 c1
      (try go_wp2)
      go_roundw
      case rel => exact ⟨j + 1, d + 1 + 1, by omega, by go_num, by go_num, Lib.hid (by have := hd.out; omega), hup, hM2⟩
      case measure => simp [intOf]; omega
    · have hjs : j = n := by omega
      subst hjs
      have hS2 : Hid (SlIn B 125 2 (ETn B) wr A c (mkTns k j)) := Lib.hid (by have := hS.out; rwa [List.drop_eq_nil_of_le (by rw [Hn.out]; exact Nat.le_refl _), List.append_nil] at this)
      have hv : Hid (d = k + (2 * j : Nat)) := hd
      clear hS
      go_wp2
      go_ret
      exact ⟨ret_i hv.out, ⟨A, c, by rw [mkTns_len], hS2.out⟩, hM.out⟩
set_option maxRecDepth 4000 in
set_option maxHeartbeats 1000000 in
theorem heldTurnS_c {B : Nat} {u : Value} {n : Nat} {k : Int} (w : World) (h : Tns B w u (mkTns k n)) (h0 : 1 ≤ k) (h1 : k ≤ 1152921504606846976) : Calls Tryz.prog 23 #[u, .int .i64 k] w (Ret (.int .i64 (k + (2 * n : Nat))) w) := by
  obtain ⟨A, c, rfl, hA⟩ := h
  rw [mkTns_len]
  have hl := hA.2.2.1
  rw [mkTns_len] at hl
  unfold lim at hl
  have HA := Lib.hid hA; clear hA
  go_enter Tryz.func23, Tryz.ntmps23
  go_wp2
  go_loopw [1, 5] (fun q i wr => ∃ (j : Nat) (d : Int), j ≤ n ∧ i = .int .i64 j ∧ q = .int .i64 d ∧ Hid (d = k + (2 * j : Nat)) ∧ Ext w wr) (fun _ i _ => n - (intOf i).toNat)
  case atStart => exact ⟨0, k, by omega, rfl, rfl, Lib.hid (by simp), Ext.refl w⟩
  case round =>
    obtain ⟨j, d, hj, rfl, rfl, hd, he⟩ := hrel
    by_cases hlt : j < n
    · have hx : (mkTns k n)[j]? = some (mkTn d) := by simp [mkTns, hlt, hd.out]
      obtain ⟨b, o, cs, rfl, -, hb, hE0, -, hE1, -⟩ := HA.out.2.2.2 j _ hx
      have a0 := fun W (e : Ext wr W) => hb.at_ hE0 W (he.trans e); have a1 := fun W (e : Ext wr W) => hb.at_ hE1 W (he.trans e)
      have hdb : 1 ≤ d ∧ d ≤ 1152921504606846976 + 8388608 := by have := hd.out; omega
      obtain ⟨hd1, hd2⟩ := hdb
      have Cm := fun W => markText_c d W (by omega) (by omega)
      unfold mkTn at a0 a1
      simp only at a0 a1
      clear hb hE0 hE1 hx
      generalize mt d = s at *
      go_wp2
      refine wp_region_hold (fun W => Ext wr W) 7 [(0, true), (1, true), (2, true), (3, true), (4, true), (5, true), (6, false)] (by kernel_rfl) (by kernel_rfl) ?_ ?_
      · exact (Ext.refl _).drew
      (repeat (first | (apply hw_read (by rfl) (by rfl); (· (intro W hW; (try dsimp only at hW); go_simp; (first | done | rfl | (rw [if_pos] <;> first | omega | rfl)))); (try simp only [Act.put, List.setIfInBounds_toArray, List.set_cons_zero, List.set_cons_succ])) | (refine hw_skip (by rfl) (by rfl) ?_; (try simp only [Act.put, List.setIfInBounds_toArray, List.set_cons_zero, List.set_cons_succ]))))
      refine hw_step (by rfl) ?_
      go_wp2_with (go_at_call 77; refine (Cm _).mono ?_; rintro e w4 ⟨rfl, he4⟩)
      have he5 := (Ext.refl wr).drew.trans he4
      have z1 := a1 w4 he5
      refine ⟨he5, ?_⟩
      (try (repeat (first | (apply hw_read (by rfl) (by rfl); (· (intro W hW; (try dsimp only at hW); go_simp; (first | done | rfl | (rw [if_pos] <;> first | omega | rfl)))); (try simp only [Act.put, List.setIfInBounds_toArray, List.set_cons_zero, List.set_cons_succ])) | (refine hw_skip (by rfl) (by rfl) ?_; (try simp only [Act.put, List.setIfInBounds_toArray, List.set_cons_zero, List.set_cons_succ])))))
      (refine hw_nil ?_; (try simp only [List.drop_succ_cons, List.drop_zero]))
      go_wp2
      refine NoPanic.normal ?_
      (try dsimp only [Exit.then])
      (try go_wp2)
      go_roundw
      case rel => exact ⟨j + 1, d + 1 + 1, by omega, by go_num, by go_num, Lib.hid (by have := hd.out; omega), he.trans he5⟩
      case measure => simp [intOf]; omega
    · have hjs : j = n := by omega
      subst hjs
      have hv : Hid (d = k + (2 * j : Nat)) := hd
      go_wp2
      go_ret
      exact ⟨ret_i hv.out, he⟩
end Go.Sf
