/- The law FnMendOthers, walked in the ghost's program. -/
import Derived.Test.YtphgnbjikgglmaaT192
set_option linter.all false
namespace Go.Sf
open Go Go.RowKit Go.Proofs Go.Maps
set_option maxRecDepth 8000 in
set_option maxHeartbeats 8000000 in
theorem FnMendOthers_c {v : Value} {xs : List Int} (w : World) (h : Bys w v xs) (hl : xs.length ≤ 1048576) : Calls TryG.prog 5 #[v] w (RetG (fun u _ => u = .bool true) w) := by
  have Cd := DrawMendFrom_c w h
  obtain ⟨A, c, rfl, -⟩ := h
  have hl' : ¬ (1048576 : Int) < (xs.length : Int) := by omega
  go_enter TryG.func5, TryG.ntmps5
  go_wp2_with fail
  refine Cd.mono ?_
  rintro e w1 ⟨v1, v2, v3, l, cs, o, rfl, h1, h2, h3, he1⟩
  have HL : Hid (∀ W, Ext w1 W → Hds w.heap.size W v1 l) := Lib.hid fun W e => h1.ext e
  have HK : Hid (∀ W, Ext w1 W → Cks w.heap.size W v2 cs) := Lib.hid fun W e => h2.ext e
  have HO : Hid (∀ W, Ext w1 W → Hds w.heap.size W v3 o) := Lib.hid fun W e => h3.ext e
  clear Cd h1 h2 h3
  go_wp2_with fail
  refine (MendFrom_c w1 (HL.out _ (Ext.refl _)) (HK.out _ (Ext.refl _)) (HO.out _ (Ext.refl _))).mono ?_
  rintro e w2 (⟨r, rfl, hM, he2⟩ | hp)
  rotate_left
  · obtain ⟨⟨ch, rfl⟩, hp1, hp2⟩ := hp
    exact ⟨rfl, .inr ⟨⟨ch, rfl⟩, hp1, hp2⟩⟩
  cases hm : mendOf l cs o with
  | none =>
    rw [hm] at hM
    have hr : r = .tuple #[.slice none 0 0, .int .i64 0, .bool false] := hM
    subst hr
    clear hM
    go_wp2_with fail
    refine (specMendFrom_c w2 (HL.out _ he2) (HK.out _ he2) (HO.out _ he2)).mono ?_
    rintro e w3 ⟨r3, rfl, hS, he3⟩
    rw [hm] at hS
    obtain ⟨v9, rfl, hH9⟩ := hS
    simp only [Option.map_none, Option.getD_none, Option.isSome_none] at hH9 ⊢
    have Cs : Hid (∀ W, Ext w3 W → Calls TryG.prog 11 #[.slice none 0 0, v9] W (Ret (.bool true) W)) := Lib.hid fun W e => by
      have := laws_sameStore_c W (SlOf.nil 0 _ _ _ W : Hds 0 W (.slice none 0 0) []) (hH9.ext e)
      rw [show eqb ([] : List Hd) [] = true from eqb_true.2 rfl] at this
      exact this
    clear hm hH9
    go_wp2_with fail
    refine (Cs.out _ (Ext.refl _)).mono ?_
    rintro e w4 ⟨rfl, he4⟩
    go_wp2_with fail
    refine (Cs.out _ he4).mono ?_
    rintro e w5 ⟨rfl, he5⟩
    go_wp2
    go_ret
    exact .inl ⟨_, rfl, rfl, he1.trans (he2.trans (he3.trans (he4.trans he5)))⟩
  | some p =>
    obtain ⟨out, n⟩ := p
    rw [hm] at hM
    obtain ⟨v6, lu, rfl, hlu, hU, -, -⟩ := hM
    have hO6 := hU.plain
    rw [hlu] at hO6
    obtain ⟨hs, hos, hk, hout, hoe, hne⟩ := mendOf_some hm
    have HX : Hid (∀ W, Ext w2 W → Hds w1.heap.size W v6 out) := Lib.hid fun W e => hO6.ext e
    have Hs := Lib.hid hs; have Hos := Lib.hid hos; have Hk := Lib.hid hk; have Hout := Lib.hid hout; have Hoe := Lib.hid hoe; have Hne := Lib.hid hne
    have hnb : n ≤ 16 := by
      rw [hne]
      unfold mendN
      have := List.length_filter_le (mendAt o l) cs
      have := hk.1
      omega
    have hol : out.length = l.length := by rw [hoe]; exact mend_len o l cs
    clear hU hlu lu hs hos hk hout hoe hne
    go_wp2_with fail
    refine (specMendFrom_c w2 (HL.out _ he2) (HK.out _ he2) (HO.out _ he2)).mono ?_
    rintro e w3 ⟨r3, rfl, hS, he3⟩
    rw [hm] at hS
    obtain ⟨v9, rfl, hH9⟩ := hS
    simp only [Option.map_some, Option.getD_some, Option.isSome_some] at hH9 ⊢
    have Cs : Hid (∀ W, Ext w3 W → Calls TryG.prog 11 #[v6, v9] W (Ret (.bool true) W)) := Lib.hid fun W e => by
      have := laws_sameStore_c W (HX.out _ (he3.trans e)) (hH9.ext e)
      rw [show eqb out out = true from eqb_true.2 rfl] at this
      exact this
    clear hm hH9 hO6
    go_wp2_with fail
    refine (Cs.out _ (Ext.refl _)).mono ?_
    rintro e w4 ⟨rfl, he4⟩
    have E4 := he2.trans (he3.trans he4)
    have X4 := he3.trans he4
    clear Cs
    have hbl : Hid (badOf l cs = badL l cs) := Lib.hid (badOf_of Hs.out Hk.out)
    have hb16 : (badL l cs).length ≤ 16 := by
      have := badL_len l cs
      have := Hk.out.1
      omega
    have hl16 := Hs.out.1
    go_wp2_with fail
    refine (ChecksBad_c w4 (HL.out _ E4) (HK.out _ E4)).mono ?_
    rintro e w5 (⟨r, rfl, hI, he5⟩ | hp)
    rotate_left
    · obtain ⟨⟨ch, rfl⟩, hp1, hp2⟩ := hp
      exact ⟨rfl, .inr ⟨⟨ch, rfl⟩, hp1, hp2⟩⟩
    rw [hbl.out] at hI
    obtain ⟨A5, c5, rfl, hA5⟩ := hI
    have HA := Lib.hid hA5
    have E5 := E4.trans he5
    obtain ⟨Al, cl, rfl, hAl⟩ := HL.out w5 E5
    obtain ⟨Ao, co, rfl, hAo⟩ := HX.out w5 (X4.trans he5)
    have HAl := Lib.hid hAl; have HAo := Lib.hid hAo
    generalize hnb' : (badL l cs).length = nb at *
    have Hnb := Lib.hid hnb'
    rw [hol]
    generalize hln : l.length = m at *
    have Hln := Lib.hid hln; have Hol := Lib.hid hol
    clear hA5 hAl hAo hnb' hln hol
    go_wp2
    go_loopw [13] (fun i wr => ∃ k : Nat, k ≤ m ∧ i = .int .i64 k ∧ Ext w5 wr) (fun i _ => m - (RowKit.intOf i).toNat)
    case atStart => exact ⟨0, by omega, rfl, Ext.refl _⟩
    case round =>
      obtain ⟨k, hkn, rfl, he⟩ := hrel
      by_cases hlt : k < m
      · have hlt' : (k : Int) < (m : Int) := by omega
        obtain ⟨x, hx⟩ := get_of_lt (l := l) (k := k) (by rw [Hln.out]; exact hlt)
        have hy : out[k]? = some (mdH o cs x) := by
          rw [Hoe.out]
          unfold mendL
          rw [List.getElem?_map, hx]
          rfl
        have hyid := mdH_id o cs x
        have hyus := mdH_uses o cs x
        have Hsame : Hid (x.id ∉ badL l cs → mdH o cs x = x) := Lib.hid fun hb => mend_others Hs.out hx hb
        generalize mdH o cs x = y at *
        obtain ⟨b1, o1, u1, rfl, -, -, -, hu1, -, l0, l1, l2⟩ := Hds.at_ HAl.out hx
        obtain ⟨b2, o2, u2, rfl, -, -, -, hu2, -, r0, r1, r2⟩ := Hds.at_ HAo.out hy
        rw [hyid] at r0
        rw [hyus] at r2
        have p0 := fun W (e : Ext wr W) => l0 W (he.trans e)
        have p1 := fun W (e : Ext wr W) => l1 W (he.trans e)
        have p2 := fun W (e : Ext wr W) => l2 W (he.trans e)
        have q0 := fun W (e : Ext wr W) => r0 W (he.trans e)
        have q1 := fun W (e : Ext wr W) => r1 W (he.trans e)
        have q2 := fun W (e : Ext wr W) => r2 W (he.trans e)
        have HP0 := Lib.hid p0; have HP1 := Lib.hid p1; have HP2 := Lib.hid p2; have HQ0 := Lib.hid q0; have HQ1 := Lib.hid q1; have HQ2 := Lib.hid q2
        have CI : Hid (y = x → ∀ W, Ext wr W → Calls TryG.prog 14 #[u2, u1] W (Ret (.bool true) W)) := Lib.hid fun hyx W e => by
          have := laws_sameInts_c W (hu2.ext (he.trans e)) (hu1.ext (he.trans e))
          rw [hyx, show eqb x.bytes x.bytes = true from eqb_true.2 rfl] at this
          exact this
        generalize x.id = xi at *
        generalize x.uses = xu at *
        clear l0 l1 l2 r0 r1 r2 hx hy hyid hyus p0 p1 p2 q0 q1 q2 hu1 hu2
        generalize wr = wo at *
        go_wp2
        go_loopw [14, 15] (fun s j wr => ∃ jj : Nat, jj ≤ nb ∧ j = .int .i64 jj ∧ s = .bool (((badL l cs).take jj).all fun b => !eqb b xi) ∧ Ext wo wr) (fun _ j _ => nb - (RowKit.intOf j).toNat)
        case atStart => exact ⟨0, by omega, rfl, rfl, Ext.refl _⟩
        case round =>
          obtain ⟨jj, hjn, rfl, rfl, he'⟩ := hrel
          by_cases hjl : jj < nb
          · have hjl' : (jj : Int) < (nb : Int) := by omega
            obtain ⟨z, hz⟩ := get_of_lt (l := badL l cs) (k := jj) (by rw [Hnb.out]; exact hjl)
            obtain ⟨b3, o3, rfl, -, -, -, hzc⟩ := Ints.at_ HA.out hz
            have z0 := fun W (e : Ext wr W) => hzc W ((he.trans he').trans e)
            have p0 := fun W (e : Ext wr W) => HP0.out W (he'.trans e)
            have Hnext : Hid ((((badL l cs).take (jj + 1)).all fun b => !eqb b xi) = ((((badL l cs).take jj).all fun b => !eqb b xi) && !eqb z xi)) := Lib.hid (by
              rw [List.take_add_one, hz, Option.toList_some, List.all_append]; simp)
            cases hs : ((badL l cs).take jj).all fun b => !eqb b xi with
            | false =>
              simp only [hs] at Hnext
              clear hs hz hzc
              go_wp2
              refine wp_region_ext (by kernel_rfl) (by kernel_rfl) ?_
              repeat (first | (apply q_plain rfl; (· intro W eW; go_simp; (first | done | rfl | (rw [if_pos] <;> first | omega | rfl))); (try simp only [Act.put, List.setIfInBounds_toArray, List.set_cons_zero, List.set_cons_succ])) | (refine qg_skip (by rfl) ?_; (try simp only [Act.put, List.setIfInBounds_toArray, List.set_cons_zero, List.set_cons_succ])) | (apply qg_plain (by rfl); (· intro W eW; go_simp; (first | done | rfl | (rw [if_pos] <;> first | omega | rfl))); (try simp only [Act.put, List.setIfInBounds_toArray, List.set_cons_zero, List.set_cons_succ])))
              refine q_nil ?_
              intro w7 e7
              clear z0 p0
              go_wp2
              go_roundw
              case rel => exact ⟨jj + 1, by omega, by go_num, by rw [Hnext.out]; rfl, he'.trans e7⟩
              case measure => simp [RowKit.intOf]; omega
            | true =>
              simp only [hs] at Hnext
              have hne : (z != xi) = !eqb z xi := rfl
              cases hq : eqb z xi with
              | false =>
                simp only [hq] at Hnext hne
                clear hs hz hzc hq
                go_wp2
                refine wp_region_ext (by kernel_rfl) (by kernel_rfl) ?_
                repeat (first | (apply q_plain rfl; (· intro W eW; go_simp; (first | done | rfl | (rw [if_pos] <;> first | omega | rfl))); (try simp only [Act.put, List.setIfInBounds_toArray, List.set_cons_zero, List.set_cons_succ])) | (refine qg_skip (by rfl) ?_; (try simp only [Act.put, List.setIfInBounds_toArray, List.set_cons_zero, List.set_cons_succ])) | (apply qg_plain (by rfl); (· intro W eW; go_simp; (first | done | rfl | (rw [if_pos] <;> first | omega | rfl))); (try simp only [Act.put, List.setIfInBounds_toArray, List.set_cons_zero, List.set_cons_succ])))
                refine q_nil ?_
                intro w7 e7
                clear z0 p0
                go_wp2
                go_roundw
                case rel => exact ⟨jj + 1, by omega, by go_num, by rw [Hnext.out]; rfl, he'.trans e7⟩
                case measure => simp [RowKit.intOf]; omega
              | true =>
                simp only [hq] at Hnext hne
                clear hs hz hzc hq
                go_wp2
                refine wp_region_ext (by kernel_rfl) (by kernel_rfl) ?_
                repeat (first | (apply q_plain rfl; (· intro W eW; go_simp; (first | done | rfl | (rw [if_pos] <;> first | omega | rfl))); (try simp only [Act.put, List.setIfInBounds_toArray, List.set_cons_zero, List.set_cons_succ])) | (refine qg_skip (by rfl) ?_; (try simp only [Act.put, List.setIfInBounds_toArray, List.set_cons_zero, List.set_cons_succ])) | (apply qg_plain (by rfl); (· intro W eW; go_simp; (first | done | rfl | (rw [if_pos] <;> first | omega | rfl))); (try simp only [Act.put, List.setIfInBounds_toArray, List.set_cons_zero, List.set_cons_succ])))
                refine q_nil ?_
                intro w7 e7
                clear z0 p0
                go_wp2
                go_roundw
                case rel => exact ⟨jj + 1, by omega, by go_num, by rw [Hnext.out]; rfl, he'.trans e7⟩
                case measure => simp [RowKit.intOf]; omega
          · have hjs : jj = nb := by omega
            subst hjs
            have htk : (badL l cs).take jj = badL l cs := List.take_of_length_le (by rw [Hnb.out]; exact Nat.le_refl _)
            rw [htk]
            have E7 := he.trans he'
            have p0 := fun W (e : Ext wr W) => HP0.out W (he'.trans e)
            have p1 := fun W (e : Ext wr W) => HP1.out W (he'.trans e)
            have p2 := fun W (e : Ext wr W) => HP2.out W (he'.trans e)
            have q0 := fun W (e : Ext wr W) => HQ0.out W (he'.trans e)
            have q1 := fun W (e : Ext wr W) => HQ1.out W (he'.trans e)
            have q2 := fun W (e : Ext wr W) => HQ2.out W (he'.trans e)
            have hxx : (xi != xi) = false := by simp
            have huu : (xu != xu) = false := by simp
            clear htk
            cases hs : (badL l cs).all fun b => !eqb b xi with
            | false =>
              clear hs
              go_wp2
              refine wp_region_ext (by kernel_rfl) (by kernel_rfl) ?_
              repeat (first | (apply q_plain rfl; (· intro W eW; go_simp; (first | done | rfl | (rw [if_pos] <;> first | omega | rfl))); (try simp only [Act.put, List.setIfInBounds_toArray, List.set_cons_zero, List.set_cons_succ])) | (refine qg_skip (by rfl) ?_; (try simp only [Act.put, List.setIfInBounds_toArray, List.set_cons_zero, List.set_cons_succ])) | (apply qg_plain (by rfl); (· intro W eW; go_simp; (first | done | rfl | (rw [if_pos] <;> first | omega | rfl))); (try simp only [Act.put, List.setIfInBounds_toArray, List.set_cons_zero, List.set_cons_succ])))
              refine q_nil ?_
              intro w8 e8
              clear p0 p1 p2 q0 q1 q2
              go_wp2
              go_roundw
              case rel => exact ⟨k + 1, by omega, by go_num, E7.trans e8⟩
              case measure => simp [RowKit.intOf]; omega
            | true =>
              have hyx : y = x := Hsame.out fun hmem => by
                rw [List.all_eq_true] at hs
                have := hs xi hmem
                rw [eqb_true.2 rfl] at this
                cases this
              have Ci := fun W (e : Ext wr W) => CI.out hyx W (he'.trans e)
              clear hs hyx
              go_wp2
              refine wp_region_ext (by kernel_rfl) (by kernel_rfl) ?_
              repeat (first | (apply q_plain rfl; (· intro W eW; go_simp; (first | done | rfl | (rw [if_pos] <;> first | omega | rfl))); (try simp only [Act.put, List.setIfInBounds_toArray, List.set_cons_zero, List.set_cons_succ])) | (refine qg_skip (by rfl) ?_; (try simp only [Act.put, List.setIfInBounds_toArray, List.set_cons_zero, List.set_cons_succ])) | (apply qg_plain (by rfl); (· intro W eW; go_simp; (first | done | rfl | (rw [if_pos] <;> first | omega | rfl))); (try simp only [Act.put, List.setIfInBounds_toArray, List.set_cons_zero, List.set_cons_succ])))
              ((first | apply q_call rfl | apply qg_call (by rfl)); (· intro W eW; go_simp; (first | done | (constructor <;> rfl))); (· intro W eW; exact Ci _ (by assumption)); (try simp only [Act.put, List.setIfInBounds_toArray, List.set_cons_zero, List.set_cons_succ]))
              repeat (first | (apply q_plain rfl; (· intro W eW; go_simp; (first | done | rfl | (rw [if_pos] <;> first | omega | rfl))); (try simp only [Act.put, List.setIfInBounds_toArray, List.set_cons_zero, List.set_cons_succ])) | (refine qg_skip (by rfl) ?_; (try simp only [Act.put, List.setIfInBounds_toArray, List.set_cons_zero, List.set_cons_succ])) | (apply qg_plain (by rfl); (· intro W eW; go_simp; (first | done | rfl | (rw [if_pos] <;> first | omega | rfl))); (try simp only [Act.put, List.setIfInBounds_toArray, List.set_cons_zero, List.set_cons_succ])))
              refine q_nil ?_
              intro w8 e8
              clear p0 p1 p2 q0 q1 q2 Ci
              go_wp2
              go_roundw
              case rel => exact ⟨k + 1, by omega, by go_num, E7.trans e8⟩
              case measure => simp [RowKit.intOf]; omega
      · have hks : k = m := by omega
        subst hks
        go_wp2
        go_ret
        exact .inl ⟨_, rfl, by simp, he1.trans (E5.trans he)⟩
set_option maxHeartbeats 1000000 in
theorem FnMendOthers_big {A : Option Addr} {n c : Nat} (w : World) (h : 1048576 < n) (hn : n ≤ maxLen) : Calls TryG.prog 5 #[.slice A n c] w (Ret (.bool true) w) := by
  unfold maxLen at hn
  have h' : (1048576 : Int) < (n : Int) := by omega
  go_enter TryG.func5, TryG.ntmps5
  go_wp2
  go_ret
  exact ⟨rfl, Ext.refl _⟩
end Go.Sf
