/- The law FnMendAll, walked in the ghost's program. -/
import Derived.Test.YtphgnbjikgglmaaT192
set_option linter.all false
namespace Go.Sf
open Go Go.RowKit Go.Proofs Go.Maps
set_option maxRecDepth 8000 in
set_option maxHeartbeats 8000000 in
theorem FnMendAll_c {v : Value} {xs : List Int} (w : World) (h : Bys w v xs) (hl : xs.length ≤ 1048576) : Calls TryG.prog 6 #[v] w (RetG (fun u _ => u = .bool true) w) := by
  have Cd := DrawMendFrom_c w h
  obtain ⟨A, c, rfl, -⟩ := h
  have hl' : ¬ (1048576 : Int) < (xs.length : Int) := by omega
  go_enter TryG.func6, TryG.ntmps6
  go_wp2_with fail
  refine Cd.mono ?_
  rintro e w1 ⟨v1, v2, v3, l, cs, o, rfl, h1, h2, h3, he1⟩
  have HL : Hid (∀ W, Ext w1 W → Hds w.heap.size W v1 l) := Lib.hid fun W e => h1.ext e
  have HK : Hid (∀ W, Ext w1 W → Cks w.heap.size W v2 cs) := Lib.hid fun W e => h2.ext e
  have HO : Hid (∀ W, Ext w1 W → Hds w.heap.size W v3 o) := Lib.hid fun W e => h3.ext e
  clear Cd h1 h2 h3
  go_wp2_with fail
  refine (MendFrom_c w1 (HL.out _ (Ext.refl _)) (HK.out _ (Ext.refl _)) (HO.out _ (Ext.refl _))).mono ?_
  rintro e w2 (⟨r, rfl, hM, he2⟩ | hp)
  rotate_left
  · obtain ⟨⟨ch, rfl⟩, hp1, hp2⟩ := hp
    exact ⟨rfl, .inr ⟨⟨ch, rfl⟩, hp1, hp2⟩⟩
  cases hm : mendOf l cs o with
  | none =>
    rw [hm] at hM
    have hr : r = .tuple #[.slice none 0 0, .int .i64 0, .bool false] := hM
    subst hr
    clear hM
    go_wp2_with fail
    refine (specMendFrom_c w2 (HL.out _ he2) (HK.out _ he2) (HO.out _ he2)).mono ?_
    rintro e w3 ⟨r3, rfl, hS, he3⟩
    rw [hm] at hS
    obtain ⟨v9, rfl, hH9⟩ := hS
    simp only [Option.map_none, Option.getD_none, Option.isSome_none] at hH9 ⊢
    have Cs : Hid (∀ W, Ext w3 W → Calls TryG.prog 11 #[.slice none 0 0, v9] W (Ret (.bool true) W)) := Lib.hid fun W e => by
      have := laws_sameStore_c W (SlOf.nil 0 _ _ _ W : Hds 0 W (.slice none 0 0) []) (hH9.ext e)
      rw [show eqb ([] : List Hd) [] = true from eqb_true.2 rfl] at this
      exact this
    clear hm hH9
    go_wp2_with fail
    refine (Cs.out _ (Ext.refl _)).mono ?_
    rintro e w4 ⟨rfl, he4⟩
    go_wp2_with fail
    refine (Cs.out _ he4).mono ?_
    rintro e w5 ⟨rfl, he5⟩
    go_wp2
    go_ret
    exact .inl ⟨_, rfl, rfl, he1.trans (he2.trans (he3.trans (he4.trans he5)))⟩
  | some p =>
    obtain ⟨out, n⟩ := p
    rw [hm] at hM
    obtain ⟨v6, lu, rfl, hlu, hU, -, -⟩ := hM
    have hO6 := hU.plain
    rw [hlu] at hO6
    obtain ⟨hs, hos, hk, hout, hoe, hne⟩ := mendOf_some hm
    have HX : Hid (∀ W, Ext w2 W → Hds w1.heap.size W v6 out) := Lib.hid fun W e => hO6.ext e
    have Hs := Lib.hid hs; have Hos := Lib.hid hos; have Hk := Lib.hid hk; have Hout := Lib.hid hout; have Hoe := Lib.hid hoe; have Hne := Lib.hid hne
    have hnb : n ≤ 16 := by
      rw [hne]
      unfold mendN
      have := List.length_filter_le (mendAt o l) cs
      have := hk.1
      omega
    have hol : out.length = l.length := by rw [hoe]; exact mend_len o l cs
    clear hU hlu lu hs hos hk hout hoe hne
    go_wp2_with fail
    refine (specMendFrom_c w2 (HL.out _ he2) (HK.out _ he2) (HO.out _ he2)).mono ?_
    rintro e w3 ⟨r3, rfl, hS, he3⟩
    rw [hm] at hS
    obtain ⟨v9, rfl, hH9⟩ := hS
    simp only [Option.map_some, Option.getD_some, Option.isSome_some] at hH9 ⊢
    have Cs : Hid (∀ W, Ext w3 W → Calls TryG.prog 11 #[v6, v9] W (Ret (.bool true) W)) := Lib.hid fun W e => by
      have := laws_sameStore_c W (HX.out _ (he3.trans e)) (hH9.ext e)
      rw [show eqb out out = true from eqb_true.2 rfl] at this
      exact this
    clear hm hH9 hO6
    go_wp2_with fail
    refine (Cs.out _ (Ext.refl _)).mono ?_
    rintro e w4 ⟨rfl, he4⟩
    have E4 := he2.trans (he3.trans he4)
    have X4 := he3.trans he4
    clear Cs
    have hbo : Hid (badOf out cs = badL out cs) := Lib.hid (badOf_of Hout.out Hk.out)
    have hboo : Hid (badOf o cs = badL o cs) := Lib.hid (badOf_of Hos.out Hk.out)
    have hb16 : (badL out cs).length ≤ 16 := by
      have := badL_len out cs
      have := Hk.out.1
      omega
    go_wp2_with fail
    refine (ChecksBad_c w4 (HO.out _ E4) (HK.out _ E4)).mono ?_
    rintro e w5 (⟨r, rfl, hI, he5⟩ | hp)
    rotate_left
    · obtain ⟨⟨ch, rfl⟩, hp1, hp2⟩ := hp
      exact ⟨rfl, .inr ⟨⟨ch, rfl⟩, hp1, hp2⟩⟩
    rw [hboo.out] at hI
    obtain ⟨A5, c5, rfl, -⟩ := hI
    by_cases hz : (badL o cs).length = 0
    · have Hnil : Hid (badL o cs = []) := Lib.hid (List.length_eq_zero_iff.1 hz)
      rw [hz]
      clear hz
      go_wp2_with fail
      refine (ChecksBad_c w5 (HX.out _ (X4.trans he5)) (HK.out _ (E4.trans he5))).mono ?_
      rintro e w6 (⟨r, rfl, hI, he6⟩ | hp)
      rotate_left
      · obtain ⟨⟨ch, rfl⟩, hp1, hp2⟩ := hp
        exact ⟨rfl, .inr ⟨⟨ch, rfl⟩, hp1, hp2⟩⟩
      rw [hbo.out] at hI
      obtain ⟨A6, c6, rfl, hA6⟩ := hI
      have HA := Lib.hid hA6
      generalize hn6 : (badL out cs).length = nb at *
      have Hn := Lib.hid hn6
      have E6 := E4.trans (he5.trans he6)
      clear hA6 hn6
      go_wp2
      go_loopw [13] (fun i wr => ∃ k : Nat, k ≤ nb ∧ i = .int .i64 k ∧ Ext w6 wr) (fun i _ => nb - (RowKit.intOf i).toNat)
      case atStart => exact ⟨0, by omega, rfl, Ext.refl _⟩
      case round =>
        obtain ⟨k, hkn, rfl, he⟩ := hrel
        by_cases hlt : k < nb
        · obtain ⟨x, hx⟩ := get_of_lt (l := badL out cs) (k := k) (by rw [Hn.out]; exact hlt)
          obtain ⟨b2, o2, rfl, -, -, hxi, hc⟩ := Ints.at_ HA.out hx
          have q0 := hc wr he
          have hnone : findH out x = none := by
            have hmem := List.mem_of_getElem? hx
            rw [Hoe.out] at hmem ⊢
            exact mend_all Hk.out Hnil.out hmem
          have Cg := StoreGet_c x hxi wr (HX.out _ ((X4.trans (he5.trans he6)).trans he)) hnone
          clear hc hx hnone
          go_wp2_with (go_at_call 15; refine Cg.mono ?_; rintro e w7 ⟨r7, rfl, ⟨u7, rfl⟩, he7⟩)
          go_roundw
          case rel => exact ⟨k + 1, by omega, by go_num, he.trans he7⟩
          case measure => simp [RowKit.intOf]; omega
        · have hks : k = nb := by omega
          subst hks
          go_wp2
          go_ret
          exact .inl ⟨_, rfl, rfl, he1.trans (E6.trans he)⟩
    · have hz' : (0 : Int) < ((badL o cs).length : Int) := by omega
      generalize (badL o cs).length = nz at *
      clear hz
      go_wp2
      go_ret
      exact .inl ⟨_, rfl, rfl, he1.trans (E4.trans he5)⟩
set_option maxHeartbeats 1000000 in
theorem FnMendAll_big {A : Option Addr} {n c : Nat} (w : World) (h : 1048576 < n) (hn : n ≤ maxLen) : Calls TryG.prog 6 #[.slice A n c] w (Ret (.bool true) w) := by
  unfold maxLen at hn
  have h' : (1048576 : Int) < (n : Int) := by omega
  go_enter TryG.func6, TryG.ntmps6
  go_wp2
  go_ret
  exact ⟨rfl, Ext.refl _⟩
end Go.Sf
