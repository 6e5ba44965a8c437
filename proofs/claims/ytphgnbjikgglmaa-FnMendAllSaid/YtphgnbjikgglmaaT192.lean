/- The laws on mending, walked in the ghost's program. -/
import Derived.Test.YtphgnbjikgglmaaTA
import Derived.Test.YtphgnbjikgglmaaTB
import Derived.Test.YtphgnbjikgglmaaTC
import Derived.Test.YtphgnbjikgglmaaTD
set_option linter.all false
namespace Go.Sf
open Go Go.RowKit Go.Proofs Go.Maps
set_option maxRecDepth 4000 in
set_option maxHeartbeats 4000000 in
theorem StoreGet_c {B : Nat} {v : Value} {l : List Hd} (i : Int) (hi : inI i) (w : World) (h : Hds B w v l) (hf : findH l i = none) : Calls TryG.prog 15 #[v, .int .i64 i] w (RetP (fun r _ => ∃ u, r = .tuple #[u, .bool false]) w) := by
  have Co := openStore_c w h
  clear h
  go_enter TryG.func15, TryG.ntmps15
  go_wp2_with fail
  refine Co.mono ?_
  rintro e w1 ⟨he1, ⟨hs1, rfl⟩ | ⟨hs1, b, rfl, hSt, hbB⟩⟩
  · clear Co hs1 hf
    go_wp2
    go_ret2
    exact ⟨_, rfl, ⟨_, rfl⟩, he1⟩
  · obtain ⟨M, hV, hM⟩ := hSt
    have hr := (hM i).1 hf
    have hkey := keyI hi
    clear Co hs1 hf hM
    go_wp2_with (at_lookup; refine wp_mlook_ok_none rfl _ _ rfl lawI underStore (zeroHd _) rfl hV _ _ rfl hkey hr ?_)
    go_ret2
    exact ⟨_, rfl, ⟨_, rfl⟩, he1.alloc _⟩
set_option maxRecDepth 8000 in
set_option maxHeartbeats 8000000 in
theorem FnMendTwice_c {v : Value} {xs : List Int} (w : World) (h : Bys w v xs) (hl : xs.length ≤ 1048576) : Calls TryG.prog 3 #[v] w (RetG (fun u _ => u = .bool true) w) := by
  have Cd := DrawMendFrom_c w h
  obtain ⟨A, c, rfl, -⟩ := h
  have hl' : ¬ (1048576 : Int) < (xs.length : Int) := by omega
  go_enter TryG.func3, TryG.ntmps3
  go_wp2_with fail
  refine Cd.mono ?_
  rintro e w1 ⟨v1, v2, v3, l, cs, o, rfl, h1, h2, h3, he1⟩
  have HL : Hid (∀ W, Ext w1 W → Hds w.heap.size W v1 l) := Lib.hid fun W e => h1.ext e
  have HK : Hid (∀ W, Ext w1 W → Cks w.heap.size W v2 cs) := Lib.hid fun W e => h2.ext e
  have HO : Hid (∀ W, Ext w1 W → Hds w.heap.size W v3 o) := Lib.hid fun W e => h3.ext e
  clear Cd h1 h2 h3
  go_wp2_with fail
  refine (MendFrom_c w1 (HL.out _ (Ext.refl _)) (HK.out _ (Ext.refl _)) (HO.out _ (Ext.refl _))).mono ?_
  rintro e w2 (⟨r, rfl, hM, he2⟩ | hp)
  rotate_left
  · obtain ⟨⟨ch, rfl⟩, hp1, hp2⟩ := hp
    exact ⟨rfl, .inr ⟨⟨ch, rfl⟩, hp1, hp2⟩⟩
  cases hm : mendOf l cs o with
  | none =>
    rw [hm] at hM
    have hr : r = .tuple #[.slice none 0 0, .int .i64 0, .bool false] := hM
    subst hr
    clear hM
    go_wp2_with fail
    refine (specMendFrom_c w2 (HL.out _ he2) (HK.out _ he2) (HO.out _ he2)).mono ?_
    rintro e w3 ⟨r3, rfl, hS, he3⟩
    rw [hm] at hS
    obtain ⟨v9, rfl, hH9⟩ := hS
    simp only [Option.map_none, Option.getD_none, Option.isSome_none] at hH9 ⊢
    have Cs : Hid (∀ W, Ext w3 W → Calls TryG.prog 11 #[.slice none 0 0, v9] W (Ret (.bool true) W)) := Lib.hid fun W e => by
      have := laws_sameStore_c W (SlOf.nil 0 _ _ _ W : Hds 0 W (.slice none 0 0) []) (hH9.ext e)
      rw [show eqb ([] : List Hd) [] = true from eqb_true.2 rfl] at this
      exact this
    clear hm hH9
    go_wp2_with fail
    refine (Cs.out _ (Ext.refl _)).mono ?_
    rintro e w4 ⟨rfl, he4⟩
    go_wp2_with fail
    refine (Cs.out _ he4).mono ?_
    rintro e w5 ⟨rfl, he5⟩
    go_wp2
    go_ret
    exact .inl ⟨_, rfl, rfl, he1.trans (he2.trans (he3.trans (he4.trans he5)))⟩
  | some p =>
    obtain ⟨out, n⟩ := p
    rw [hm] at hM
    obtain ⟨v6, lu, rfl, hlu, hU, -, -⟩ := hM
    have hO6 := hU.plain
    rw [hlu] at hO6
    obtain ⟨hs, hos, hk, hout, hoe, hne⟩ := mendOf_some hm
    have HX : Hid (∀ W, Ext w2 W → Hds w1.heap.size W v6 out) := Lib.hid fun W e => hO6.ext e
    have Hs := Lib.hid hs; have Hos := Lib.hid hos; have Hk := Lib.hid hk; have Hout := Lib.hid hout; have Hoe := Lib.hid hoe; have Hne := Lib.hid hne
    have hnb : n ≤ 16 := by
      rw [hne]
      unfold mendN
      have := List.length_filter_le (mendAt o l) cs
      have := hk.1
      omega
    have hol : out.length = l.length := by rw [hoe]; exact mend_len o l cs
    clear hU hlu lu hs hos hk hout hoe hne
    go_wp2_with fail
    refine (specMendFrom_c w2 (HL.out _ he2) (HK.out _ he2) (HO.out _ he2)).mono ?_
    rintro e w3 ⟨r3, rfl, hS, he3⟩
    rw [hm] at hS
    obtain ⟨v9, rfl, hH9⟩ := hS
    simp only [Option.map_some, Option.getD_some, Option.isSome_some] at hH9 ⊢
    have Cs : Hid (∀ W, Ext w3 W → Calls TryG.prog 11 #[v6, v9] W (Ret (.bool true) W)) := Lib.hid fun W e => by
      have := laws_sameStore_c W (HX.out _ (he3.trans e)) (hH9.ext e)
      rw [show eqb out out = true from eqb_true.2 rfl] at this
      exact this
    clear hm hH9 hO6
    go_wp2_with fail
    refine (Cs.out _ (Ext.refl _)).mono ?_
    rintro e w4 ⟨rfl, he4⟩
    have E4 := he2.trans (he3.trans he4)
    have X4 := he3.trans he4
    clear Cs
    have hm2 : Hid (mendOf out cs o = some (out, 0)) := Lib.hid (by
      have q := mend_none (o := o) Hout.out Hk.out (by rw [Hoe.out]; exact mend_twice Hk.out)
      have := mendOf_of Hout.out Hos.out Hk.out (by rw [q.1]; exact Hout.out)
      rw [q.1, q.2] at this
      exact this)
    have hm3 : Hid (mendOf l cs l = some (l, 0)) := Lib.hid (by
      have q := mend_none (o := l) Hs.out Hk.out fun c _ => mend_self l c
      have := mendOf_of Hs.out Hs.out Hk.out (by rw [q.1]; exact Hs.out)
      rw [q.1, q.2] at this
      exact this)
    go_wp2_with fail
    refine (MendFrom_c w4 (HX.out _ X4) (HK.out _ E4) (HO.out _ E4)).mono ?_
    rintro e w5 (⟨r, rfl, hM, he5⟩ | hp)
    rotate_left
    · obtain ⟨⟨ch, rfl⟩, hp1, hp2⟩ := hp
      exact ⟨rfl, .inr ⟨⟨ch, rfl⟩, hp1, hp2⟩⟩
    rw [hm2.out] at hM
    obtain ⟨v12, lu, rfl, hlu, hU, -, -⟩ := hM
    have hO12 := hU.plain
    rw [hlu] at hO12
    have H12 : Hid (∀ W, Ext w5 W → Hds w4.heap.size W v12 out) := Lib.hid fun W e => hO12.ext e
    clear hU hlu lu hO12
    go_wp2_with fail
    refine (MendFrom_c w5 (HL.out _ (E4.trans he5)) (HK.out _ (E4.trans he5)) (HL.out _ (E4.trans he5))).mono ?_
    rintro e w6 (⟨r, rfl, hM, he6⟩ | hp)
    rotate_left
    · obtain ⟨⟨ch, rfl⟩, hp1, hp2⟩ := hp
      exact ⟨rfl, .inr ⟨⟨ch, rfl⟩, hp1, hp2⟩⟩
    rw [hm3.out] at hM
    obtain ⟨v15, lu, rfl, hlu, hU, -, -⟩ := hM
    have hO15 := hU.plain
    rw [hlu] at hO15
    have Ca : ∀ W, Ext w6 W → Calls TryG.prog 11 #[v12, v6] W (Ret (.bool true) W) := fun W e => by
      have := laws_sameStore_c W (H12.out _ (he6.trans e)) (HX.out _ ((X4.trans he5).trans (he6.trans e)))
      rw [show eqb out out = true from eqb_true.2 rfl] at this
      exact this
    have Cb : ∀ W, Ext w6 W → Calls TryG.prog 11 #[v15, v1] W (Ret (.bool true) W) := fun W e => by
      have := laws_sameStore_c W (hO15.ext e) (HL.out _ ((E4.trans he5).trans (he6.trans e)))
      rw [show eqb l l = true from eqb_true.2 rfl] at this
      exact this
    clear hU hlu lu hO15
    go_wp2_with fail
    refine (Ca _ (Ext.refl _)).mono ?_
    rintro e w7 ⟨rfl, he7⟩
    go_wp2_with fail
    refine (Cb _ he7).mono ?_
    rintro e w8 ⟨rfl, he8⟩
    go_wp2
    go_ret
    exact .inl ⟨_, rfl, rfl, he1.trans (E4.trans (he5.trans (he6.trans (he7.trans he8))))⟩
set_option maxHeartbeats 1000000 in
theorem FnMendTwice_big {A : Option Addr} {n c : Nat} (w : World) (h : 1048576 < n) (hn : n ≤ maxLen) : Calls TryG.prog 3 #[.slice A n c] w (Ret (.bool true) w) := by
  unfold maxLen at hn
  have h' : (1048576 : Int) < (n : Int) := by omega
  go_enter TryG.func3, TryG.ntmps3
  go_wp2
  go_ret
  exact ⟨rfl, Ext.refl _⟩
end Go.Sf
