/- Is an item valid by itself? -/
import Derived.Test.YtfpkllihfcgmaaaDoorT9
import Derived.Test.YtfpkllihfcgmaaaDoorP5
namespace Go.Sf
open Go Go.RowKit Go.Proofs
theorem itemOk_ids {x : It} (h1 : pathOk x.path = true) (h2 : x.ids.length ≤ 4) (h3 : x.dir = false ∨ x.ids = []) : itemOk x = x.ids.all fun i => inB i 1 99 := by
  have : idsOk x = x.ids.all fun i => inB i 1 99 := by
    unfold idsOk
    rcases h3 with h | h
    · simp [h]
    · simp [h]
  rw [itemOk, this, h1]; simp [h2]
set_option maxHeartbeats 2000000 in
theorem itemValid_c {B : Nat} {v : Value} {x : It} (w : World) (h : ItV B w v x) (hm : ML w) : Calls Tryd.prog 46 #[v] w (Ret (.bool (itemOk x)) w) := by
  obtain ⟨u2, rfl, hps, hI⟩ := h
  have he : Ext w (w.alloc (.cells #[.string x.path, .bool x.dir, u2] 35)) := (Ext.refl w).alloc _
  have Cp : ∀ W, Ext w W → Calls Tryd.prog 59 #[.string x.path] W (Ret (.bool (pathOk x.path)) W) := fun W e => PathValid_c _ _ hps (hm.ext e)
  have hl := hI.len
  unfold lim at hl
  obtain ⟨A, c, rfl, hA⟩ := hI
  have hbk := Blk.new w 35 #[.string x.path, .bool x.dir, .slice A x.ids.length c]
  have b0 := fun W (e : Ext _ W) => hbk.at_ (i := 0) (u := .string x.path) rfl W e
  have b1 := fun W (e : Ext _ W) => hbk.at_ (i := 1) (u := .bool x.dir) rfl W e
  have b2 := fun W (e : Ext _ W) => hbk.at_ (i := 2) (u := .slice A x.ids.length c) rfl W e
  clear hbk
  cases hp : pathOk x.path with
  | false =>
    rw [hp] at Cp
    have Hf : Hid (itemOk x = false) := Lib.hid (by simp [itemOk, hp])
    clear hp
    go_enter Tryd.func46, Tryd.ntmps46
    go_wp2_with (go_at_call 59; refine (Cp _ he).mono ?_; rintro e w1 ⟨rfl, he1⟩)
    go_ret
    exact ⟨ret_b Hf.out.symm, he.trans he1⟩
  | true =>
    rw [hp] at Cp
    generalize hn : x.ids.length = n at *
    have Hn := Lib.hid hn; clear hn
    have HA := Lib.hid hA; clear hA
    have Hp := Lib.hid hp; clear hp
    by_cases h4 : 4 < n
    · have h4i : (4 : Int) < (n : Int) := by omega
      have Hf : Hid (itemOk x = false) := Lib.hid (by
        have : ¬ x.ids.length ≤ 4 := by rw [Hn.out]; omega
        simp [itemOk, this])
      go_enter Tryd.func46, Tryd.ntmps46
      go_wp2_with (go_at_call 59; refine (Cp _ he).mono ?_; rintro e w1 ⟨rfl, he1⟩; have c2 := b2 _ he1)
      go_ret
      exact ⟨ret_b Hf.out.symm, he.trans he1⟩
    · have h4i : ¬ (4 : Int) < (n : Int) := by omega
      by_cases hd : x.dir = true ∧ 0 < n
      · obtain ⟨hd, h0⟩ := hd
        have h0i : (0 : Int) < (n : Int) := by omega
        have Hf : Hid (itemOk x = false) := Lib.hid (by
          have : idsOk x = false := by
            unfold idsOk
            rw [List.all_eq_false]
            have hlt : 0 < x.ids.length := by rw [Hn.out]; exact h0
            exact ⟨x.ids[0], List.getElem_mem hlt, by simp [hd]⟩
          simp [itemOk, this])
        rw [hd] at b1
        rw [hd] at b0 b2 he ⊢
        have Hd := Lib.hid hd; clear hd
        go_enter Tryd.func46, Tryd.ntmps46
        go_wp2_with (go_at_call 59; refine (Cp _ he).mono ?_; rintro e w1 ⟨rfl, he1⟩; have c1 := b1 _ he1; have c2 := b2 _ he1)
        go_ret
        exact ⟨ret_b Hf.out.symm, he.trans he1⟩
      · have hor : x.dir = false ∨ x.ids = [] := by
          cases hx : x.dir with
          | false => exact .inl rfl
          | true =>
            right
            have : ¬ 0 < n := fun h => hd ⟨hx, h⟩
            exact List.length_eq_zero_iff.1 (by rw [Hn.out]; omega)
        have Hor : Hid (itemOk x = x.ids.all fun i => inB i 1 99) := Lib.hid (itemOk_ids Hp.out (by rw [Hn.out]; omega) hor)
        clear hor
        have key : ∀ b : Bool, x.dir = b → (b = true → n = 0) → Calls Tryd.prog 46 #[.agg #[.string x.path, .bool x.dir, .slice A n c]] w (Ret (.bool (itemOk x)) w) := by
          intro b hb hbn
          rw [hb] at b1
          rw [hb] at b0 b2 he ⊢
          have Hb := Lib.hid hb; clear hb hd
          cases b with
          | true =>
            have h0 : n = 0 := hbn rfl
            subst h0
            have Ht : Hid (itemOk x = true) := Lib.hid (by rw [Hor.out, List.length_eq_zero_iff.1 Hn.out]; rfl)
            clear hbn
            go_enter Tryd.func46, Tryd.ntmps46
            go_wp2_with (go_at_call 59; refine (Cp _ he).mono ?_; rintro e w1 ⟨rfl, he1⟩; have c1 := b1 _ he1; have c2 := b2 _ he1)
            refine wp_loop_rounds 1 ?_; rw [rounds_succ]
            go_wp2
            go_ret
            exact ⟨ret_b Ht.out.symm, he.trans he1⟩
          | false =>
            clear hbn
            go_enter Tryd.func46, Tryd.ntmps46
            go_wp2_with (go_at_call 59; refine (Cp _ he).mono ?_; rintro e w1 ⟨rfl, he1⟩; have c1 := b1 _ he1; have c2 := b2 _ he1)
            have he2 := he.trans he1
            clear b0 b1 b2 c1 c2 he he1 Cp
            go_loopw [28] (fun i wr => ∃ k : Nat, k ≤ n ∧ i = .int .i64 k ∧ Ext w wr ∧ Hid ((x.ids.take k).all (fun i => inB i 1 99) = true)) (fun i _ => n - (intOf i).toNat)
            case atStart => exact ⟨0, by omega, rfl, he2, by simp [Hid]⟩
            case round =>
              obtain ⟨k, hk, rfl, he, hall⟩ := hrel
              by_cases hlt : k < n
              · obtain ⟨y, hy⟩ := get_of_lt (l := x.ids) (k := k) (by rw [Hn.out]; exact hlt)
                obtain ⟨b, o, rfl, -, -, hin, hcc⟩ := Ints.at_ HA.out hy
                have ha := hcc wr he
                have Hy := Lib.hid hy
                clear hcc hy
                by_cases g1 : 1 ≤ y
                · by_cases g2 : y ≤ 99
                  · go_wp2
                    go_roundw
                    case rel =>
                      refine ⟨k + 1, by omega, by go_num, he, ?_⟩
                      show _ = true
                      rw [List.take_add_one, Hy.out, List.all_append, hall.out]
                      simp [inB, g1, g2]
                    case measure => simp [intOf]; omega
                  · go_wp2
                    go_ret
                    refine ⟨ret_b ?_, he⟩
                    rw [Hor.out]
                    symm
                    rw [List.all_eq_false]
                    exact ⟨y, List.mem_of_getElem? Hy.out, by simp [inB]; omega⟩
                · go_wp2
                  go_ret
                  refine ⟨ret_b ?_, he⟩
                  rw [Hor.out]
                  symm
                  rw [List.all_eq_false]
                  exact ⟨y, List.mem_of_getElem? Hy.out, by simp [inB]; omega⟩
              · have hks : k = n := by omega
                subst hks
                go_wp2
                go_ret
                refine ⟨ret_b ?_, he⟩
                have := hall.out
                rw [List.take_of_length_le (by rw [Hn.out]; omega)] at this
                rw [Hor.out, this]
        exact key x.dir rfl (fun h => by
          have : ¬ 0 < n := fun h' => hd ⟨h, h'⟩
          omega)
end Go.Sf
