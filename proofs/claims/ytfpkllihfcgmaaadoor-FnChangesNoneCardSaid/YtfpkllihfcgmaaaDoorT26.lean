/- DrawChangesOf; ChangesCount. -/
import Derived.Test.YtfpkllihfcgmaaaDoorT25
import Derived.Test.YtfpkllihfcgmaaaDoorT7
namespace Go.Sf
open Go Go.RowKit Go.Proofs
def DrewP (w : World) (e : Ending) (w' : World) : Prop := ∃ va vb la lb, e = .returned (.tuple #[va, vb]) ∧ Its w.heap.size w' va la ∧ Its w.heap.size w' vb lb ∧ la.length ≤ 9 ∧ lb.length ≤ 9 ∧ Ext w w'
set_option maxHeartbeats 1000000 in
theorem DrawChangesOf_c {v : Value} {xs : List Int} (w : World) (h : Bys w v xs) : Calls Tryd.prog 8 #[v] w (DrewP w) := by
  go_enter Tryd.func8, Tryd.ntmps8
  go_wp2_with fail
  refine (l6Open_c w h).mono ?_
  rintro e w1 ⟨rb, rfl, hrb, -, hR, he1⟩
  have HR := Lib.hid hR
  clear hR h
  go_wp2_with fail
  refine (l92Two_c HR.out (by omega)).mono ?_
  rintro e w2 ⟨va, vb, la, lb, q', rfl, hIa, hIb, hla, hlb, -, -, -, he2⟩
  have HIa : Hid (Its w.heap.size w2 va la) := Lib.hid (hIa.keep he1.size (fun _ _ _ => rfl))
  have HIb : Hid (Its w.heap.size w2 vb lb) := Lib.hid (hIb.keep he1.size (fun _ _ _ => rfl))
  have HE : Hid (Ext w w2) := Lib.hid (he2.ext he1 hrb)
  clear hIa hIb he1 he2
  go_wp2
  go_ret2
  exact ⟨_, _, _, _, rfl, HIa.out, HIb.out, hla, hlb, HE.out⟩
/-- how many changes are of a kind -/
def cntK (k : Int) (L : List Ch) : Nat := (L.filter fun c => decide (c.kind = k)).length
theorem cntK_le (k : Int) (L : List Ch) : cntK k L ≤ L.length := List.length_filter_le _ _
theorem cntK_snoc (k : Int) (L : List Ch) (c : Ch) : cntK k (L ++ [c]) = cntK k L + if c.kind = k then 1 else 0 := by
  unfold cntK; rw [List.filter_append, List.length_append]
  congr 1
  by_cases h : c.kind = k <;> simp [h]
def kindsOk (L : List Ch) : Prop := ∀ c, c ∈ L → c.kind = 1 ∨ c.kind = 2 ∨ c.kind = 3
def CntRel (w : World) (L : List Ch) (i : Value) (wr : World) : Prop :=
  ∃ k : Nat, k ≤ L.length ∧ i = .int .i64 k ∧ Ext w wr ∧ Blk wr w.heap.size 3 #[.int .i64 (cntK 1 (L.take k) : Nat), .int .i64 (cntK 2 (L.take k) : Nat), .int .i64 (cntK 3 (L.take k) : Nat)]
set_option maxRecDepth 4000 in
set_option maxHeartbeats 2000000 in
theorem ChangesCount_c {B : Nat} {v : Value} {L : List Ch} (w : World) (h : Chs B w v L) (hk : kindsOk L) :
    Calls Tryd.prog 12 #[v] w (RetP (fun r w' => r = .slice (some ⟨w.heap.size, 0, none⟩) 3 3 ∧ Blk w' w.heap.size 3 #[.int .i64 (cntK 1 L : Nat), .int .i64 (cntK 2 L : Nat), .int .i64 (cntK 3 L : Nat)]) w) := by
  obtain ⟨A, c, rfl, hA⟩ := h
  have hl := hA.2.2.1
  unfold lim at hl
  have HA := Lib.hid hA; clear hA
  have HK := Lib.hid hk; clear hk
  have hn0 : ∃ n, L.length = n := ⟨_, rfl⟩
  obtain ⟨n, hn⟩ := hn0
  rw [hn] at hl ⊢
  have Hn := Lib.hid hn; clear hn
  have hmk : ∀ w : World, (Instr.makeSlice 30 (.int .i64 3) (.int .i64 3)).run Tryd.prog w = .ok (.slice (some ⟨w.heap.size, 0, none⟩) 3 3) (w.alloc (.cells #[.int .i64 0, .int .i64 0, .int .i64 0] 3)) := fun _ => by kernel_rfl
  go_enter Tryd.func12, Tryd.ntmps12
  go_wp2
  clear hmk
  go_loopw [9] (fun i wr => CntRel w L i wr) (fun i _ => n - (intOf i).toNat)
  case atStart => exact ⟨0, by omega, rfl, (Ext.refl w).alloc _, by simpa [cntK] using Blk.new w 3 #[.int .i64 0, .int .i64 0, .int .i64 0]⟩
  case round =>
    obtain ⟨k, hk, rfl, he, hb⟩ := hrel
    rw [Hn.out] at hk
    by_cases hlt : k < n
    · obtain ⟨x, hx⟩ := get_of_lt (l := L) (k := k) (by rw [Hn.out]; exact hlt)
      have hkd := HK.out x (List.mem_of_getElem? hx)
      obtain ⟨b, o, u3, rfl, -, -, hki, hps, ⟨A3, c3, rfl, hu3⟩, hc0, hc1, hc2, hc3⟩ := Chs.at_ HA.out hx
      have a0 := hc0 wr he; have a1 := hc1 wr he; have a2 := hc2 wr he; have a3 := hc3 wr he
      have ht := take_succ_get hx
      have h1 := cntK_snoc 1 (L.take k) x; have h2 := cntK_snoc 2 (L.take k) x; have h3 := cntK_snoc 3 (L.take k) x
      rw [← ht] at h1 h2 h3
      have b1 := cntK_le 1 (L.take k); have b2 := cntK_le 2 (L.take k); have b3 := cntK_le 3 (L.take k)
      have bl := List.length_take_le' k L
      rw [Hn.out] at bl
      have H1 := Lib.hid h1; have H2 := Lib.hid h2; have H3 := Lib.hid h3
      have Hb := Lib.hid hb
      have d0 := fun W (e : Ext wr W) => (hb.ext e).cell 0; have d1 := fun W (e : Ext wr W) => (hb.ext e).cell 1; have d2 := fun W (e : Ext wr W) => (hb.ext e).cell 2
      have f0 := fun W (e : Ext wr W) => (hb.ext e).frozen 0; have f1 := fun W (e : Ext wr W) => (hb.ext e).frozen 1; have f2 := fun W (e : Ext wr W) => (hb.ext e).frozen 2
      simp at d0 d1 d2
      clear hc0 hc1 hc2 hc3 ht h1 h2 h3 hx hb hu3
      generalize cntK 1 (L.take k) = n1 at *
      generalize cntK 2 (L.take k) = n2 at *
      generalize cntK 3 (L.take k) = n3 at *
      obtain ⟨xk, xi⟩ := x
      simp only at hkd a0 H1 H2 H3 a1 a2 a3
      rcases hkd with rfl | rfl | rfl
      · go_wp2
        exact ⟨⟨k + 1, by rw [Hn.out]; omega, by go_num, (he.alloc _).setCell (Nat.le_refl _) _, by rw [H1.out, H2.out, H3.out]; simpa using (Hb.out.alloc _).set_ 0 (.int .i64 ((n1 : Int) + 1))⟩, by simp only [intOf]; omega⟩
      · go_wp2
        exact ⟨⟨k + 1, by rw [Hn.out]; omega, by go_num, (he.alloc _).setCell (Nat.le_refl _) _, by rw [H1.out, H2.out, H3.out]; simpa using (Hb.out.alloc _).set_ 1 (.int .i64 ((n2 : Int) + 1))⟩, by simp only [intOf]; omega⟩
      · go_wp2
        exact ⟨⟨k + 1, by rw [Hn.out]; omega, by go_num, (he.alloc _).setCell (Nat.le_refl _) _, by rw [H1.out, H2.out, H3.out]; simpa using (Hb.out.alloc _).set_ 2 (.int .i64 ((n3 : Int) + 1))⟩, by simp only [intOf]; omega⟩
    · have hks : k = n := by omega
      subst hks
      have e : L.take k = L := List.take_of_length_le (by rw [Hn.out]; omega)
      rw [e] at hb
      have Hb := Lib.hid hb
      clear hb e
      go_wp2
      go_ret
      exact ⟨_, rfl, ⟨rfl, Hb.out⟩, he⟩
end Go.Sf
