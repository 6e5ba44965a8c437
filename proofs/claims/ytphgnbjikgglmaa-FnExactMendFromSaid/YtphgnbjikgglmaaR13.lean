/- Arguments that are stores and sums: how they read, by their cells; the same in the ghost's world. -/
import Derived.Test.YtphgnbjikgglmaaR12
import Derived.Test.YtphgnbjikgglmaaTD
import Derived.Test.YtphgnbjikgglmaaHG
import Derived.Deep.Slices
import Derived.Deep.Strs
set_option linter.all false
namespace Go.Sf
open Go Go.RowKit Go.Proofs
theorem ghost_cell {v W : World} (hv : v.heap = (ghostOf W).heap) {p : Addr} {u : Value} (h : W.cell? p = some u) : v.cell? p = some u := by
  rw [cell_heap hv, ghostOf_cell]
  exact h
theorem ahds_ghost {v W : World} {u : Value} {l : List Hd} (hv : v.heap = (ghostOf W).heap) (h : AHds W u l) : AHds v u l :=
  ASl.ext h fun _ _ _ ⟨h1, h2, ⟨q, h3, h4⟩, h5, h6⟩ => ⟨ghost_cell hv h1, h2, ⟨q, ghost_cell hv h3, ASl.ext h4 fun _ _ _ ⟨g1, g2⟩ => ⟨ghost_cell hv g1, g2⟩⟩, ghost_cell hv h5, h6⟩
theorem acks_ghost {v W : World} {u : Value} {l : List Ck} (hv : v.heap = (ghostOf W).heap) (h : ACks W u l) : ACks v u l :=
  ASl.ext h fun _ _ _ ⟨h1, h2, h3, h4⟩ => ⟨ghost_cell hv h1, h2, ghost_cell hv h3, h4⟩
end Go.Sf
namespace Go.Proofs.Ytphgnbjikgglmaa
open Go Go.ChangeShapes Go.WideShapes Go.ChangeAt Go.RowKit Go.Sf
theorem i64_bd {n : Int} (h : (Lit.int .i64 n).wf = true) : inI n := by
  simp [Lit.wf, IntKind.min, IntKind.max, IntKind.signed, IntKind.bits] at h
  unfold inI; omega
theorem nil_arg {α : Type} {sz : Nat} {E : World → Nat → Nat → α → Prop} {W : World} : ASl sz E W (.slice none 0 0) [] :=
  ⟨none, 0, rfl, Nat.le_refl _, ⟨Nat.zero_le _, fun _ => rfl⟩, fun k x h => by simp at h⟩
section
variable {H : Type} {enc : TypeId × Value → H} {W : World} {fuel : Nat} {x : DataW H × List MemPlace}
/-- a field of ints -/
theorem open_aints {cs : List Value} (h : DataW.trod enc Try.prog W 0 (fun _ => true) true fuel 32 cs = some x) : ∃ u xs, cs = [u] ∧ AInts W u xs := by
  rcases open_ints Try.underlying32 Try.underlying3 (by kernel_rfl) h with ⟨hcs, -⟩ | ⟨a, n, c, zs, hcs, -, hl, hm, hz, -, hcell, hwf⟩
  · exact ⟨_, [], hcs, nil_arg⟩
  · simp only [if_true] at hz
    have hlen : (zs.take n).length = n := by simp; omega
    refine ⟨_, zs.take n, hcs, some a, c, by rw [hlen], by rw [hlen]; exact hl, ⟨hm, fun h => by cases h⟩, fun k y hy => ?_⟩
    rw [List.getElem?_take] at hy
    split at hy
    case isFalse => cases hy
    have hk : k < zs.length := by omega
    have hc := hcell k hk
    obtain ⟨b, o, spot⟩ := a
    have hspot : spot = none := by simpa [Addr.add] using World.cell?_spot (hcell 0 (by omega))
    subst hspot
    rw [add_plain] at hc
    have hx' : zs.getD k 0 = y := by simp [List.getD, hy]
    rw [hx'] at hc
    exact ⟨b, o, rfl, by rw [Nat.mul_one]; exact hc, i64_bd (hwf y (List.mem_of_getElem? hy))⟩
/-- any slice of elements of sz cells -/
theorem open_rows {α : Type} {t e : TypeId} {sz : Nat} {E : World → Nat → Nat → α → Prop} {cs : List Value} (ht : Try.prog.underlying t = some (.slice e)) (hsz : Try.prog.cellsOf e = sz) (hpos : 0 < sz)
    (he : ∀ (n b p : Nat) (cs' : List Value) (y : DataW H × List MemPlace), cs'.length = sz → (∀ i, i < sz → W.cell? ⟨b, p + i, none⟩ = cs'[i]?) → DataW.trod enc Try.prog W 0 (fun _ => true) true n e cs' = some y → ∃ x : α, E W b p x)
    (h : DataW.trod enc Try.prog W 0 (fun _ => true) true fuel t cs = some x) : ∃ u l, cs = [u] ∧ ASl sz E W u l := by
  rcases Go.Deep.open_slice ht h with ⟨hcs, -⟩ | ⟨a, n, c, m, q, D, Pl, hcs, -, hl, hm, hmc, -, hel⟩
  · exact ⟨_, [], hcs, nil_arg⟩
  · simp only [if_true] at hmc
    have hsp : 0 < n → a.spot = none := fun hn => by
      obtain ⟨cs', h1, h2⟩ := hel 0 (by omega)
      rw [hsz] at h1
      obtain ⟨-, hlen, hcell⟩ := World.cells?_some h1
      have h0 := hcell 0 hpos
      have hc : ∃ v, cs'[0]? = some v := ⟨cs'[0]'(by omega), by simp⟩
      obtain ⟨v, hv⟩ := hc
      rw [hv, Go.Deep.add_add, Nat.zero_mul, Nat.add_zero] at h0
      exact World.cell?_spot (by simpa [Addr.add] using h0)
    have hx : ∀ i, i < n → ∃ b o, a = ⟨b, o, none⟩ ∧ ∃ x : α, E W b (o + i * sz) x := fun i hi => by
      obtain ⟨cs', h1, h2⟩ := hel i (by omega)
      rw [hsz] at h1
      obtain ⟨-, hlen, hcell⟩ := World.cells?_some h1
      have hs := hsp (by omega)
      obtain ⟨b, o, spot⟩ := a
      simp only at hs
      subst hs
      refine ⟨b, o, rfl, he q b (o + i * sz) cs' _ hlen (fun j hj => ?_) h2⟩
      have := hcell j hj
      rwa [Go.Deep.add_add, add_plain, ← Nat.add_assoc] at this
    obtain ⟨f, hf⟩ : ∃ l : List α, l.length = n ∧ ∀ i y, l[i]? = some y → ∃ b o, a = ⟨b, o, none⟩ ∧ E W b (o + i * sz) y := by
      clear hm hl hcs hel hmc hsp
      induction n with
      | zero => exact ⟨[], rfl, fun i y h => by simp at h⟩
      | succ n ih =>
        obtain ⟨l, hl, hl2⟩ := ih (fun i hi => hx i (by omega))
        obtain ⟨b, o, ha, y, hy⟩ := hx n (by omega)
        refine ⟨l ++ [y], by simp [hl], fun i z hz => ?_⟩
        rcases Nat.lt_or_ge i n with hlt | hge
        · rw [List.getElem?_append_left (by omega)] at hz
          exact hl2 i z hz
        · rw [List.getElem?_append_right (by omega), hl] at hz
          have hin : i = n := by
            have := lt_of_get hz
            simp at this; omega
          subst hin
          simp at hz
          subst hz
          exact ⟨b, o, ha, hy⟩
    refine ⟨_, f, hcs, some a, c, by rw [hf.1], by rw [hf.1]; exact hl, ⟨hm, fun h => by cases h⟩, fun k y hy => ?_⟩
    obtain ⟨b, o, ha, he'⟩ := hf.2 k y hy
    exact ⟨b, o, by rw [ha], he'⟩
set_option maxRecDepth 100000 in
theorem rows_helds {cs : List Value} (hf : DataW.trod enc Try.prog W 0 (fun _ => true) true fuel 39 cs = some x) : ∃ u l, cs = [u] ∧ AHds W u l :=
  open_rows (E := AHd) Try.underlying39 (sz := 3) (by kernel_rfl) (by decide) (fun n b p cs' y hlen hcell ht => by
    obtain ⟨y0, y1, y2, m, -, -, t0, t1, t2⟩ := Go.Deep.trod_struct3 Try.underlying72 ht
    match cs', hlen with
    | [c0, c1, c2], _ =>
      simp only [show Try.prog.cellsOf 3 = 1 by kernel_rfl, show Try.prog.cellsOf 32 = 1 by kernel_rfl, List.drop_zero, List.drop_succ_cons, List.take_succ_cons, List.take_zero, List.take_nil] at t0 t1 t2
      obtain ⟨k, e0, -, hk⟩ := DataW.trod_int Try.underlying3 t0
      obtain ⟨u, xs, e1, hu⟩ := open_aints t1
      obtain ⟨q, e2, -, hq⟩ := DataW.trod_int Try.underlying3 t2
      simp only [List.cons.injEq, and_true] at e0 e1 e2
      subst e0; subst e1; subst e2
      exact ⟨⟨k, xs, q⟩, hcell 0 (by omega), i64_bd hk, ⟨_, hcell 1 (by omega), hu⟩, hcell 2 (by omega), i64_bd hq⟩) hf
set_option maxRecDepth 100000 in
theorem open_helds {v : Value} {d : DataW H} {p : List MemPlace} {base : Nat} (hval : Value.okWide Try.prog W .any base 39 v) (h : DataW.Trod enc Try.prog W 0 (fun _ => true) true 39 v d p) : ∃ l, AHds W v l := by
  obtain ⟨a0, n0, c0, rfl⟩ := okWide_slice Try.underlying39 hval
  obtain ⟨fuel, hf⟩ := h
  obtain ⟨u, l, e, h⟩ := rows_helds hf
  simp [Value.cells] at e
  subst e
  exact ⟨l, h⟩
set_option maxRecDepth 100000 in
theorem open_checks {v : Value} {d : DataW H} {p : List MemPlace} {base : Nat} (hval : Value.okWide Try.prog W .any base 40 v) (h : DataW.Trod enc Try.prog W 0 (fun _ => true) true 40 v d p) : ∃ l, ACks W v l := by
  obtain ⟨a0, n0, c0, rfl⟩ := okWide_slice Try.underlying40 hval
  obtain ⟨fuel, hf⟩ := h
  obtain ⟨u, l, e, h⟩ := open_rows (E := ACk) Try.underlying40 (sz := 2) (by kernel_rfl) (by decide) (fun n b p cs' y hlen hcell ht => by
    obtain ⟨y0, y1, m, -, -, t0, t1⟩ := Go.ChangeShapes.trod_struct2 Try.underlying75 ht
    match cs', hlen with
    | [c0, c1], _ =>
      simp only [show Try.prog.cellsOf 3 = 1 by kernel_rfl, List.drop_zero, List.drop_succ_cons, List.take_succ_cons, List.take_zero, List.take_nil] at t0 t1
      obtain ⟨k, e0, -, hk⟩ := DataW.trod_int Try.underlying3 t0
      obtain ⟨q, e1, -, hq⟩ := DataW.trod_int Try.underlying3 t1
      simp only [List.cons.injEq, and_true] at e0 e1
      subst e0; subst e1
      exact ⟨⟨k, q⟩, hcell 0 (by omega), i64_bd hk, hcell 1 (by omega), i64_bd hq⟩) hf
  simp [Value.cells] at e
  subst e
  exact ⟨l, h⟩
end
end Go.Proofs.Ytphgnbjikgglmaa
