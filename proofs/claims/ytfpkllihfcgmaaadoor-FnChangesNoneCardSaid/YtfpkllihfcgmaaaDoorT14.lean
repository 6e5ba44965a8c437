/- slices.Insert behind the last node. -/
import Derived.Test.YtfpkllihfcgmaaaDoorW7
import Derived.Test.YtfpkllihfcgmaaaDoorI0
import Derived.Maps.AppendAt
namespace Go.Sf
open Go Go.RowKit Go.Proofs
theorem lt_of_getx {α : Type} {l : List α} {k : Nat} {x : α} (h : l[k]? = some x) : k < l.length := by
  rcases Nat.lt_or_ge k l.length with hlt | hge
  · exact hlt
  · rw [List.getElem?_eq_none hge] at h; cases h
theorem el_Ptr : Elem Tryd.prog 64 50 1 :=
  elem_of (z := .pointer none) (b := 8) Tryd.underlying64 (by kernel_rfl) (by decide) rfl (by decide)
/-- what an append to a row of one's own leaves, its block told -/
def GrownV {α : Type} (B : Nat) (t : TypeId) (sz : Nat) (E : World → Array Value → Nat → α → Prop) (w : World) (v : Value) (l : List α) (e : Ending) (w' : World) : Prop :=
  ∃ v', e = .returned v' ∧ OwnS B t sz E w' v' l ∧ w.grownBy w' v.ownBlock ∧ (v'.ownBlock = v.ownBlock ∨ v'.ownBlock = some w.heap.size)
theorem wp_apAt {P : Program} {ops : Array Oper} {rest : List Oper} {o : Oper} {a : Act} {Q : Exit → Act → World → Prop} {W : World} {T t B : Nat} {α : Type} {E : World → Array Value → Nat → α → Prop} (hgd : o.guard = none) (s x : Operand)
    (ho : o.op = .call { callee := .builtin .append, args := #[s, x], argTypes := #[T, T] })
    (el : Elem P T t 1) (ok : ElOk t 1 E) (hB : B ≤ W.heap.size) (v : Value) (l : List α) (y : α) (hs : a.eval s = v) (hown : OwnS B t 1 E W v l)
    (ad : Addr) (c : Nat) (u : Value) (hx : a.eval x = .slice (some ad) 1 c) (hc : W.cell? (ad.add 0) = some u) (h1 : u.oneCell' = true) (hE : E W #[u] 0 y) (hl : l.length + 1 ≤ lim)
    (h : ∀ v' w', OwnS B t 1 E w' v' (l ++ [y]) → W.grownBy w' v.ownBlock → (v'.ownBlock = v.ownBlock ∨ v'.ownBlock = some W.heap.size) → wpList P ops Q rest (a.put o.dst v') w') : wpList P ops Q (o :: rest) a W := by
  obtain ⟨i, z, by_, hi, hz, hsz, hby, hb128, hzs⟩ := el.info
  obtain ⟨xs, hrow, hxs⟩ := hown
  have hlim : (l.length + 1) * by_ ≤ 140737488355328 := by
    unfold lim at hl
    have : (l.length + 1) * by_ ≤ 4194304 * 128 := Nat.mul_le_mul hl hb128
    omega
  refine wpList_append_own_at W hgd s x T ho B t i z 1 by_ el.under hi hz hsz hby hzs el.pos v l.length xs hs hrow ad 1 c [u] hx rfl
    (fun j q hj => ?_) (fun q hq => by rw [List.mem_singleton.1 hq]; exact h1) (by unfold lim at hl; unfold maxLen; omega) hlim hB ?_
  · cases j with
    | zero => rw [← hj]; simpa using hc
    | succ j => simp at hj
  intro v' w' ho' hg _ hv'
  refine h v' w' ⟨xs ++ [u], by simpa using ho', ?_⟩ hg hv'
  intro k q hk
  have hxl : xs.length = l.length * 1 := hrow.1
  rw [Nat.mul_one] at hxl
  have hkt := grown_keepsT hrow hg
  by_cases hlt : k < l.length
  · rw [List.getElem?_append_left hlt] at hk
    refine ok.loc _ _ _ _ _ _ (fun j hj => ?_) (ok.keepT _ _ _ _ _ hkt (hxs k q hk))
    rw [List.getElem?_toArray, List.getElem?_toArray, List.getElem?_append_left (by omega)]
  · rw [List.getElem?_append_right (by omega)] at hk
    have hk0 : k - l.length = 0 := by
      have := lt_of_getx hk; simp at this; omega
    rw [hk0] at hk
    simp at hk
    subst hk
    refine ok.loc _ _ _ _ _ _ (fun j hj => ?_) (ok.keepT _ _ _ _ _ hkt hE)
    rw [List.getElem?_toArray, List.getElem?_append_right (by omega)]
    have : k * 1 + j - xs.length = j := by omega
    rw [this, Nat.zero_add]
    have : j = 0 := by omega
    subst this; rfl
set_option maxHeartbeats 1000000 in
theorem Insert_end_c {B : Nat} {w : World} {v : Value} {bs : List Nat} {b : Nat} {ad : Addr} (hB : B ≤ w.heap.size) (hO : OwnS B 50 1 EPtr w v bs) (hl : bs.length < lim)
    (hc : w.cell? (ad.add 0) = some (.pointer (some ⟨b, 0, none⟩))) :
    Calls Tryd.prog 61 #[v, .int .i64 bs.length, .slice (some ad) 1 1] w (GrownV B 50 1 EPtr w v (bs ++ [b])) := by
  have HO := Lib.hid hO
  obtain ⟨A, c, rfl⟩ := hO.form
  have hcap : bs.length ≤ c ∧ c ≤ maxLen := by
    obtain ⟨xs, ⟨-, h⟩, -⟩ := hO
    rcases h with ⟨h, hn⟩ | ⟨g, cap, cur, h, -, -, h1, h2, -⟩
    · injection h with _ _ h3; subst h3; rw [hn]; exact ⟨Nat.le_refl _, Nat.zero_le _⟩
    · injection h with _ _ h3; subst h3; exact ⟨h1, h2⟩
  have hlim := hl
  unfold lim at hlim
  have Hc := Lib.hid hc
  obtain ⟨hc1, hc2⟩ := hcap
  have Hl := Lib.hid hl
  clear hc hO hl
  generalize hn : bs.length = n at *
  have Hn := Lib.hid hn; clear hn
  have hnn : (n == n) = true := beq_self_eq_true n
  go_enter Tryd.func61, Tryd.ntmps61
  go_wp2_with (at_builtin; go_must (refine wp_apAt (by rfl) _ _ (by rfl) el_Ptr eptr_ok hB (.slice A n c) bs b (by rfl) HO.out ad 1 (.pointer (some ⟨b, 0, none⟩)) (by rfl) Hc.out rfl rfl ?_ ?_))
  · have := Hl.out
    rw [Hn.out]; omega
  all_goals
    intro v' w' h1 h2 h3
    have H1 := Lib.hid h1
    have H2 := Lib.hid h2
    have H3 := Lib.hid h3
    clear h1 h2 h3
    go_wp2
    go_ret
    exact ⟨_, rfl, H1.out, by have := H2.out; cases A <;> exact this, by have := H3.out; cases A <;> exact this⟩
end Go.Sf
