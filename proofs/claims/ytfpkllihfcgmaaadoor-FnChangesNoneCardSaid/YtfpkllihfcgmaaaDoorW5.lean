/- Taking an element out of a slice of the call's own: append(s[:k], s[k+1:]...). -/
import Derived.Test.YtfpkllihfcgmaaaDoorW4
namespace Go.Sf
open Go Go.RowKit
theorem blk_setRow {w : World} {g : Nat} {t : TypeId} {cs : Array Value} (h : Blk w g t cs) (cs' : Array Value) : Blk (w.setRow g cs') g t cs' := by
  unfold Blk at h ⊢
  simp [World.setRow, Array.getElem?_modify, h]
theorem heap_setRow (w : World) (g : Nat) (cs' : Array Value) (k : Nat) (h : k ≠ g) : (w.setRow g cs').heap[k]? = w.heap[k]? := by
  simp only [World.setRow, Array.getElem?_modify]
  rw [if_neg (by omega)]
theorem blk_setRow_far {w : World} {g b : Nat} {t : TypeId} {cs : Array Value} (h : Blk w b t cs) (cs' : Array Value) (hne : b ≠ g) : Blk (w.setRow g cs') b t cs :=
  (heap_setRow w g cs' b hne).trans h
theorem Ext.setRow {a w : World} (h : Ext a w) {g : Nat} (hg : a.heap.size ≤ g) (cs' : Array Value) : Ext a (w.setRow g cs') :=
  ⟨(Below.os h : w.os = a.os), (Below.tape h : w.tape = a.tape), (Below.output h : w.output = a.output), by have := Below.size h; simpa [World.setRow] using this, fun k hk => (heap_setRow w g cs' k (by omega)).trans (Below.block h k hk)⟩
theorem KeepsT.setRow {t : TypeId} {w : World} {g : Nat} {cs : Array Value} (hb : Blk w g t cs) (cs' : Array Value) : KeepsT t w (w.setRow g cs') :=
  fun _ _ _ hne h => blk_setRow_far h cs' (Blk.ne_ h hb hne)

theorem OwnS.formP {α : Type} {base : Nat} {t : TypeId} {sz : Nat} {E : World → Array Value → Nat → α → Prop} {w : World} {v : Value} {l : List α} (h : OwnS base t sz E w v l) (hl : 0 < l.length) :
    ∃ g c, v = .slice (some ⟨g, 0, none⟩) l.length c ∧ base ≤ g ∧ l.length ≤ c ∧ c ≤ maxLen := by
  obtain ⟨xs, ⟨h1, h2⟩, -⟩ := h
  rcases h2 with ⟨rfl, hn⟩ | ⟨g, cap, cur, rfl, hg, -, hc, hm, -⟩
  · omega
  · exact ⟨g, cap, rfl, hg, hc, hm⟩
section
variable {P : Program} {α : Type} {ops : Array Oper} {rest : List Oper} {o : Oper} {a : Act} {Q : Exit → Act → World → Prop}
theorem eraseIdx_get {l : List α} {k j : Nat} : (l.eraseIdx k)[j]? = if j < k then l[j]? else l[j + 1]? := by
  rw [List.getElem?_eraseIdx]
/-- AN ELEMENT IS TAKEN OUT. -/
theorem wp_del {W w0 : World} {T t sz : Nat} {E : World → Array Value → Nat → α → Prop} (hgd : o.guard = none) (s x : Operand)
    (ho : o.op = .call { callee := .builtin .append, args := #[s, x], argTypes := #[T, T] })
    (el : Elem P T t sz) (ok : ElOk t sz E) (h0 : Ext w0 W) (g c k : Nat) (l : List α) (hk : k < l.length) (hown : OwnS w0.heap.size t sz E W (.slice (some ⟨g, 0, none⟩) l.length c) l)
    (hs : a.eval s = .slice (some ⟨g, 0, none⟩) k c) (ad : Addr) (c' : Nat) (hx : a.eval x = .slice (some ad) (l.length - (k + 1)) c') (had : k + 1 < l.length → ad = ⟨g, (k + 1) * sz, none⟩)
    (h : ∀ w', OwnS w0.heap.size t sz E w' (.slice (some ⟨g, 0, none⟩) (l.length - 1) c) (l.eraseIdx k) → Ext w0 w' → KeepsT t W w' → wpList P ops Q rest (a.put o.dst (.slice (some ⟨g, 0, none⟩) (l.length - 1) c)) w') :
    wpList P ops Q (o :: rest) a W := by
  obtain ⟨i, z, by_, hi, hz, hsz, hby, hb128, hzs⟩ := el.info
  obtain ⟨xs, ⟨hxl, hrow⟩, hxs⟩ := hown
  have hp := el.pos
  rcases hrow with ⟨hv, -⟩ | ⟨g', cap, cur, hv, hg, hh, hnc, hcm, hcs, htk⟩
  · cases hv
  injection hv with hv1 hv2 hv3
  simp only [Option.some.injEq, Addr.mk.injEq, and_true] at hv1
  subst hv1; subst hv3
  have hkk : (k + 1) * sz ≤ l.length * sz := Nat.mul_le_mul_right _ hk
  have hks : (k + 1) * sz = k * sz + sz := by rw [Nat.add_mul, Nat.one_mul]
  have hmul : (l.length - (k + 1)) * sz = l.length * sz - (k * sz + sz) := by rw [Nat.sub_mul, hks]
  rw [hks] at hkk
  have hc : l.length * sz ≤ c * sz := Nat.mul_le_mul_right _ hnc
  have hxc : ∀ j, j < l.length * sz → xs[j]? = cur[j]? := fun j hj => by
    rw [← htk, List.getElem?_take_of_lt hj, Array.getElem?_toList]
  have hfull : ∀ j, j < l.length * sz → ∃ u, xs[j]? = some u ∧ u.oneCell' = true := fun j hj => by
    have hk' : j / sz < l.length := Nat.div_lt_of_lt_mul (by rw [Nat.mul_comm]; exact hj)
    have := ok.full _ _ _ _ (hxs (j / sz) l[j / sz] (by simp [hk'])) (j % sz) (Nat.mod_lt _ hp)
    rwa [Nat.mul_comm, Nat.div_add_mod, List.getElem?_toArray] at this
  -- the cells that move
  have hnl : (xs.drop (k * sz + sz)).length = (l.length - (k + 1)) * i.size := by rw [List.length_drop, hxl, hsz, hmul]
  have hrun := run_append_room (P := P) W T o.type t i el.under hi g k c cur hh ad (l.length - (k + 1)) c' (xs.drop (k * sz + sz)) hnl
    (fun j u hj => by
      have hjl : j < (xs.drop (k * sz + sz)).length := by
        rcases Nat.lt_or_ge j (xs.drop (k * sz + sz)).length with h | h
        · exact h
        · rw [List.getElem?_eq_none h] at hj; cases hj
      rw [List.length_drop, hxl] at hjl
      have hlt : k + 1 < l.length := by
        rcases Nat.lt_or_ge (k + 1) l.length with h | h
        · exact h
        · have : l.length * sz ≤ (k + 1) * sz := Nat.mul_le_mul_right _ h
          rw [hks] at this
          omega
      rw [had hlt, hks]
      have e : (⟨g, k * sz + sz, none⟩ : Addr).add j = ⟨g, k * sz + sz + j, none⟩ := by
        unfold Addr.add; split
        · next h => subst h; rfl
        · rfl
      rw [e, Blk.cell (t := t) (cs := cur) hh, ← hxc _ (by omega)]
      rw [List.getElem?_drop] at hj
      exact hj)
    (fun u hu => by
      obtain ⟨j, hj⟩ := List.mem_iff_getElem?.1 (List.mem_of_mem_drop hu)
      have hjl : j < xs.length := by
        rcases Nat.lt_or_ge j xs.length with h | h
        · exact h
        · rw [List.getElem?_eq_none h] at hj; cases hj
      obtain ⟨u', hu', h1⟩ := hfull j (by omega)
      rw [hu'] at hj
      rw [← Option.some.inj hj]; exact h1)
    (by omega) (by rw [hnl, hsz, hcs, hmul]; omega)
  have hlen : k + (l.length - (k + 1)) = l.length - 1 := by omega
  rw [hlen] at hrun
  rw [hsz] at hrun
  generalize hnew : (cur.toList.take (k * sz) ++ xs.drop (k * sz + sz) ++ cur.toList.drop (k * sz + (xs.drop (k * sz + sz)).length)).toArray = new at hrun
  refine wpList_plain hgd fun K hK => ?_
  unfold Oper.wp
  simp [execOp, ho, resolve, invoke, builtin, hs, hx, hrun, Result.andThen]
  have hB : Blk W g t cur := hh
  have hnewsz : new.size = c * sz := by
    rw [← hnew]
    simp only [List.size_toArray, List.length_append, List.length_take, List.length_drop, Array.length_toList, hcs, hxl]
    omega
  have hnewlt : ∀ j, j < k * sz → new[j]? = xs[j]? := fun j hj => by
    rw [← hnew, List.getElem?_toArray, List.append_assoc, List.getElem?_append_left (by rw [List.length_take, Array.length_toList (xs := cur), hcs]; omega), List.getElem?_take_of_lt hj, Array.getElem?_toList, hxc _ (by omega)]
  have hnewge : ∀ j, k * sz ≤ j → j < (l.length - 1) * sz → new[j]? = xs[j + sz]? := fun j h1 h2 => by
    have h3 : (l.length - 1) * sz = l.length * sz - sz := by rw [Nat.sub_mul, Nat.one_mul]
    have h4 : (cur.toList.take (k * sz)).length = k * sz := by rw [List.length_take, Array.length_toList (xs := cur), hcs]; omega
    rw [← hnew, List.getElem?_toArray, List.append_assoc, List.getElem?_append_right (by rw [h4]; exact h1), h4, List.getElem?_append_left (by rw [List.length_drop, hxl]; omega), List.getElem?_drop]
    congr 1
    omega
  refine hK _ _ (h _ ⟨new.toList.take ((l.length - 1) * sz), ⟨?_, .inr ⟨g, c, new, by rw [List.length_eraseIdx, if_pos hk], hg, blk_setRow hB new, by rw [List.length_eraseIdx, if_pos hk]; omega, hcm, hnewsz, ?_⟩⟩, ?_⟩ (h0.setRow hg new) (KeepsT.setRow hB new))
  · rw [List.length_take, Array.length_toList (xs := new), hnewsz, List.length_eraseIdx, if_pos hk]
    have : (l.length - 1) * sz ≤ c * sz := Nat.mul_le_mul_right _ (by omega)
    omega
  · rw [List.length_eraseIdx, if_pos hk]
  · intro j y hj
    rw [eraseIdx_get] at hj
    have hjl : j < l.length - 1 := by
      split at hj
      · next h => omega
      · next h =>
        have : j + 1 < l.length := by
          rcases Nat.lt_or_ge (j + 1) l.length with h | h
          · exact h
          · rw [List.getElem?_eq_none h] at hj; cases hj
        omega
    have hb2 : ∀ q, q < sz → j * sz + q < (l.length - 1) * sz := fun q hq => by
      have : (j + 1) * sz ≤ (l.length - 1) * sz := Nat.mul_le_mul_right _ hjl
      rw [Nat.add_mul, Nat.one_mul] at this
      omega
    have hkeep := KeepsT.setRow hB new
    split at hj
    · next h =>
      refine ok.loc _ _ _ _ _ _ (fun q hq => ?_) (ok.keepT _ _ _ _ _ hkeep (hxs j y hj))
      have h5 : (j + 1) * sz ≤ k * sz := Nat.mul_le_mul_right _ h
      rw [Nat.add_mul, Nat.one_mul] at h5
      rw [List.getElem?_toArray, List.getElem?_take_of_lt (hb2 q hq), Array.getElem?_toList, hnewlt _ (by omega), List.getElem?_toArray]
    · next h =>
      refine ok.loc _ _ _ _ _ _ (fun q hq => ?_) (ok.keepT _ _ _ _ _ hkeep (hxs (j + 1) y hj))
      have h5 : k * sz ≤ j * sz := Nat.mul_le_mul_right _ (by omega)
      rw [List.getElem?_toArray, List.getElem?_take_of_lt (hb2 q hq), Array.getElem?_toList, hnewge _ (by omega) (hb2 q hq), List.getElem?_toArray]
      congr 1
      rw [Nat.add_mul, Nat.one_mul]; omega
end
end Go.Sf
