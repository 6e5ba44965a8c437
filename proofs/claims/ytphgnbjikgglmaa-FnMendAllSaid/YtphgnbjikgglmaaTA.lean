/- Mending, plain. -/
import Derived.Test.YtphgnbjikgglmaaP20
import Derived.Test.YtphgnbjikgglmaaKC
import Derived.Test.YtphgnbjikgglmaaKH
import Derived.Test.YtphgnbjikgglmaaHH
set_option linter.all false
/-! Mending, plain. -/
namespace Go.Sf
/-- a store has a block with a sum -/
def goodC (l : List Hd) (c : Ck) : Bool := match findH l c.id with
  | some h => eqb (blkSum h.bytes) c.sum
  | none => false
/-- what is asked of the sums -/
def CksOk (cs : List Ck) : Prop := cs.length ≤ 16 ∧ ∀ (k : Nat) (c : Ck), cs[k]? = some c → (1 ≤ c.id ∧ c.id ≤ 99) ∧ (0 ≤ c.sum ∧ c.sum ≤ 9972) ∧ ∀ (j : Nat) (y : Ck), k = j + 1 → cs[j]? = some y → y.id < c.id
open Classical in
noncomputable def cksOk (cs : List Ck) : Bool := decide (CksOk cs)
theorem cksOk_iff {cs : List Ck} : cksOk cs = true ↔ CksOk cs := by unfold cksOk; simp
theorem cksOk_false {cs : List Ck} : cksOk cs = false ↔ ¬ CksOk cs := by unfold cksOk; simp
theorem CksOk.asc {l : List Ck} (h : CksOk l) : ∀ (d i : Nat) (x y : Ck), l[i]? = some x → l[i + 1 + d]? = some y → x.id < y.id := by
  intro d
  induction d with
  | zero => intro i x y hx hy; exact (h.2 _ _ hy).2.2 i x rfl hx
  | succ d ih =>
    intro i x y hx hy
    have hlt := lt_of_get hy
    obtain ⟨z, hz⟩ := get_of_lt (l := l) (k := i + 1 + d) (by omega)
    have h1 := ih i x z hx hz
    have h2 := (h.2 _ _ hy).2.2 (i + 1 + d) z rfl hz
    omega
theorem CksOk.inj {l : List Ck} (h : CksOk l) {i j : Nat} {x y : Ck} (hx : l[i]? = some x) (hy : l[j]? = some y) (e : x.id = y.id) : i = j := by
  rcases Nat.lt_trichotomy i j with hij | hij | hij
  · have := h.asc (j - (i + 1)) i x y hx (by rw [show i + 1 + (j - (i + 1)) = j by omega]; exact hy); omega
  · exact hij
  · have := h.asc (i - (j + 1)) j y x hy (by rw [show j + 1 + (i - (j + 1)) = i by omega]; exact hx); omega
def ckIs (i : Int) (c : Ck) : Bool := eqb c.id i
def ckFind (cs : List Ck) (i : Int) : Option Ck := cs.find? (ckIs i)
/-- the bytes of a block -/
def bytesH (l : List Hd) (i : Int) : List Int := match findH l i with
  | some h => h.bytes
  | none => []
/-- a block that is damaged is taken from the other store -/
def mdH (other : List Hd) (cs : List Ck) (h : Hd) : Hd := match ckFind cs h.id with
  | some c => if (!eqb (blkSum h.bytes) c.sum && goodC other c) = true then { h with bytes := bytesH other c.id } else h
  | none => h
def mendL (other : List Hd) (l : List Hd) (cs : List Ck) : List Hd := l.map (mdH other cs)
def mendAt (other l : List Hd) (c : Ck) : Bool := (findH l c.id).isSome && (!goodC l c && goodC other c)
def mendN (other l : List Hd) (cs : List Ck) : Nat := (cs.filter (mendAt other l)).length
/-- what is bad of a store -/
def badL (l : List Hd) (cs : List Ck) : List Int := (cs.filter fun c => !goodC l c).map (·.id)
noncomputable def badOf (l : List Hd) (cs : List Ck) : List Int := if (storeOk l && cksOk cs) = true then badL l cs else []
noncomputable def mendOf (l : List Hd) (cs : List Ck) (other : List Hd) : Option (List Hd × Nat) :=
  if (storeOk l && (storeOk other && cksOk cs)) = true ∧ storeOk (mendL other l cs) = true then some (mendL other l cs, mendN other l cs) else none
theorem mdH_id (other : List Hd) (cs : List Ck) (h : Hd) : (mdH other cs h).id = h.id := by
  unfold mdH
  split
  · split <;> rfl
  · rfl
theorem mdH_uses (other : List Hd) (cs : List Ck) (h : Hd) : (mdH other cs h).uses = h.uses := by
  unfold mdH
  split
  · split <;> rfl
  · rfl
theorem findH_map (l : List Hd) (f : Hd → Hd) (hf : ∀ h, (f h).id = h.id) (i : Int) : findH (l.map f) i = (findH l i).map f := by
  unfold findH
  rw [List.find?_map]
  have : (idIs i ∘ f) = idIs i := by funext h; simp [idIs, hf]
  rw [this]
theorem hAt_map (l : List Hd) (f : Hd → Hd) (hf : ∀ h, (f h).id = h.id) (i : Int) : hAt (l.map f) i = hAt l i := by
  unfold hAt
  have key : ∀ (l : List Hd) (k : Nat), atG (idIs i) (l.map f) k = atG (idIs i) l k := by
    intro l
    induction l with
    | nil => intro k; rfl
    | cons x l ih =>
      intro k
      simp only [List.map_cons, atG]
      have : idIs i (f x) = idIs i x := by simp [idIs, hf]
      rw [this, ih]
  exact key l 0
theorem mendL_nil (other l : List Hd) : mendL other l [] = l := by
  unfold mendL
  rw [show mdH other [] = id from funext fun h => rfl, List.map_id]
theorem ckFind_take {cs : List Ck} (h : CksOk cs) {k : Nat} {c : Ck} (hc : cs[k]? = some c) : ckFind (cs.take k) c.id = none := by
  unfold ckFind
  rw [List.find?_eq_none]
  intro x hx
  obtain ⟨j, hj⟩ := List.mem_iff_getElem?.1 hx
  rw [List.getElem?_take] at hj
  split at hj
  · next hjk =>
    intro he
    have := h.inj hj hc (eqb_true.1 he)
    omega
  · cases hj
theorem ckFind_mem {cs : List Ck} (h : CksOk cs) {k : Nat} {c : Ck} (hc : cs[k]? = some c) : ckFind cs c.id = some c := by
  have hex : (ckFind cs c.id).isSome := by
    unfold ckFind
    rw [List.find?_isSome]
    exact ⟨c, List.mem_of_getElem? hc, eqb_true.2 rfl⟩
  cases hf : ckFind cs c.id with
  | none => rw [hf] at hex; cases hex
  | some y =>
    have h1 := List.mem_of_find?_eq_some hf
    have h2 : y.id = c.id := eqb_true.1 (List.find?_some (p := ckIs c.id) hf)
    obtain ⟨j, hj⟩ := List.mem_iff_getElem?.1 h1
    obtain rfl := h.inj hj hc h2
    rw [hj] at hc
    exact hc
theorem mdH_take {other : List Hd} {cs : List Ck} (h : CksOk cs) {k : Nat} {c : Ck} (hc : cs[k]? = some c) (x : Hd) :
    mdH other (cs.take (k + 1)) x = if x.id = c.id then (if (!eqb (blkSum x.bytes) c.sum && goodC other c) = true then { x with bytes := bytesH other c.id } else x) else mdH other (cs.take k) x := by
  have e1 : cs.take (k + 1) = cs.take k ++ [c] := by rw [List.take_add_one, hc]; rfl
  have e2 : ckFind (cs.take (k + 1)) x.id = if x.id = c.id then some c else ckFind (cs.take k) x.id := by
    unfold ckFind
    rw [e1, List.find?_append]
    by_cases e : x.id = c.id
    · have := ckFind_take h hc
      unfold ckFind at this
      rw [if_pos e, e, this]
      simp [ckIs, eqb_true.2]
    · rw [if_neg e]
      have : ([c] : List Ck).find? (ckIs x.id) = none := by
        rw [List.find?_eq_none]
        intro y hy
        rw [List.mem_singleton] at hy
        subst hy
        intro he
        exact e (eqb_true.1 he).symm
      rw [this, Option.or_none]
  conv => lhs; unfold mdH
  rw [e2]
  by_cases e : x.id = c.id
  · rw [if_pos e, if_pos e]
  · rw [if_neg e, if_neg e]
    unfold mdH
    rfl
theorem mdH_last {other : List Hd} {cs : List Ck} (h : CksOk cs) {k : Nat} {c : Ck} (hc : cs[k]? = some c) {x : Hd} (e : x.id = c.id) : mdH other (cs.take k) x = x := by
  unfold mdH
  rw [e, ckFind_take h hc]
/-- the block of the next sum stands as it was -/
theorem mend_find {other l : List Hd} {cs : List Ck} (h : CksOk cs) {k : Nat} {c : Ck} (hc : cs[k]? = some c) : findH (mendL other l (cs.take k)) c.id = findH l c.id := by
  unfold mendL
  rw [findH_map _ _ (mdH_id _ _)]
  cases hf : findH l c.id with
  | none => rfl
  | some x =>
    have := (findH_some hf).2
    rw [Option.map_some, mdH_last h hc this]
theorem mend_good {other l : List Hd} {cs : List Ck} (h : CksOk cs) {k : Nat} {c : Ck} (hc : cs[k]? = some c) : goodC (mendL other l (cs.take k)) c = goodC l c := by
  unfold goodC
  rw [mend_find h hc]
/-- where nothing is to be done -/
theorem mend_skip {other l : List Hd} {cs : List Ck} (h : CksOk cs) {k : Nat} {c : Ck} (hc : cs[k]? = some c) (hs : StoreOk l) (hm : mendAt other l c = false) : mendL other l (cs.take (k + 1)) = mendL other l (cs.take k) := by
  unfold mendL
  apply List.map_congr_left
  intro x hx
  rw [mdH_take h hc]
  by_cases e : x.id = c.id
  · rw [if_pos e, mdH_last h hc e]
    obtain ⟨j, hj⟩ := List.mem_iff_getElem?.1 hx
    have hf := hs.find hj
    rw [e] at hf
    have : (!eqb (blkSum x.bytes) c.sum && goodC other c) = false := by
      have hg : goodC l c = eqb (blkSum x.bytes) c.sum := by unfold goodC; rw [hf]
      unfold mendAt at hm
      rw [hf, hg] at hm
      simpa using hm
    rw [this]
    rfl
  · rw [if_neg e]
theorem mendN_skip {other l : List Hd} {cs : List Ck} {k : Nat} {c : Ck} (hc : cs[k]? = some c) (hm : mendAt other l c = false) : mendN other l (cs.take (k + 1)) = mendN other l (cs.take k) := by
  unfold mendN
  rw [List.take_add_one, hc, Option.toList_some, List.filter_append, List.filter_cons_of_neg (by rw [hm]; simp)]
  simp
theorem mendN_more {other l : List Hd} {cs : List Ck} {k : Nat} {c : Ck} (hc : cs[k]? = some c) (hm : mendAt other l c = true) : mendN other l (cs.take (k + 1)) = mendN other l (cs.take k) + 1 := by
  unfold mendN
  rw [List.take_add_one, hc, Option.toList_some, List.filter_append, List.filter_cons_of_pos hm]
  simp
/-- where a block is taken -/
theorem mend_find_more {other l : List Hd} {cs : List Ck} (h : CksOk cs) {k : Nat} {c : Ck} (hc : cs[k]? = some c) (hm : mendAt other l c = true) {x : Hd} (hx : findH l c.id = some x) (i : Int) :
    findH (mendL other l (cs.take (k + 1))) i = if i = c.id then some { x with bytes := bytesH other c.id } else findH (mendL other l (cs.take k)) i := by
  unfold mendL
  rw [findH_map _ _ (mdH_id _ _), findH_map _ _ (mdH_id _ _)]
  by_cases e : i = c.id
  · subst e
    rw [if_pos rfl, hx, Option.map_some, mdH_take h hc, if_pos (findH_some hx).2]
    have : (!eqb (blkSum x.bytes) c.sum && goodC other c) = true := by
      unfold mendAt at hm
      rw [Bool.and_eq_true, Bool.and_eq_true] at hm
      have h1 := hm.2.1
      unfold goodC at h1
      rw [hx] at h1
      rw [hm.2.2, Bool.and_true]
      exact h1
    rw [if_pos this]
  · rw [if_neg e]
    cases hf : findH l i with
    | none => rfl
    | some y =>
      have := (findH_some hf).2
      rw [Option.map_some, Option.map_some, mdH_take h hc, if_neg (by omega)]
theorem badL_good {l : List Hd} {cs : List Ck} {k : Nat} {c : Ck} (hc : cs[k]? = some c) (hg : goodC l c = true) : badL l (cs.take (k + 1)) = badL l (cs.take k) := by
  unfold badL
  rw [List.take_add_one, hc, Option.toList_some, List.filter_append, List.filter_cons_of_neg (by rw [hg]; simp)]
  simp
theorem badL_bad {l : List Hd} {cs : List Ck} {k : Nat} {c : Ck} (hc : cs[k]? = some c) (hg : goodC l c = false) : badL l (cs.take (k + 1)) = badL l (cs.take k) ++ [c.id] := by
  unfold badL
  rw [List.take_add_one, hc, Option.toList_some, List.filter_append, List.filter_cons_of_pos (by rw [hg]; rfl)]
  simp
theorem badL_len (l : List Hd) (cs : List Ck) : (badL l cs).length ≤ cs.length := by
  unfold badL
  rw [List.length_map]
  exact List.length_filter_le _ _
theorem mend_len (other l : List Hd) (cs : List Ck) : (mendL other l cs).length = l.length := List.length_map _
theorem mend_no {l : List Hd} {cs : List Ck} {o : List Hd} (h : (storeOk l && (storeOk o && cksOk cs)) = false) : mendOf l cs o = none := by
  unfold mendOf
  rw [h, if_neg (by simp)]
end Go.Sf

/-! What the stand-in for badOf answers, in the ghost's program. -/
namespace Go.Sf
open Go Go.RowKit Go.Proofs Go.Maps Go.Conc Go.WideShapes
theorem findNow_int {i : Int} : ∀ (es : List MapEntry) (j : Nat), (∀ x ∈ es, ∃ k, x.key = .int .i64 k) → ∃ r, Instr.findNow (.int .i64) (.int .i64 i) es j = some r
  | [], _, _ => ⟨_, rfl⟩
  | e :: es, j, h => by
    obtain ⟨k, hk⟩ := h e (by simp)
    unfold Instr.findNow
    rw [hk]
    show ∃ r, (match (if IntKind.i64 = IntKind.i64 then some (i == k) else none) with | some true => some (some (j, e.val)) | some false => Instr.findNow (.int .i64) (.int .i64 i) es (j + 1) | none => none) = some r
    rw [if_pos rfl]
    cases h1 : (i == k) with
    | true => exact ⟨_, rfl⟩
    | false => exact findNow_int es (j + 1) fun x hx => h x (by simp [hx])
theorem check_run {i : Int} (e : Bool) (w : World) : (Instr.checkKey e 10000 3 (.int .i64 i)).run Try.prog w = .ok () w := by
  unfold Instr.checkKey
  simp [go_sem]
theorem check_ev {i : Int} (e : Bool) (w : World) (es : Array Event) : (Instr.checkKey e 10000 3 (.int .i64 i)).events Try.prog w es = es := by
  unfold Instr.checkKey
  simp [go_sem]
theorem look_events {b cl : Nat} {es : Array MapEntry} {i : Int} (w : World) (hb : w.heap[b]? = some (.map es cl)) (hk : ∀ x ∈ es.toList, ∃ k, x.key = .int .i64 k) :
    ∀ e ∈ (Instr.lookup 56 (.map (some b)) (.int .i64 i) true).events Try.prog w #[], e = ⟨.obj b, false, false⟩ := by
  obtain ⟨r, hr⟩ := findNow_int (i := i) es.toList 0 hk
  have g1 : (getObj b).run Try.prog w = .ok (.map es cl) w := MapKept.run_getObj_map hb
  have g2 : ∀ es0, (getObj b).events Try.prog w es0 = es0.push ⟨.obj b, false, false⟩ := fun es0 => by
    simp only [getObj, Sem.events, Sem.runT, hb, Obj.isChan]
  have g3 : ∀ W es0, (zeroValue 35).events Try.prog W es0 = es0 := fun W es0 => by kernel_rfl
  cases r with
  | none => simp [Instr.lookup, go_sem, g1, g2, g3, check_run, check_ev, Instr.findKey, hr]
  | some p => simp [Instr.lookup, go_sem, g1, g2, check_run, check_ev, Instr.findKey, hr]
theorem MapV.look_ok {P : Program} {t k e : TypeId} {b n : Nat} {M : Lit → Option Value} {w : World} (h : MapV P k b n M w) (K : Keyed P k) (ht : P.underlying t = some (.map k e)) {z : Value} (hz : (zeroValue e).run P w = .ok z w) {key : Value} {kl : Lit} (hkey : keyOf P k key = some kl) :
    (Instr.lookup t (.map (some b)) key true).run P w = .ok (.tuple #[(M kl).getD z, .bool (M kl).isSome]) w := by
  obtain ⟨D, ⟨es, cl, hb, F, -, rfl⟩, h2⟩ := h
  have hK := h2 kl (K.key hkey)
  rcases fit_look true K ht hz hb F hkey with ⟨hrun, -, hat⟩ | ⟨e0, y, -, -, hrun, hR, hat, -⟩
  · cases hM : M kl with
    | none => rw [hrun]; rfl
    | some v =>
      have h3 := hK.2 v hM .nil
      rw [hat] at h3
      cases h3
  · cases hM : M kl with
    | some v =>
      have h3 := hK.2 v hM .nil
      rw [hat] at h3
      have h4 : y = (.held e0.val, []) := by unfold rV at hR; exact (Option.some.inj hR).symm
      rw [h4] at h3
      simp only [DataW.held.injEq] at h3
      rw [hrun, h3]
      rfl
    | none =>
      have h4 : y = (.held e0.val, []) := by unfold rV at hR; exact (Option.some.inj hR).symm
      have h5 : ∀ z, e0.val = z := fun z => by
        have := look_at h2 (K.key hkey) (v := e0.val) (z := z) (ps := []) (by rw [hat, h4]; rfl)
        rw [hM] at this
        exact this
      have h6 := (h5 (.bool true)).symm.trans (h5 (.bool false))
      cases h6
theorem keyOf_try : keyOf Try.prog 3 = keyOf TryG.prog 3 := by
  funext v
  unfold keyOf mapKey
  rw [Try.underlying3, TryG.underlying3]
theorem mapV_try {b n : Nat} {M : Lit → Option Value} {w : World} (h : MapV TryG.prog 3 b n M w) : MapV Try.prog 3 b n M w := by
  obtain ⟨D, ⟨es, cl, h1, F, h3, h4⟩, h5⟩ := h
  have hrd : ∀ x, WideElems.rd Try.prog 3 rV x = WideElems.rd TryG.prog 3 rV x := fun x => by unfold WideElems.rd; rw [keyOf_try]
  have hrg : WideElems.rg Try.prog 3 rV = WideElems.rg TryG.prog 3 rV := by funext x; unfold WideElems.rg; rw [hrd]
  exact ⟨D, ⟨es, cl, h1, ⟨F.size, F.stamped, fun x hx => by rw [hrd]; exact F.reads x hx⟩, h3, by rw [hrg]; exact h4⟩, h5⟩
theorem zeroHdT (w : World) : (zeroValue 35).run Try.prog w = .ok (.agg #[.int .i64 0, .slice none 0 0, .int .i64 0]) w := by kernel_rfl
theorem mapV_keys {b n : Nat} {M : Lit → Option Value} {w : World} (h : MapV TryG.prog 3 b n M w) : ∃ es cl, w.heap[b]? = some (.map es cl) ∧ ∀ x ∈ es.toList, ∃ k, x.key = .int .i64 k := by
  obtain ⟨D, h1, -⟩ := h
  obtain ⟨es, cl, hb, F, -, -⟩ := h1
  refine ⟨es, cl, hb, fun x hx => ?_⟩
  obtain ⟨y, hy⟩ := F.reads x hx
  obtain ⟨x', hx', -⟩ := Maps.keyOf_i64 TryG.underlying3 (WideElems.rd_key hy)
  exact ⟨x', hx'⟩
/-- what is known of one sum -/
theorem ckd_of {B b n : Nat} {l : List Hd} {w : World} (hs : StoreAt B b n l w) (c : Ck) (hi : inI c.id) : ∃ d : ChkD, d.id = c.id ∧ d.sum = c.sum ∧ bad1 d.sum d.l d.fnd = .bool (!goodC l c) ∧ RdChk (.map (some b)) w w.heap.size d := by
  obtain ⟨M, hV, hM⟩ := hs
  obtain ⟨es, cl, hb, hkeys⟩ := mapV_keys hV
  have hsol : Solid w b := .inr ⟨es, cl, hb⟩
  have hkey := keyI hi
  have hkeyT : keyOf Try.prog 3 (.int .i64 c.id) = some (kI c.id) := by rw [keyOf_try]; exact hkey
  have main : ∀ (d : ChkD), d.id = c.id → (M (kI c.id)).getD (.agg #[.int .i64 0, .slice none 0 0, .int .i64 0]) = .agg #[.int .i64 d.u, .slice d.base d.l.length d.cap, .int .i64 d.q] → (M (kI c.id)).isSome = d.fnd →
      (∀ k (h : k < d.l.length), ∃ b' off, d.base = some ⟨b', off, none⟩ ∧ b' < w.heap.size ∧ w.cell? ⟨b', off + k, none⟩ = some (.int .i64 d.l[k])) → RdChk (.map (some b)) w w.heap.size d := by
    intro d h1 h2 h3 h4
    refine ⟨fun w₁ g1 g2 => ?_, fun w₁ g1 g2 => ?_, h4⟩
    · have hb1 : w₁.heap[b]? = w.heap[b]? := g2 b hV.lt hsol
      refine ⟨?_, fun e he => ?_⟩
      · rw [h1, MapV.look_ok (mapV_try (hV.block hb1)) (int_keyed Try.underlying3) Try.underlying56 (zeroHdT w₁) hkeyT, h2, h3]
      · rw [h1] at he
        rw [look_events w₁ (hb1.trans hb) hkeys e he]
        exact ⟨b, false, rfl, hV.lt, hsol⟩
    · have hb1 : w₁.heap[b]? = w.heap[b]? := g2 b hV.lt hsol
      have := MapV.look_ok (hV.block hb1) lawI underStore (zeroHd w₁) hkey
      rw [h2, h3] at this
      rw [h1]
      exact this
  cases hf : findH l c.id with
  | none =>
    have hr := (hM c.id).1 hf
    refine ⟨⟨c.id, c.sum, 0, 0, none, 0, [], false⟩, rfl, rfl, ?_, main _ rfl (by rw [hr]; rfl) (by rw [hr]; rfl) (fun k h => absurd h (by simp))⟩
    unfold bad1 goodC
    rw [hf]
    rfl
  | some h =>
    obtain ⟨u, hr, hu⟩ := (hM c.id).2 h hf
    obtain ⟨A, cp, rfl, hux⟩ := hu
    refine ⟨⟨c.id, c.sum, h.id, h.uses, A, cp, h.bytes, true⟩, rfl, rfl, ?_, main _ rfl (by rw [hr]; rfl) (by rw [hr]; rfl) (fun k hk => ?_)⟩
    · unfold bad1 goodC
      rw [hf]
      rfl
    · obtain ⟨b', o', h1, -, h3, -, h5⟩ := Ints.at_ hux (List.getElem?_eq_getElem hk)
      exact ⟨b', o', h1, h3, h5 w (Ext.refl w)⟩
theorem readP_of {B B' b n : Nat} {l : List Hd} {w : World} {A : Option Addr} {c : Nat} {cs : List Ck} (hs : StoreAt B b n l w) (hA : SlIn B' 64 2 (ECk B') w A c cs) (hn : cs.length ≤ 16) :
    ∃ D, ReadP (.map (some b)) (.slice A cs.length c) w.heap.size w (some b) A cs.length c D ∧ ∀ j ck, cs[j]? = some ck → bad1 (D j).sum (D j).l (D j).fnd = .bool (!goodC l ck) := by
  have key : ∀ j : Nat, ∃ d : ChkD, ∀ ck, cs[j]? = some ck → d.id = ck.id ∧ d.sum = ck.sum ∧ bad1 d.sum d.l d.fnd = .bool (!goodC l ck) ∧ RdChk (.map (some b)) w w.heap.size d := fun j => by
    cases hj : cs[j]? with
    | none => exact ⟨⟨0, 0, 0, 0, none, 0, [], false⟩, fun ck h => by cases h⟩
    | some ck =>
      obtain ⟨b', o', -, -, -, hi, -⟩ := Cks.at_ hA hj
      obtain ⟨d, hd⟩ := ckd_of hs ck hi
      exact ⟨d, fun ck' h => by cases h; exact hd⟩
  obtain ⟨D, hD⟩ := Classical.axiomOfChoice key
  refine ⟨D, ⟨rfl, rfl, hn, fun j hj => ?_⟩, fun j ck h => (hD j ck h).2.2.1⟩
  obtain ⟨ck, hck⟩ := get_of_lt hj
  obtain ⟨b', o', h1, -, h3, -, -, h4, h5⟩ := Cks.at_ hA hck
  obtain ⟨e1, e2, -, e4⟩ := hD j ck hck
  exact ⟨⟨b', o', h1, h3, by rw [e1]; exact h4 w (Ext.refl w), by rw [e2]; exact h5 w (Ext.refl w)⟩, e4⟩
/-- two readings agree -/
theorem readP_same {x y : Value} {v : World} {m m' : Option Nat} {base base' : Option Addr} {n n' cap cap' : Nat} {D D' : Nat → ChkD} (h : ReadP x y v.heap.size v m base n cap D) (h' : ReadP x y v.heap.size v m' base' n' cap' D') : n = n' ∧ ∀ j, j < n → bad1 (D j).sum (D j).l (D j).fnd = bad1 (D' j).sum (D' j).l (D' j).fnd := by
  have hy := h.hy.symm.trans h'.hy
  injection hy with y1 y2 y3
  subst y1 y2
  refine ⟨rfl, fun j hj => ?_⟩
  obtain ⟨⟨b1, o1, p1, -, p3, p4⟩, r1⟩ := h.chk j hj
  obtain ⟨⟨b2, o2, q1, -, q3, q4⟩, r2⟩ := h'.chk j hj
  rw [p1] at q1
  simp only [Option.some.injEq, Addr.mk.injEq, and_true] at q1
  obtain ⟨rfl, rfl⟩ := q1
  rw [p3] at q3
  rw [p4] at q4
  simp only [Option.some.injEq, Value.int.injEq, true_and] at q3 q4
  have l1 := (r1.look v (Nat.le_refl _) fun _ _ _ => rfl).1
  have l2 := (r2.look v (Nat.le_refl _) fun _ _ _ => rfl).1
  rw [q3] at l1
  rw [l1] at l2
  simp only [Result.ok.injEq, Value.tuple.injEq, Array.mk.injEq, List.cons.injEq, Value.agg.injEq, Value.int.injEq, Value.slice.injEq, Value.bool.injEq, and_true, true_and] at l2
  obtain ⟨⟨-, ⟨l3, l4, -⟩, -⟩, l5⟩ := l2
  have l6 : (D j).l = (D' j).l := by
    refine List.ext_getElem l4 fun k h1 h2 => ?_
    obtain ⟨b1, o1, p1, -, p3⟩ := r1.ints k h1
    obtain ⟨b2, o2, q1, -, q3⟩ := r2.ints k h2
    rw [← l3, p1] at q1
    simp only [Option.some.injEq, Addr.mk.injEq, and_true] at q1
    obtain ⟨rfl, rfl⟩ := q1
    rw [p3] at q3
    simpa using q3
  rw [q4, l6, l5]
/-- the ghost has probed -/
def Probed (e : Ending) (w : World) : Prop := (∃ ch, e = .panicked ch) ∧ (∃ b x y, w.heap[b]? = some (logOf 1 x y) ∧ b + 1 = w.heap.size ∧ PreB x y b w) ∧ ¬ San w.tape
/-- a row of bools -/
def BlsAt (g : Nat) (l : List Hd) (cs : List Ck) (w : World) : Prop := ∀ i c, cs[i]? = some c → ∀ W, Ext w W → W.cell? ⟨g, i, none⟩ = some (.bool (!goodC l c))
end Go.Sf
namespace Go.Proofs
open Go Go.RowKit Go.Maps Go.Conc Go.WideShapes Go.Sf
@[simp] theorem TryG.call32 (args : Array Value) (w : World) : Sem.run TryG.prog (callFunc 32 args) w = .ok (.enter 32 args) w := by
  have h : TryG.prog.funcs[32]? = some seqBad := gp32
  have h2 : seqBad.name = "seq" := rfl
  have h3 : seqBad.body.isSome = true := rfl
  simp [callFunc, h, h2]
  simp [seqBad]
end Go.Proofs
namespace Go.Sf
open Go Go.RowKit Go.Proofs Go.Maps Go.Conc Go.WideShapes
theorem argAt_two (x y : Value) : argAt GP 32 #[x, y] 0 = x ∧ argAt GP 32 #[x, y] 1 = y := by
  refine ⟨?_, ?_⟩ <;> rw [argAt_bad, getD_pad] <;> rfl
theorem badOf_c {B B' b n : Nat} {l : List Hd} {v : Value} {cs : List Ck} (w : World) (hs : StoreAt B b n l w) (hc : Cks B' w v cs) (hn : cs.length ≤ 16) :
    Calls TryG.prog 32 #[.map (some b), v] w fun e w' => (∃ g, e = .returned (.slice (some ⟨g, 0, none⟩) cs.length cs.length) ∧ Ext w w' ∧ BlsAt g l cs w') ∨ Probed e w' := by
  obtain ⟨A, c, rfl, hA⟩ := hc
  obtain ⟨D, hP, hD⟩ := readP_of hs hA hn
  obtain ⟨a1, a2⟩ := argAt_two (.map (some b)) (.slice A cs.length c)
  have h := bad_c #[.map (some b), .slice A cs.length c] w (by rw [a1, a2]; exact ⟨_, _, _, _, _, hP⟩)
  rw [a1, a2] at h
  refine h.mono fun e w' hw => ?_
  obtain ⟨ht, ⟨u, rfl, hR⟩ | ⟨hch, hh, hS⟩⟩ := hw
  · obtain ⟨m', base', n', cap', D', hP', rfl, ho, hou, hsz, hlow, ⟨arr, ha1, ha2, ha3⟩, -⟩ := hR
    obtain ⟨hn', hbad⟩ := readP_same hP hP'
    subst hn'
    refine .inl ⟨_, rfl, ⟨ho, ht, hou, by omega, hlow⟩, fun i ck hi W e => ?_⟩
    have hlt := lt_of_get hi
    have hb : Blk w' (w.heap.size + 1) 4 arr := ha1
    rw [(hb.ext e).cell, ha3 i hlt, ← hbad i hlt, hD i ck hi]
  · refine .inr ⟨hch, ⟨w.heap.size, .map (some b), .slice A cs.length c, by rw [hh]; exact Array.getElem?_push_size .., by rw [hh]; exact (Array.size_push ..).symm, ?_⟩, by rw [ht]; exact hS⟩
    refine preB_stays _ _ _ w w' ⟨_, _, _, _, _, hP⟩ (by rw [hh, Array.size_push]; omega) fun k o hk ho _ => ?_
    rw [hh, Array.getElem?_push_lt hk]
    rw [← ho]
    exact (Array.getElem?_eq_getElem hk).symm
end Go.Sf

/-! The blocks of a store whose blocks may be alike are listed, in the order of their ids. -/
namespace Go.Sf
open Go Go.RowKit Go.Proofs Go.Maps Go.Sort
/-- ids that rise; nothing is said of the blocks -/
def StIds (l : List Hd) : Prop := l.length ≤ 16 ∧ ∀ (k : Nat) (x : Hd), l[k]? = some x → inI x.id ∧ inI x.uses ∧ ∀ (j : Nat) (y : Hd), k = j + 1 → l[j]? = some y → y.id < x.id
theorem StIds.asc {l : List Hd} (h : StIds l) : ∀ (d i : Nat) (x y : Hd), l[i]? = some x → l[i + 1 + d]? = some y → x.id < y.id := by
  intro d
  induction d with
  | zero => intro i x y hx hy; exact (h.2 _ _ hy).2.2 i x rfl hx
  | succ d ih =>
    intro i x y hx hy
    have hlt := lt_of_get hy
    obtain ⟨z, hz⟩ := get_of_lt (l := l) (k := i + 1 + d) (by omega)
    have h1 := ih i x z hx hz
    have h2 := (h.2 _ _ hy).2.2 (i + 1 + d) z rfl hz
    omega
theorem StIds.inj {l : List Hd} (h : StIds l) {i j : Nat} {x y : Hd} (hx : l[i]? = some x) (hy : l[j]? = some y) (e : x.id = y.id) : i = j := by
  rcases Nat.lt_trichotomy i j with hij | hij | hij
  · have := h.asc (j - (i + 1)) i x y hx (by rw [show i + 1 + (j - (i + 1)) = j by omega]; exact hy); omega
  · exact hij
  · have := h.asc (i - (j + 1)) j y x hy (by rw [show j + 1 + (i - (j + 1)) = i by omega]; exact hx); omega
theorem StIds.find {l : List Hd} (h : StIds l) {k : Nat} {x : Hd} (hx : l[k]? = some x) : findH l x.id = some x := by
  cases hf : findH l x.id with
  | none => exact absurd rfl (findH_none hf x (List.mem_of_getElem? hx))
  | some y =>
    obtain ⟨h1, h2⟩ := findH_some hf
    obtain ⟨j, hj⟩ := List.mem_iff_getElem?.1 h1
    have e := h.inj hj hx h2
    subst e
    rw [hj] at hx
    rw [hx]
theorem StIds.idIn {s : List Hd} (hs : StIds s) {k : Nat} {x : Hd} (hx : s[k]? = some x) : inI x.id := (hs.2 k x hx).1
theorem StoreOk.stIds {s : List Hd} (hs : StoreOk s) : StIds s := ⟨hs.1, fun k x hx => by
  have h := hd_ok (hs.2 k x hx).1
  exact ⟨by unfold inI; have := h.1; omega, by unfold inI; have := h.2.2; omega, (hs.2 k x hx).2.1⟩⟩
/-- .. and what comes of a store where bytes are taken from another one -/
theorem StIds.map {s : List Hd} (hs : StIds s) (f : Hd → Hd) (h1 : ∀ h, (f h).id = h.id) (h2 : ∀ h, (f h).uses = h.uses) : StIds (s.map f) := by
  refine ⟨by rw [List.length_map]; exact hs.1, fun k x hx => ?_⟩
  rw [List.getElem?_map, Option.map_eq_some_iff] at hx
  obtain ⟨x, hx, rfl⟩ := hx
  obtain ⟨q1, q2, q3⟩ := hs.2 k x hx
  refine ⟨by rw [h1]; exact q1, by rw [h2]; exact q2, fun j y hj hy => ?_⟩
  rw [List.getElem?_map, Option.map_eq_some_iff] at hy
  obtain ⟨y, hy, rfl⟩ := hy
  rw [h1, h1]
  exact q3 j y hj hy
theorem wids_asc {s : List Hd} (hs : StIds s) : (s.map (·.id)).Pairwise (· < ·) := by
  rw [List.pairwise_iff_getElem]
  intro i j hi hj hij
  rw [List.length_map] at hi hj
  simp only [List.getElem_map]
  have h1 : s[i]? = some s[i] := by simp [hi]
  have h2 : s[i + 1 + (j - i - 1)]? = some s[j] := by rw [show i + 1 + (j - i - 1) = j by omega]; simp [hj]
  exact hs.asc (j - i - 1) i _ _ h1 h2
theorem wids_sort {s : List Hd} (hs : StIds s) : (s.map (·.id)).mergeSort leI = s.map (·.id) :=
  List.mergeSort_of_pairwise ((wids_asc hs).imp fun h => decide_eq_true (Int.le_of_lt h))
theorem wstore_keys {B b n : Nat} {s : List Hd} {w : World} (hs : StIds s) (h : StoreAt B b n s w) : ∃ D : DataW Value, w.ownsMap TryG.prog 3 rV b n D ∧ (s.map (·.id)).Perm (intKeys D) ∧ Maps.size D = s.length := by
  obtain ⟨M, ⟨D, h1, h2⟩, h3⟩ := h
  refine ⟨D, h1, ?_⟩
  obtain ⟨es, hD, hp⟩ := h1.tidy lawI
  obtain ⟨es', hD', hk⟩ := h1.keysOf
  rw [hD] at hD'
  cases hD'
  have hks : ∀ p ∈ es, ∃ x, p.1 = .int .i64 x := fun p hp' => by
    obtain ⟨key, hkey⟩ := hk p hp'
    obtain ⟨x, -, hx, -⟩ := Maps.keyOf_i64 TryG.underlying3 hkey
    exact ⟨x, hx⟩
  have hperm : (s.map (·.id)).Perm (intKeys D) := by
    rw [hD]
    refine perm_intKeys hp hks ((wids_asc hs).imp fun h => Int.ne_of_lt h) fun x => ?_
    rw [← hD, (h2 (.int .i64 x) (by simp [WideAt.IsKeyLit])).1]
    have h4 := h3 x
    have e : kI x = .int .i64 x := rfl
    rw [e] at h4
    constructor
    · intro hx
      obtain ⟨y, hy, rfl⟩ := List.mem_map.1 hx
      obtain ⟨k, hk⟩ := List.mem_iff_getElem?.1 hy
      obtain ⟨u, hu, -⟩ := h4.2 y (hs.find hk)
      rw [hu]; rfl
    · intro hx
      cases hf : findH s x with
      | none => rw [h4.1 hf] at hx; cases hx
      | some y =>
        obtain ⟨k1, k2⟩ := findH_some hf
        exact List.mem_map.2 ⟨y, k1, k2⟩
  refine ⟨hperm, ?_⟩
  have e1 := hperm.length_eq
  rw [hD] at e1 ⊢
  simpa [intKeys, Maps.size] using e1.symm
/-- slices.Sorted of the ids -/
theorem wSortedI_c {B b n : Nat} {s : List Hd} {w : World} (hs : StIds s) (h : StoreAt B b n s w) :
    Calls TryG.prog 56 #[.func (.func 86) #[] #[.pointer (some ⟨w.heap.size, 0, none⟩)]] (w.alloc (.cells #[.map (some b)] 56))
      (RetP (fun v w' => Ints w.heap.size w' v (s.map (·.id))) (w.alloc (.cells #[.map (some b)] 56))) := by
  obtain ⟨D, h1, h2, h3⟩ := wstore_keys hs h
  have h16 := hs.1
  refine (TryG.slices_Sorted_I b n D rV w h1 (by rw [h3]; unfold maxLen; omega) (by rw [h3]; omega)).mono ?_
  rintro e w' ⟨v, ss, rfl, hp, hrow, -, hb⟩
  have e1 : ss.mergeSort leI = s.map (·.id) := by rw [mergeSort_of_perm_i (hp.trans h2.symm), wids_sort hs]
  have e2 : (ss.mergeSort fun x y => decide (x ≤ y)) = s.map (·.id) := e1
  have e3 : ss.length = (s.map (·.id)).length := by
    have := congrArg List.length e1
    simpa using this
  rw [e2, e3] at hrow
  refine ⟨v, rfl, ?_, hb⟩
  refine SlOf.of_own (E := EInt) hrow (by simp) (by rw [List.length_map]; unfold lim; omega) fun k x cs hx hj => ?_
  have hx' := hx
  rw [List.getElem?_map, Option.map_eq_some_iff] at hx
  obtain ⟨y, hy, rfl⟩ := hx
  have := hj 0 (by omega)
  simp only [Nat.mul_one, Nat.add_zero, List.getElem?_map, hy, Option.map_some] at this
  exact ⟨by rw [Nat.mul_one]; exact this, hs.idIn hy⟩
set_option maxRecDepth 4000 in
set_option maxHeartbeats 2000000 in
theorem wstoreList_c {B b n : Nat} {s : List Hd} (w : World) (hs : StIds s) (h : StoreAt B b n s w) :
    Calls TryG.prog 34 #[.map (some b)] w (RetP (fun v w' => ∃ lu, lu.map Prod.fst = s ∧ OwnS w.heap.size 35 3 (EHdU w.heap.size) w' v lu ∧ Sep lu ∧ Within w w' lu) w) := by
  have h16 := hs.1
  have HS := Lib.hid hs
  have Cs := fun W (e : Ext w W) => wSortedI_c hs (h.ext e)
  obtain ⟨D, hO, -, hD⟩ := wstore_keys hs h
  obtain ⟨M, hV, hM⟩ := h
  have HV : Hid (∀ W, Ext w W → MapV TryG.prog 3 b n M W) := Lib.hid fun W e => hV.ext e
  have HM : Hid (∀ W, Ext w W → MapHd B W s M) := Lib.hid fun W e => hM.ext e
  generalize hq : s.length = q at *
  have Hq := Lib.hid hq
  obtain ⟨cs0, hcs, hmk⟩ := run_mk0 el_Hd q (by unfold lim; omega)
  have HO0 := Lib.hid (OwnS.made0 35 3 (EHdU w.heap.size) w cs0 hcs (Nat.le_refl _) (by unfold maxLen; omega))
  have e0 : Ext w (w.alloc (.cells cs0 35)) := (Ext.refl w).alloc _
  clear hV hM hq hs hcs
  go_enter TryG.func34, TryG.ntmps34
  go_wp2_with (at_len; refine wpList_len_own _ rfl _ _ rfl 3 35 underStore rV b n D rfl hO ?_; rw [hD])
  clear hmk hO hD
  refine (TryG.maps_Keys_I (some b) _).mono ?_
  rintro e w1 ⟨rfl, rfl⟩
  go_wp2_with fail
  have Cs0 := Cs _ e0
  rw [World.size_alloc] at Cs0
  refine Cs0.mono ?_
  rintro e w2 ⟨vk, rfl, hK, he2⟩
  obtain ⟨Ak, ck, rfl, hAk⟩ := hK
  have HAk : Hid (Ints 0 w2 (.slice Ak (s.map (·.id)).length ck) (s.map (·.id))) := Lib.hid (Ints.keep ⟨_, _, rfl, hAk⟩ (Nat.zero_le _) (fun _ _ _ => rfl))
  rw [List.length_map, Hq.out] at HAk ⊢
  have e2 : Ext (w.alloc (.cells cs0 35)) w2 := ((Ext.refl _).alloc _).trans he2
  have HO2 := Lib.hid (HO0.out.ext (EHdU_ok _) e2)
  have E2 := e0.trans e2
  clear Cs Cs0 hAk he2 e2 HO0 e0
  go_wp2
  go_loopw [3, 14] (fun v i wr => ∃ (j : Nat) (lu : List (Hd × Value)), j ≤ q ∧ i = .int .i64 j ∧ Ext w wr ∧ Hid (Ints 0 wr (.slice Ak q ck) (s.map (·.id))) ∧ OwnS w.heap.size 35 3 (EHdU w.heap.size) wr v lu ∧ Hid (lu.map Prod.fst = s.take j) ∧ Hid (Sep lu ∧ Within w wr lu)) (fun _ i _ => q - (RowKit.intOf i).toNat)
  case atStart => exact ⟨0, [], by omega, rfl, E2, HAk, HO2.out, Lib.hid rfl, Lib.hid ⟨List.Pairwise.nil, fun q hq => by simp at hq⟩⟩
  case round =>
    obtain ⟨j, L, hj, rfl, he, hIk, hO, hLm, hSW⟩ := hrel
    by_cases hlt : j < q
    · obtain ⟨x, hx⟩ := get_of_lt (l := s) (k := j) (by rw [Hq.out]; exact hlt)
      have hx' : (s.map (·.id))[j]? = some x.id := by rw [List.getElem?_map, hx]; rfl
      obtain ⟨Ak', ck', hvk, hAk⟩ := hIk.out
      rw [List.length_map, Hq.out] at hvk
      injection hvk with ek1 ek2 ek3
      subst ek1; subst ek3
      clear ek2
      obtain ⟨b2, o2, rfl, -, -, hxi, hc0⟩ := Ints.at_ hAk hx'
      have q0 := hc0 wr (Ext.refl _)
      obtain ⟨u, hr, hu⟩ := (HM.out wr he x.id).2 x (HS.out.find hx)
      have hku : inI x.uses := (HS.out.2 j x hx).2.1
      have hLl : L.length = j := by
        have := congrArg List.length hLm.out
        rw [List.length_map, List.length_take] at this
        have := Hq.out
        omega
      obtain ⟨Ax, cx, rfl, hux⟩ := hu
      have Htk := Lib.hid (take_succ_get hx)
      obtain ⟨xk, xb, xu⟩ := x
      simp only at hxi hku hux hr Htk hc0 q0
      have hkey := keyI hxi
      have hVr := HV.out wr he
      have HO := Lib.hid hO
      have HI : Hid (∀ W, Ext wr W → Ints B W (.slice Ax xb.length cx) xb) := Lib.hid fun W e => Ints.ext (w := wr) ⟨_, _, rfl, hux⟩ e
      have hbk := Blk.new wr 35 #[.int .i64 xk, .slice Ax xb.length cx, .int .i64 xu]
      have d1 := fun W (e : Ext _ W) => hbk.at_ (i := 1) (u := .slice Ax xb.length cx) rfl W e
      have d2 := fun W (e : Ext _ W) => hbk.at_ (i := 2) (u := .int .i64 xu) rfl W e
      have ea : Ext wr (wr.alloc (.cells #[.int .i64 xk, .slice Ax xb.length cx, .int .i64 xu] 35)) := (Ext.refl wr).alloc _
      clear hc0 hx hx' hbk hux hO hAk
      go_wp2_with (at_lookup; refine wp_mlook_some rfl _ _ rfl lawI underStore (zeroHd _) rfl hVr _ _ rfl hkey hr ?_)
      refine wp_region_hold (fun W => W.cell? ⟨wr.heap.size, 1, none⟩ = some (.slice Ax xb.length cx) ∧ W.cell? ⟨wr.heap.size, 2, none⟩ = some (.int .i64 xu)) 9 [(0, true), (1, true), (2, true), (3, true), (5, true), (6, true), (4, false), (7, true), (8, false)] (by kernel_rfl) (by kernel_rfl) ?_ ?_
      · exact ⟨d1 _ (Ext.refl _).drew, d2 _ (Ext.refl _).drew⟩
      (repeat (first | (apply hw_read (by rfl) (by rfl); (· (intro W hW; (try dsimp only at hW); go_simp; (first | done | rfl | (rw [if_pos] <;> first | omega | rfl)))); (try simp only [Act.put, List.setIfInBounds_toArray, List.set_cons_zero, List.set_cons_succ])) | (refine hw_skip (by rfl) (by rfl) ?_; (try simp only [Act.put, List.setIfInBounds_toArray, List.set_cons_zero, List.set_cons_succ]))))
      refine hw_step (by rfl) ?_
      go_wp2_with (go_at_call 33; refine (Clone_intN_c (xs := xb) _ (HI.out _ (ea.drew))).mono ?_; rintro e w4 ⟨u9, rfl, ⟨⟨A9, c9, rfl, hu9⟩, hnw⟩, he9⟩)
      have he5 := ea.drew.trans he9
      have he6 := he.trans he5
      have he4 := (Ext.refl (wr.alloc (.cells #[.int .i64 xk, .slice Ax xb.length cx, .int .i64 xu] 35))).drew.trans he9
      have Hu9 : Hid (Ints w.heap.size w4 (.slice A9 xb.length c9) xb) := Lib.hid (Ints.keep ⟨_, _, rfl, hu9⟩ (he.trans ea.drew).size (fun _ _ _ => rfl))
      have HO6 := Lib.hid (HO.out.ext (EHdU_ok _) he5)
      have HI6 := Lib.hid (hIk.out.ext he5)
      have hsz5 : wr.heap.size ≤ (wr.alloc (.cells #[.int .i64 xk, .slice Ax xb.length cx, .int .i64 xu] 35)).drew.heap.size := ea.drew.size
      have HSW1 : Hid (Sep (L ++ [((⟨xk, xb, xu⟩ : Hd), .slice A9 xb.length c9)]) ∧ Within w w4 (L ++ [((⟨xk, xb, xu⟩ : Hd), .slice A9 xb.length c9)])) := Lib.hid (by
        have hW1 : Within (wr.alloc (.cells #[.int .i64 xk, .slice Ax xb.length cx, .int .i64 xu] 35)).drew w4 [((⟨xk, xb, xu⟩ : Hd), Value.slice A9 xb.length c9)] := fun q hq b hb => by rw [List.mem_singleton] at hq; subst hq; exact hnw b hb
        exact ⟨hSW.out.1.append (List.pairwise_singleton _ _) hSW.out.2 hW1 hsz5, (hSW.out.2.mono (Nat.le_refl _) he5.size).append (hW1.mono (Nat.le_trans he.size hsz5) (Nat.le_refl _))⟩)
      clear he9 hu9 hnw hsz5 hSW
      refine ⟨⟨d1 _ he4, d2 _ he4⟩, ?_⟩
      (repeat (first | (apply hw_read (by rfl) (by rfl); (· (intro W hW; (try dsimp only at hW); go_simp; (first | done | rfl | (rw [if_pos] <;> first | omega | rfl)))); (try simp only [Act.put, List.setIfInBounds_toArray, List.set_cons_zero, List.set_cons_succ])) | (refine hw_skip (by rfl) (by rfl) ?_; (try simp only [Act.put, List.setIfInBounds_toArray, List.set_cons_zero, List.set_cons_succ]))))
      refine hw_step (by rfl) ?_
      go_wp2
      refine ⟨⟨d1 _ (he4.alloc _), d2 _ (he4.alloc _)⟩, ?_⟩
      (refine hw_nil ?_; (try simp only [List.drop_succ_cons, List.drop_zero]))
      go_wp2_with (at_builtin; go_must (refine wp_ap1G (B := w.heap.size) (by rfl) _ _ (by rfl) el_Hd (EHdU_ok _) he6.size _ L [(⟨xk, xb, xu⟩, .slice A9 xb.length c9)] (by rfl) HO6.out 1 1 rfl #[.int .i64 xk, .slice A9 xb.length c9, .int .i64 xu] _ (by rfl) (by first | rfl | simp) rfl (oneHd rfl) (one_E (ehdU_of (x := ⟨xk, xb, xu⟩) hxi Hu9.out hku)) ?_ ?_))
      · rw [hLl]; simp; unfold lim; omega
      · intro v' w' hO' hgr hk'
        have he' : Ext w w' := OwnS.grown_ext (HO6.out.ext (EHdU_ok _) ((Ext.refl _).alloc _)) (he6.alloc _) hgr
        have HI7 := Lib.hid (HI6.out.keepT hk' (by decide))
        have HO' := Lib.hid hO'
        have HSW2 := Lib.hid (And.intro HSW1.out.1 (HSW1.out.2.mono (Nat.le_refl _) (show w4.heap.size ≤ w'.heap.size from by have := hgr.size; simp at this; omega)))
        clear hgr hO' HSW1 hk' HI6
        go_wp2
        refine NoPanic.normal ?_
        (try dsimp only [Exit.then])
        (try go_wp2)
        go_roundw
        case rel => exact ⟨j + 1, _, by omega, by go_num, he', HI7, HO'.out, Lib.hid (by rw [Htk.out, ← hLm.out]; simp), HSW2⟩
        case measure => simp [RowKit.intOf]; omega
    · have hjs : j = q := by omega
      subst hjs
      have hm : L.map Prod.fst = s := by rw [hLm.out]; exact List.take_of_length_le (by rw [Hq.out]; exact Nat.le_refl _)
      have HO := Lib.hid hO; have Hm := Lib.hid hm
      obtain ⟨A', c', rfl⟩ := hO.form
      clear hO hm
      go_wp2
      go_ret
      exact ⟨_, rfl, ⟨L, Hm.out, HO.out, hSW.out.1, hSW.out.2⟩, he⟩
theorem wstoreListU_c {B b n : Nat} {s : List Hd} (w : World) (hs : StIds s) (h : StoreAt B b n s w) :
    Calls TryG.prog 34 #[.map (some b)] w (RetP (fun v w' => ∃ lu, lu.map Prod.fst = s ∧ HdsU w.heap.size w' v lu ∧ Sep lu ∧ Within w w' lu) w) :=
  (wstoreList_c w hs h).mono fun _ _ ⟨v, h1, ⟨lu, h2, h3, h4, h5⟩, h6⟩ => ⟨v, h1, ⟨lu, h2, h3.sl (EHdU_ok _) (Nat.le_refl _) (by have := congrArg List.length h2; rw [List.length_map] at this; have := hs.1; unfold lim; omega), h4, h5⟩, h6⟩
end Go.Sf

/-! The program's checks of sums, and what it gets of a store. -/
namespace Go.Sf
open Go Go.RowKit Go.Proofs Go.Maps
/-- the id ahead of k -/
def lastCk (l : List Ck) : Nat → Int
  | 0 => 0
  | k + 1 => ((l[k]?).map (·.id)).getD 0
def CkAt (l : List Ck) (k : Nat) (c : Ck) : Prop := (1 ≤ c.id ∧ c.id ≤ 99) ∧ (0 ≤ c.sum ∧ c.sum ≤ 9972) ∧ ∀ (j : Nat) (y : Ck), k = j + 1 → l[j]? = some y → y.id < c.id
theorem cks_bad {l : List Ck} {k : Nat} {c : Ck} (hc : l[k]? = some c) (h : ¬ CkAt l k c) : cksOk l = false := cksOk_false.2 fun hh => h (hh.2 k c hc)
set_option maxRecDepth 4000 in
set_option maxHeartbeats 4000000 in
theorem checksValid_c {B : Nat} {v : Value} {l : List Ck} (w : World) (h : Cks B w v l) : Calls TryG.prog 31 #[v] w (Ret (.bool (cksOk l)) w) := by
  obtain ⟨A, c, rfl, hA⟩ := h
  have hl := hA.2.2.1
  have hlc := hA.1
  unfold lim at hl
  generalize hn : l.length = n at *
  have Hn := Lib.hid hn; clear hn
  have HA := Lib.hid hA; clear hA
  by_cases h16 : 16 < n
  · have h16' : (16 : Int) < n := by omega
    have Hr : Hid (cksOk l = false) := Lib.hid (cksOk_false.2 fun h => by have := h.1; have := Hn.out; omega)
    go_enter TryG.func31, TryG.ntmps31
    go_wp2
    go_ret
    exact ⟨ret_b Hr.out.symm, Ext.refl _⟩
  have h16' : ¬ (16 : Int) < n := by omega
  go_enter TryG.func31, TryG.ntmps31
  go_wp2
  go_loopw [3, 11] (fun q i wr => ∃ k : Nat, k ≤ n ∧ i = .int .i64 k ∧ q = .int .i64 (lastCk l k) ∧ Ext w wr ∧ Hid (∀ j h, j < k → l[j]? = some h → CkAt l j h)) (fun _ i _ => n - (RowKit.intOf i).toNat)
  case atStart => exact ⟨0, by omega, rfl, rfl, Ext.refl _, Lib.hid fun j h hj => absurd hj (by omega)⟩
  case round =>
    obtain ⟨k, hk, rfl, rfl, he, hall⟩ := hrel
    by_cases hlt : k < n
    · obtain ⟨x, hx⟩ := get_of_lt (l := l) (k := k) (by rw [Hn.out]; exact hlt)
      obtain ⟨b, o, rfl, -, -, hki, hku, hc0, hc1⟩ := Cks.at_ HA.out hx
      have Hx := Lib.hid hx
      have Hlast : Hid ((k = 0 ∧ lastCk l k = 0) ∨ ∃ j y, k = j + 1 ∧ l[j]? = some y ∧ lastCk l k = y.id ∧ 1 ≤ y.id) := Lib.hid (by
        cases k with
        | zero => exact .inl ⟨rfl, rfl⟩
        | succ j =>
          obtain ⟨y, hy⟩ := get_of_lt (l := l) (k := j) (by rw [Hn.out]; omega)
          exact .inr ⟨j, y, rfl, hy, by rw [lastCk, hy]; rfl, (hall.out j y (by omega) hy).1.1⟩)
      have Hnext : Hid (lastCk l (k + 1) = x.id) := Lib.hid (by rw [lastCk, hx]; rfl)
      obtain ⟨xk, xs⟩ := x
      simp only at hki hku hc0 hc1 Hnext
      have q0 := hc0 wr he; have q1 := hc1 wr he
      have hbk := Blk.new wr 64 #[.int .i64 xk, .int .i64 xs]
      have d0 := fun W (e : Ext _ W) => hbk.at_ (i := 0) (u := .int .i64 xk) rfl W e
      have d1 := fun W (e : Ext _ W) => hbk.at_ (i := 1) (u := .int .i64 xs) rfl W e
      have ea : Ext wr (wr.alloc (.cells #[.int .i64 xk, .int .i64 xs] 64)) := (Ext.refl wr).alloc _
      have Hbad2 : Hid (xk ≤ lastCk l k → cksOk l = false) := Lib.hid fun h => by
        refine cks_bad Hx.out fun hh => ?_
        obtain ⟨h5, h6, h7⟩ := hh
        rcases Hlast.out with ⟨h1, h2⟩ | ⟨j, y, h1, h2, h3, h4⟩
        · simp only at h5
          omega
        · have := h7 j y h1 h2
          simp only at this
          omega
      have Hbad : Hid (¬ ((1 ≤ xk ∧ xk ≤ 99) ∧ (0 ≤ xs ∧ xs ≤ 9972)) → cksOk l = false) := Lib.hid fun h => cks_bad Hx.out fun hh => h ⟨hh.1, hh.2.1⟩
      have Hgood : Hid (¬ xk ≤ lastCk l k → xk ≤ 99 → 0 ≤ xs → xs ≤ 9972 → CkAt l k ⟨xk, xs⟩) := Lib.hid fun h1 h2 h3 h4 => by
        refine ⟨⟨?_, h2⟩, ⟨h3, h4⟩, fun j y hj hy => ?_⟩
        · rcases Hlast.out with ⟨g1, g2⟩ | ⟨j, y, g1, g2, g3, g4⟩ <;> (simp only; omega)
        · rcases Hlast.out with ⟨g1, g2⟩ | ⟨j', y', g1, g2, g3, g4⟩
          · omega
          · obtain rfl : j = j' := by omega
            rw [hy] at g2
            cases g2
            simp only
            omega
      generalize hL : lastCk l k = L at *
      clear hc0 hc1 hx hbk
      by_cases g1 : xk ≤ L
      · have Hr := Lib.hid (Hbad2.out g1)
        clear hall
        go_wp2
        go_ret
        exact ⟨ret_b Hr.out.symm, he.trans ea⟩
      by_cases g2 : 99 < xk
      · have Hr := Lib.hid (Hbad.out (by omega))
        clear hall
        go_wp2
        go_ret
        exact ⟨ret_b Hr.out.symm, he.trans ea⟩
      by_cases g3 : xs < 0
      · have Hr := Lib.hid (Hbad.out (by omega))
        clear hall
        go_wp2
        go_ret
        exact ⟨ret_b Hr.out.symm, he.trans ea⟩
      by_cases g4 : 9973 ≤ xs
      · have Hr := Lib.hid (Hbad.out (by omega))
        clear hall
        go_wp2
        go_ret
        exact ⟨ret_b Hr.out.symm, he.trans ea⟩
      have Hn' : Hid (∀ i h, i < k + 1 → l[i]? = some h → CkAt l i h) := Lib.hid fun i h hi hh => by
        rcases Nat.lt_or_ge i k with h' | h'
        · exact hall.out i h h' hh
        · obtain rfl : i = k := by omega
          rw [Hx.out] at hh
          cases hh
          exact Hgood.out g1 (by omega) (by omega) (by omega)
      clear hall
      go_wp2
      go_roundw
      case rel => exact ⟨k + 1, by omega, by go_num, by rw [Hnext.out], he.trans ea, Hn'⟩
      case measure => simp [RowKit.intOf]; omega
    · have hks : k = n := by omega
      subst hks
      have Hr : Hid (cksOk l = true) := Lib.hid (cksOk_iff.2 ⟨by have := Hn.out; omega, fun j y hy => hall.out j y (by have := lt_of_get hy; have := Hn.out; omega) hy⟩)
      clear hall
      go_wp2
      go_ret
      exact ⟨ret_b Hr.out.symm, he⟩
end Go.Sf

/-! What is bad of a store, in the ghost's program. -/
namespace Go.Sf
open Go Go.RowKit Go.Proofs Go.Maps
/-- a call that may have probed -/
def RetG (R : Value → World → Prop) (w : World) (e : Ending) (w' : World) : Prop := (∃ v, e = .returned v ∧ R v w' ∧ Ext w w') ∨ Probed e w'
theorem RetG.of {R : Value → World → Prop} {w : World} {e : Ending} {w' : World} (h : RetP R w e w') : RetG R w e w' := .inl h
set_option maxRecDepth 4000 in
set_option maxHeartbeats 4000000 in
theorem ChecksBad_c {B B' : Nat} {v vc : Value} {l : List Hd} {cs : List Ck} (w : World) (h : Hds B w v l) (hc : Cks B' w vc cs) : Calls TryG.prog 13 #[v, vc] w (RetG (fun r w' => Ints w.heap.size w' r (badOf l cs)) w) := by
  have Co := openStore_c w h
  have HC := Lib.hid hc
  clear hc h
  go_enter TryG.func13, TryG.ntmps13
  go_wp2_with fail
  refine Co.mono ?_
  rintro e w1 ⟨he1, ⟨hs1, rfl⟩ | ⟨hs1, b, rfl, hSt, hbB⟩⟩
  · have Hr : Hid (badOf l cs = []) := Lib.hid (by unfold badOf; rw [hs1]; rfl)
    clear Co hs1
    go_wp2
    go_ret
    exact .inl ⟨_, rfl, by rw [Hr.out]; exact SlOf.nil .., he1⟩
  · have Cc := checksValid_c w1 (HC.out.ext he1)
    have HS1 := Lib.hid hs1; have HSt := Lib.hid hSt
    clear Co hSt hs1
    cases hk : cksOk cs with
    | false =>
      rw [hk] at Cc
      have Hr : Hid (badOf l cs = []) := Lib.hid (by unfold badOf; rw [hk, Bool.and_false]; rfl)
      clear hk
      go_wp2_with (go_at_call 31; refine Cc.mono ?_; rintro e w2 ⟨rfl, he2⟩)
      go_ret
      exact .inl ⟨_, rfl, by rw [Hr.out]; exact SlOf.nil .., he1.trans he2⟩
    | true =>
      rw [hk] at Cc
      have hok := cksOk_iff.1 hk
      have h16 := hok.1
      have Hok := Lib.hid hok
      have Hr : Hid (badOf l cs = badL l cs) := Lib.hid (by unfold badOf; rw [hk, HS1.out]; rfl)
      clear hk hok
      have Cb := fun W (e : Ext w1 W) => badOf_c W (HSt.out.ext e) (HC.out.ext (he1.trans e)) h16
      obtain ⟨Ac, cc, rfl, hAc⟩ := HC.out
      generalize hn : cs.length = n at *
      have Hn := Lib.hid hn; clear hn
      have HA := Lib.hid hAc; clear hAc
      go_wp2_with (first | (go_at_call 31; refine Cc.mono ?_; rintro e w2 ⟨rfl, he2⟩) | fail)
      refine (Cb _ he2).mono ?_
      rintro e w3 (⟨g, rfl, he3, hB⟩ | hp)
      rotate_left
      · obtain ⟨⟨ch, rfl⟩, h1, h2⟩ := hp
        exact ⟨rfl, .inr ⟨⟨ch, rfl⟩, h1, h2⟩⟩
      have E3 := he1.trans (he2.trans he3)
      have HB := Lib.hid hB
      clear Cc Cb hB
      go_wp2
      go_loopw [7, 26] (fun v i wr => ∃ k : Nat, k ≤ n ∧ i = .int .i64 k ∧ Ext w3 wr ∧ OwnS w3.heap.size 3 1 EInt wr v (badL l (cs.take k))) (fun _ i _ => n - (RowKit.intOf i).toNat)
      case atStart => exact ⟨0, by omega, rfl, Ext.refl _, OwnS.nil ..⟩
      case round =>
        obtain ⟨k, hk, rfl, he, hO⟩ := hrel
        by_cases hlt : k < n
        · obtain ⟨x, hx⟩ := get_of_lt (l := cs) (k := k) (by rw [Hn.out]; exact hlt)
          obtain ⟨bb, o, rfl, -, -, hki, -, hc0, -⟩ := Cks.at_ HA.out hx
          have q0 := hc0 wr (E3.trans he)
          have r0 := HB.out k x hx wr he
          have HO := Lib.hid hO
          have Hx := Lib.hid hx
          have E4 := E3.trans he
          have hbl : (badL l (cs.take k)).length ≤ k := by have := badL_len l (cs.take k); rw [List.length_take] at this; omega
          clear hc0 hO hx
          cases hg : goodC l x with
          | true =>
            have Hg := Lib.hid (badL_good Hx.out hg)
            rw [hg] at r0
            clear hg
            go_wp2
            go_roundw
            case rel => exact ⟨k + 1, by omega, by go_num, he, by rw [Hg.out]; exact HO.out⟩
            case measure => simp [RowKit.intOf]; omega
          | false =>
            have Hg := Lib.hid (badL_bad Hx.out hg)
            rw [hg] at r0
            clear hg
            go_wp2_with (at_builtin; go_must (refine wp_ap1 (w0 := w3) (by rfl) _ _ (by rfl) el_int eint_ok he _ (badL l (cs.take k)) [x.id] (by rfl) HO.out 1 1 rfl #[.int .i64 x.id] _ (by rfl) (by first | rfl | simp) rfl (one_cells rfl) (one_E ⟨rfl, hki⟩) ?_ ?_))
            · simp; unfold lim; omega
            · intro v' w' hO' he' _
              have HO' := Lib.hid hO'
              clear hO'
              go_wp2
              go_roundw
              case rel => exact ⟨k + 1, by omega, by go_num, he', by rw [Hg.out]; exact HO'.out⟩
              case measure => simp [RowKit.intOf]; omega
        · have hks : k = n := by omega
          subst hks
          have HO := Lib.hid hO
          clear hO
          go_wp2
          go_ret
          have e := HO.out
          rw [List.take_of_length_le (by rw [Hn.out]; omega)] at e
          exact .inl ⟨_, rfl, by rw [Hr.out]; exact e.sl eint_ok E3.size (by have := badL_len l cs; have := Hn.out; unfold lim; omega), E3.trans he⟩
end Go.Sf

/-! A store is mended, in the ghost's program. -/
namespace Go.Sf
open Go Go.RowKit Go.Proofs Go.Maps
theorem extR_cell {P : Program} {kt : TypeId} {b n : Nat} {M : Lit → Option Value} {w w' : World} (h : ExtR b w w') (hV : MapV P kt b n M w) {p : Addr} {v : Value} (hc : w.cell? p = some v) : w'.cell? p = some v := by
  obtain ⟨D, ⟨es, cl, h1, -⟩, -⟩ := hV
  have hlt := World.block_lt_of_cell? _ _ hc
  have hne : p.block ≠ b := fun e => by
    unfold World.cell? at hc
    rw [e, h1] at hc
    cases hc
  rw [World.cell?_of_block (h.2.2 p.block hlt hne)]
  exact hc
theorem extR_keepsT {P : Program} {kt : TypeId} {b n : Nat} {M : Lit → Option Value} {w w' : World} (h : ExtR b w w') (hV : MapV P kt b n M w) (t : TypeId) : KeepsT t w w' := by
  obtain ⟨D, ⟨es, cl, h1, -⟩, -⟩ := hV
  intro b' t' cs _ hb
  refine h.blk hb fun e => ?_
  subst e
  unfold Blk at hb
  rw [h1] at hb
  cases hb
theorem grown_R {w w' : World} {b : Nat} (h : w.grownBy w' (some b)) : ExtR b w w' := ⟨⟨h.os, h.tape, h.output⟩, h.size, fun k hk hne => h.block k hk fun e => hne (Option.some.inj e)⟩
theorem storeAt_R {B b n b2 n2 : Nat} {kt : TypeId} {M : Lit → Option Value} {w w' : World} {l : List Hd} (h : ExtR b w w') (hV : MapV TryG.prog kt b n M w) (hs : StoreAt B b2 n2 l w) (hne : b2 ≠ b) : StoreAt B b2 n2 l w' := by
  obtain ⟨M2, h1, h2⟩ := hs
  exact ⟨M2, h1.block (h.2.2 b2 h1.lt hne), h2.keepT (extR_keepsT h hV 9) (by decide)⟩
theorem put_hd3 {B b n : Nat} {w w' : World} {l l' : List Hd} {M : Lit → Option Value} {x : Hd} {u : Value} (hf : ∀ i, findH l' i = if i = x.id then some x else findH l i) (hV : MapV TryG.prog 3 b n M w) (h2 : MapHd B w l M) (hu : Ints B w u x.bytes)
    (hg : w.grownBy w' (some b)) (h : MapV TryG.prog 3 b (n + 1) (updM M (kI x.id) (some (.agg #[.int .i64 x.id, u, .int .i64 x.uses]))) w') : StoreAt B b (n + 1) l' w' := by
  have hk := map_keepsT hV hg 9
  refine ⟨_, h, fun i => ?_⟩
  rw [hf]
  by_cases e : i = x.id
  · subst e
    rw [if_pos rfl, updM_same]
    exact ⟨(fun h => by cases h), (fun y hy => by cases hy; exact ⟨u, rfl, hu.keepT hk (by decide)⟩)⟩
  · rw [if_neg e, updM_other (kI_ne e)]
    exact (h2.keepT hk (by decide)) i
/-- what mending hands back -/
def MendP (w0 : World) (o : Option (List Hd × Nat)) (r : Value) (w' : World) : Prop := match o with
  | some (out, n) => ∃ v lu, r = .tuple #[v, .int .i64 n, .bool true] ∧ lu.map Prod.fst = out ∧ HdsU w0.heap.size w' v lu ∧ Sep lu ∧ Within w0 w' lu
  | none => r = .tuple #[.slice none 0 0, .int .i64 0, .bool false]
set_option maxRecDepth 8000 in
set_option maxHeartbeats 8000000 in
theorem MendFrom_c {B B1 B2 : Nat} {v vc vo : Value} {l : List Hd} {cs : List Ck} {ol : List Hd} (w : World) (h : Hds B w v l) (hc : Cks B1 w vc cs) (ho : Hds B2 w vo ol) : Calls TryG.prog 9 #[v, vc, vo] w (RetG (MendP w (mendOf l cs ol)) w) := by
  have Co := openStore_c w h
  have HC := Lib.hid hc
  have HO := Lib.hid ho
  clear hc h ho
  go_enter TryG.func9, TryG.ntmps9
  go_wp2_with fail
  refine Co.mono ?_
  rintro e w1 ⟨he1, ⟨hs1, rfl⟩ | ⟨hs1, b, rfl, hSt, hbB⟩⟩
  · have Hr := Lib.hid (mend_no (l := l) (cs := cs) (o := ol) (by rw [hs1]; rfl))
    clear Co hs1
    go_wp2
    go_ret3
    exact .inl ⟨_, rfl, by rw [Hr.out]; rfl, he1⟩
  have Cc := checksValid_c w1 (HC.out.ext he1)
  have HS1 := Lib.hid hs1; have HSt := Lib.hid hSt
  clear Co hSt hs1
  cases hk : cksOk cs with
  | false =>
    rw [hk] at Cc
    have Hr := Lib.hid (mend_no (l := l) (cs := cs) (o := ol) (by rw [hk, Bool.and_false, Bool.and_false]))
    clear hk
    go_wp2_with (go_at_call 31; refine Cc.mono ?_; rintro e w2 ⟨rfl, he2⟩)
    go_ret3
    exact .inl ⟨_, rfl, by rw [Hr.out]; rfl, he1.trans he2⟩
  | true =>
  rw [hk] at Cc
  have hok := cksOk_iff.1 hk
  have h16 := hok.1
  have Hok := Lib.hid hok
  have Hk := Lib.hid hk
  clear hk hok
  have Cp := fun W (e : Ext w W) => openStore_c W (HO.out.ext e)
  go_wp2_with (first | (go_at_call 31; refine Cc.mono ?_; rintro e w2 ⟨rfl, he2⟩) | fail)
  refine (Cp _ (he1.trans he2)).mono ?_
  rintro e w3 ⟨he3, ⟨hs3, rfl⟩ | ⟨hs3, b2, rfl, hSt2, hb2⟩⟩
  · have Hr := Lib.hid (mend_no (l := l) (cs := cs) (o := ol) (by rw [hs3, Bool.false_and, Bool.and_false]))
    clear Cc Cp hs3
    go_wp2
    go_ret3
    exact .inl ⟨_, rfl, by rw [Hr.out]; rfl, he1.trans (he2.trans he3)⟩
  have HS3 := Lib.hid hs3; have HSt2 := Lib.hid hSt2
  have e13 := he2.trans he3
  have E3 := he1.trans e13
  have hbne : b2 ≠ b := by
    obtain ⟨M, hV, -⟩ := HSt.out
    have := hV.lt
    have := he2.size
    omega
  clear Cc Cp hSt2 hs3
  have Cb2 := fun W (e : Ext w3 W) => badOf_c W (HSt2.out.ext e) (HC.out.ext (E3.trans e)) h16
  have Cb1 := fun W (e : Ext w3 W) => badOf_c W (HSt.out.ext (e13.trans e)) (HC.out.ext (E3.trans e)) h16
  obtain ⟨Ac, cc, rfl, hAc⟩ := HC.out
  generalize hn : cs.length = n at *
  have Hn := Lib.hid hn; clear hn
  have HA := Lib.hid hAc; clear hAc
  go_wp2_with fail
  refine (Cb2 _ (Ext.refl _)).mono ?_
  rintro e w4 (⟨g2, rfl, he4, hB2⟩ | hp)
  rotate_left
  · obtain ⟨⟨ch, rfl⟩, h1, h2⟩ := hp
    exact ⟨rfl, .inr ⟨⟨ch, rfl⟩, h1, h2⟩⟩
  have HB2 := Lib.hid hB2
  clear hB2 Cb2
  go_wp2_with fail
  refine (Cb1 _ he4).mono ?_
  rintro e w5 (⟨g1, rfl, he5, hB1⟩ | hp)
  rotate_left
  · obtain ⟨⟨ch, rfl⟩, h1, h2⟩ := hp
    exact ⟨rfl, .inr ⟨⟨ch, rfl⟩, h1, h2⟩⟩
  have e35 := he4.trans he5
  have E5 := E3.trans e35
  have HB1 := Lib.hid hB1
  clear hB1 Cb1
  have HSt5 : Hid (StoreAt w.heap.size b 16 l w5) := Lib.hid (HSt.out.ext (e13.trans e35))
  obtain ⟨M5, hV5, -⟩ := HSt5.out
  have HV5 := Lib.hid hV5; clear hV5
  -- what stays while only the map is written
  have HSt25 : Hid (∀ W, ExtR b w5 W → StoreAt (w1.heap.size) b2 16 ol W) := Lib.hid fun W e => by
    have := storeAt_R e HV5.out (HSt2.out.ext e35) hbne
    obtain ⟨M2, q1, q2⟩ := this
    exact ⟨M2, q1, fun i => ⟨(q2 i).1, fun y hy => let ⟨u, r1, r2⟩ := (q2 i).2 y hy; ⟨u, r1, r2.keep he2.size (fun _ _ _ => rfl)⟩⟩⟩
  have HR1 : Hid (∀ W, ExtR b w5 W → ∀ i c, cs[i]? = some c → W.cell? ⟨g1, i, none⟩ = some (.bool (!goodC l c))) := Lib.hid fun W e i c hi => extR_cell e HV5.out (HB1.out i c hi w5 (Ext.refl _))
  have HR2 : Hid (∀ W, ExtR b w5 W → ∀ i c, cs[i]? = some c → W.cell? ⟨g2, i, none⟩ = some (.bool (!goodC ol c))) := Lib.hid fun W e i c hi => extR_cell e HV5.out (HB2.out i c hi w5 he5)
  clear HB1 HB2
  go_wp2
  go_loopw [12, 45] (fun q i wr => ∃ k : Nat, k ≤ n ∧ i = .int .i64 k ∧ q = .int .i64 (mendN ol l (cs.take k) : Nat) ∧ ExtR b w5 wr ∧ Hid (StoreAt w.heap.size b (16 + k) (mendL ol l (cs.take k)) wr)) (fun _ i _ => n - (RowKit.intOf i).toNat)
  case atStart => exact ⟨0, by omega, rfl, rfl, ExtR.refl _ _, by rw [List.take_zero, mendL_nil]; exact HSt5⟩
  case round =>
    obtain ⟨k, hk, rfl, rfl, heR, hMI⟩ := hrel
    have he := heR.ext E5 hbB
    by_cases hlt : k < n
    · obtain ⟨c, hx⟩ := get_of_lt (l := cs) (k := k) (by rw [Hn.out]; exact hlt)
      obtain ⟨bb, o, rfl, -, -, hki, hku, hc0, -⟩ := Cks.at_ HA.out hx
      have q0 := hc0 wr he
      have r1 := HR1.out wr heR k c hx
      have r2 := fun o => HR2.out (wr.alloc o) (heR.extend ((Ext.refl wr).alloc o)) k c hx
      obtain ⟨M, hV, h2⟩ := hMI.out
      have hfk := mend_find (other := ol) (l := l) Hok.out hx
      have hkey := keyI hki
      have Hx := Lib.hid hx
      have hnm : mendN ol l (cs.take k) ≤ k := by
        unfold mendN
        have := List.length_filter_le (mendAt ol l) (cs.take k)
        rw [List.length_take] at this
        omega
      have HeR := Lib.hid heR
      have ew : IntKind.i64.wrap (((mendN ol l (cs.take k) : Nat) : Int) + 1) = ((mendN ol l (cs.take k) + 1 : Nat) : Int) := by rw [IntKind.wrap_i64]; omega
      generalize hmn : mendN ol l (cs.take k) = mn at *
      have Hmn := Lib.hid hmn
      clear hc0 hx heR hmn
      cases hf : findH l c.id with
      | none =>
        have hr := (h2 c.id).1 (by rw [hfk]; exact hf)
        have Hm : Hid (mendAt ol l c = false) := Lib.hid (by unfold mendAt; rw [hf]; rfl)
        clear hf hfk
        go_wp2_with (at_lookup; refine wp_mlook_ok_none rfl _ _ rfl lawI underStore (zeroHd _) rfl hV _ _ rfl hkey hr ?_)
        go_roundw
        case rel => exact ⟨k + 1, by omega, by go_num, by rw [mendN_skip Hx.out Hm.out, Hmn.out], HeR.out.extend ((Ext.refl _).alloc _), Lib.hid (by rw [mend_skip Hok.out Hx.out (storeOk_iff.1 HS1.out) Hm.out]; exact (hMI.out.ext ((Ext.refl _).alloc _)).mono (by omega))⟩
        case measure => simp [RowKit.intOf]; omega
      | some x =>
        obtain ⟨u, hr, hu⟩ := (h2 c.id).2 x (by rw [hfk]; exact hf)
        obtain ⟨Au, cu, rfl, hAu⟩ := hu
        have hxid := (findH_some hf).2
        have Hf := Lib.hid hf
        have Hfk := Lib.hid hfk
        clear hf hfk hAu
        cases hg : goodC l c with
        | true =>
          have Hm : Hid (mendAt ol l c = false) := Lib.hid (by unfold mendAt; rw [hg]; simp)
          rw [hg] at r1
          clear hg
          go_wp2_with (at_lookup; refine wp_mlook_ok_some rfl _ _ rfl lawI underStore (zeroHd _) rfl hV _ _ rfl hkey hr ?_)
          go_roundw
          case rel => exact ⟨k + 1, by omega, by go_num, by rw [mendN_skip Hx.out Hm.out, Hmn.out], HeR.out.extend ((Ext.refl _).alloc _), Lib.hid (by rw [mend_skip Hok.out Hx.out (storeOk_iff.1 HS1.out) Hm.out]; exact (hMI.out.ext ((Ext.refl _).alloc _)).mono (by omega))⟩
          case measure => simp [RowKit.intOf]; omega
        | false =>
          rw [hg] at r1
          cases hg2 : goodC ol c with
          | false =>
            have Hm : Hid (mendAt ol l c = false) := Lib.hid (by unfold mendAt; rw [hg2]; simp)
            simp only [hg2] at r2
            clear hg hg2
            go_wp2_with (at_lookup; refine wp_mlook_ok_some rfl _ _ rfl lawI underStore (zeroHd _) rfl hV _ _ rfl hkey hr ?_)
            go_roundw
            case rel => exact ⟨k + 1, by omega, by go_num, by rw [mendN_skip Hx.out Hm.out, Hmn.out], HeR.out.extend ((Ext.refl _).alloc _), Lib.hid (by rw [mend_skip Hok.out Hx.out (storeOk_iff.1 HS1.out) Hm.out]; exact (hMI.out.ext ((Ext.refl _).alloc _)).mono (by omega))⟩
            case measure => simp [RowKit.intOf]; omega
          | true =>
            have Hm : Hid (mendAt ol l c = true) := Lib.hid (by unfold mendAt; rw [Hf.out, hg, hg2]; rfl)
            simp only [hg2] at r2
            obtain ⟨y, hy⟩ : ∃ y, findH ol c.id = some y := by
              unfold goodC at hg2
              cases hy : findH ol c.id with
              | none => rw [hy] at hg2; cases hg2
              | some y => exact ⟨y, rfl⟩
            have Hby : Hid (bytesH ol c.id = y.bytes) := Lib.hid (by unfold bytesH; rw [hy])
            obtain ⟨xk, xb, xu⟩ := x
            obtain ⟨ck, csum⟩ := c
            simp only at hxid hr hkey hki hy q0 Hby
            subst hxid
            -- the box
            have ea : Ext wr (wr.alloc (.cells #[.int .i64 xk, .slice Au xb.length cu, .int .i64 xu] 35)) := (Ext.refl wr).alloc _
            have hbk := Blk.new wr 35 #[.int .i64 xk, .slice Au xb.length cu, .int .i64 xu]
            obtain ⟨M2, hV2, hM2⟩ := HSt25.out _ (HeR.out.extend ea)
            obtain ⟨u2, hr2, hu2⟩ := (hM2 xk).2 y hy
            have Cl := Clone_int_c _ hu2
            obtain ⟨A2, c2, rfl, -⟩ := hu2
            have hVa := hV.ext ea
            have c0 := hbk.cell 0; have c1 := hbk.cell 1; have c2' := hbk.cell 2
            have fb1 := hbk.frozen 1
            simp at c0 c1 c2'
            have g3 := fld35_1 y.id A2 y.bytes.length c2 y.uses
            clear hg hg2
            go_wp2_with (first | (at_lookup; refine wp_mlook_ok_some rfl _ _ rfl lawI underStore (zeroHd _) rfl hV _ _ rfl hkey hr ?_) | (at_lookup; refine wp_mlook_some rfl _ _ rfl lawI underStore (zeroHd _) rfl hV2 _ _ rfl hkey hr2 ?_) | fail)
            refine Cl.mono ?_
            rintro e w6 ⟨u9, rfl, ⟨A9, c9, rfl, hu9⟩, he9⟩
            have hb6 := hbk.ext he9
            have z0 := hb6.cell 0; have z1 := hb6.cell 1; have z2 := hb6.cell 2
            have f1 := hb6.frozen 1
            simp at z0 z1 z2
            have HU9 : Hid (Ints w.heap.size w6 (.slice A9 y.bytes.length c9) y.bytes) := Lib.hid (Ints.keep ⟨_, _, rfl, hu9⟩ (he.trans ea).size (fun _ _ _ => rfl))
            have hb7 := hb6.set_ 1 (.slice A9 y.bytes.length c9)
            have y0 := hb7.cell 0; have y1 := hb7.cell 1; have y2 := hb7.cell 2
            simp at y0 y1 y2
            have e67 : Ext wr (w6.setCell ⟨wr.heap.size, 1, none⟩ (.slice A9 y.bytes.length c9)) := (ea.trans he9).setCell (p := ⟨wr.heap.size, 1, none⟩) (Nat.le_refl _) _
            have HU7 : Hid (Ints w.heap.size (w6.setCell ⟨wr.heap.size, 1, none⟩ (.slice A9 y.bytes.length c9)) (.slice A9 y.bytes.length c9) y.bytes) := Lib.hid (HU9.out.keepT (KeepsT.set (i := 1) hb6 (.slice A9 y.bytes.length c9) rfl) (by decide))
            have HV7 := Lib.hid (hV.ext e67)
            have H27 := Lib.hid (h2.ext e67)
            have hkm : 16 + k < maxLen := by unfold maxLen; omega
            have Hput : Hid (∀ i, findH (mendL ol l (cs.take (k + 1))) i = if i = xk then some ⟨xk, y.bytes, xu⟩ else findH (mendL ol l (cs.take k)) i) := Lib.hid fun i => by
              have := mend_find_more Hok.out Hx.out Hm.out Hf.out i
              rw [Hby.out] at this
              exact this
            clear Cl hb6 hb7 hbk hu9 HU9 hV hV2 hVa h2 hM2 hr hr2 hy g3
            go_wp2_with (at_mapUpdate; (refine wp_mput (w0 := w) rfl _ _ _ rfl lawI underStore (he.trans e67) hbB rfl HV7.out hkm _ _ _ rfl rfl hkey ?_; intro w8 hM8 he8 hg8))
            have HF := Lib.hid (put_hd3 (x := ⟨xk, y.bytes, xu⟩) Hput.out HV7.out H27.out HU7.out hg8 hM8)
            have HR8 := Lib.hid ((HeR.out.extend e67).trans (grown_R hg8))
            clear hM8 hg8
            (try go_wp2)
            go_roundw
            case rel => exact ⟨k + 1, by omega, by go_num, by rw [mendN_more Hx.out Hm.out, Hmn.out]; simp, HR8.out, HF⟩
            case measure => simp [RowKit.intOf]; omega
    · have hks : k = n := by omega
      subst hks
      have htk : cs.take k = cs := List.take_of_length_le (by rw [Hn.out]; exact Nat.le_refl _)
      rw [htk] at hMI ⊢
      have hSI : StIds (mendL ol l cs) := (storeOk_iff.1 HS1.out).stIds.map _ (mdH_id ol cs) (mdH_uses ol cs)
      have Cl := wstoreListU_c wr hSI hMI.out
      clear hSI htk
      go_wp2_with fail
      refine Cl.mono ?_
      rintro e w9 ⟨v9, rfl, ⟨lu, hlu1, hlu2, hlu3, hlu4⟩, he9⟩
      have Cv := implStoreValid_c w9 hlu2.plain
      rw [hlu1] at Cv
      have HLU := Lib.hid hlu2
      obtain ⟨A9, c9, rfl, -⟩ := hlu2
      have HL1 := Lib.hid hlu1; have HL3 := Lib.hid (And.intro hlu3 hlu4)
      generalize lu.length = nl at *
      clear Cl hlu1 hlu3 hlu4
      cases hs9 : storeOk (mendL ol l cs) with
      | false =>
        rw [hs9] at Cv
        have Hr : Hid (mendOf l cs ol = none) := Lib.hid (by unfold mendOf; rw [hs9, if_neg (by simp)])
        clear hs9
        go_wp2_with (go_at_call 12; refine Cv.mono ?_; rintro e w10 ⟨rfl, he10⟩)
        go_ret3
        exact .inl ⟨_, rfl, by rw [Hr.out]; rfl, he.trans (he9.trans he10)⟩
      | true =>
        rw [hs9] at Cv
        have Hr : Hid (mendOf l cs ol = some (mendL ol l cs, mendN ol l cs)) := Lib.hid (by unfold mendOf; rw [hs9, if_pos ⟨by rw [HS1.out, HS3.out, Hk.out]; rfl, rfl⟩])
        clear hs9
        go_wp2_with (go_at_call 12; refine Cv.mono ?_; rintro e w10 ⟨rfl, he10⟩)
        go_ret3
        refine .inl ⟨_, rfl, ?_, he.trans (he9.trans he10)⟩
        rw [Hr.out]
        exact ⟨_, lu, rfl, HL1.out, (SlOf.mono HLU.out he.size (he10.keeps _) fun cs p x h => h.keep he.size (he10.keeps _)), HL3.out.1, HL3.out.2.mono he.size he10.size⟩
end Go.Sf
