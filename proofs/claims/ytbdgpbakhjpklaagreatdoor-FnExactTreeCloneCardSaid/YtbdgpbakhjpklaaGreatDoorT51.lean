/- The library's sort of items: what it leaves. -/
import Derived.Test.YtbdgpbakhjpklaaGreatDoorT48
import Derived.Test.YtbdgpbakhjpklaaGreatDoorT49
import Derived.Test.YtbdgpbakhjpklaaGreatDoorShelfS
namespace Go.Sf
open Go Go.RowKit Go.Proofs Go.Sort
theorem flat_get {ds : List SI} {n : Nat} (hn : ds.length = n) {j : Nat} (hj : j < n * 3) {q : SI} (hq : ds[j / 3]? = some q) : (flatK encSI 3 ds.toArray)[j]! = (encSI q)[j % 3]! := by
  rw [get_flatK _ _ _ _ (by simpa [hn] using hj)]
  congr 2
  have : ds.toArray[j / 3]? = some q := by rw [List.getElem?_toArray]; exact hq
  rw [getElem!_def, this]
theorem sort_cells {ds : List SI} {xs : List Value} (_hl : xs.length = ds.length * 3) (h : ∀ (k : Nat) (q : SI), ds[k]? = some q → xs[k * 3]? = some (.string q.1.path) ∧ xs[k * 3 + 1]? = some (.bool q.1.dir) ∧ xs[k * 3 + 2]? = some (.slice q.2.1 q.1.ids.length q.2.2)) {j : Nat} (hj : j < ds.length * 3) :
    xs[j]? = some (flatK encSI 3 ds.toArray)[j]! := by
  have hk : j / 3 < ds.length := by omega
  have hq : ds[j / 3]? = some ds[j / 3] := List.getElem?_eq_getElem hk
  obtain ⟨e0, e1, e2⟩ := h _ _ hq
  rw [flat_get rfl hj hq]
  have hm : j % 3 = 0 ∨ j % 3 = 1 ∨ j % 3 = 2 := by omega
  rcases hm with hm | hm | hm
  · have : j = j / 3 * 3 := by omega
    rw [hm]; rw [← this] at e0; rw [e0]; rfl
  · have : j = j / 3 * 3 + 1 := by omega
    rw [hm]; rw [← this] at e1; rw [e1]; rfl
  · have : j = j / 3 * 3 + 2 := by omega
    rw [hm]; rw [← this] at e2; rw [e2]; rfl
theorem weak_of {d : Array SI} (h : SortedIn (ltOf cmpSI) 0 d.size d) : Weak (d.toList.map Prod.fst) := by
  unfold Weak
  rw [List.pairwise_map, List.pairwise_iff_getElem]
  intro i j hi hj hij
  have := h i j (Nat.zero_le _) hij (by simpa using hj)
  rw [ltSI] at this
  have hi' : i < d.size := by simpa using hi
  have hj' : j < d.size := by simpa using hj
  rw [getElem!_pos d i hi', getElem!_pos d j hj'] at this
  simpa using this
set_option maxHeartbeats 1000000 in
theorem sort_c : SortLaw := by
  intro w0 w B v l h0 hB hO hne hl
  obtain ⟨xs, hrow, hE⟩ := hO
  have hpos : 0 < l.length := List.length_pos_iff.2 hne
  rcases hrow.2 with ⟨-, hz⟩ | ⟨g, cap, cur, rfl, hg, hb, hnc, hcm, hcs, hxs⟩
  · omega
  have hb' : Blk w g 32 cur := hb
  have hch := list_choice (P := fun k x (p : Option Addr × Nat) => xs[k * 3]? = some (.string x.path) ∧ x.path.size < lim ∧ xs[k * 3 + 1]? = some (.bool x.dir) ∧ xs[k * 3 + 2]? = some (.slice p.1 x.ids.length p.2) ∧ Ints B w (.slice p.1 x.ids.length p.2) x.ids) l (fun k x hx => by
    obtain ⟨e0, e1, e2, u, e3, hu⟩ := hE k x hx
    obtain ⟨A, c, rfl, hA⟩ := hu
    simp only [List.getElem?_toArray] at e0 e2 e3
    exact ⟨(A, c), e0, e1, e2, e3, ⟨A, c, rfl, hA⟩⟩)
  obtain ⟨ys, hy, hP⟩ := hch
  have hds : ∃ ds : List SI, ds = l.zip ys := ⟨_, rfl⟩
  obtain ⟨ds, hds⟩ := hds
  have hdl : ds.length = l.length := by rw [hds]; simp [hy]
  have hfst : ds.map Prod.fst = l := by rw [hds]; exact List.map_fst_zip (by omega)
  have hat : ∀ (k : Nat) (q : SI), ds[k]? = some q → l[k]? = some q.1 ∧ ys[k]? = some q.2 := fun k q hq => by
    rw [hds] at hq
    exact List.getElem?_zip_eq_some.1 hq
  have hQ : ∀ q, q ∈ ds → q.1.path.size < lim ∧ Ints B w (.slice q.2.1 q.1.ids.length q.2.2) q.1.ids := fun q hq => by
    obtain ⟨k, hk⟩ := List.mem_iff_getElem?.1 hq
    obtain ⟨-, h1, -, -, h2⟩ := hP k q.1 q.2 (hat k q hk).1 (hat k q hk).2
    exact ⟨h1, h2⟩
  have hcl : ∀ {j : Nat}, j < ds.length * 3 → cur[j]? = some (flatK encSI 3 ds.toArray)[j]! := fun {j} hj => by
    have h := sort_cells (ds := ds) (xs := xs) (by rw [hrow.1, hdl]) (fun k q hq => by
      obtain ⟨h1, -, h2, h3, -⟩ := hP k q.1 q.2 (hat k q hq).1 (hat k q hq).2
      exact ⟨h1, h2, h3⟩) hj
    rw [← hxs, List.getElem?_take, if_pos (by omega), Array.getElem?_toList] at h
    exact h
  have hH : HoldsK encSI 3 w g 0 ds.toArray := fun j hj => by
    rw [size_flatK] at hj
    rw [hb'.cell, hb'.frozen, Nat.zero_add]
    exact ⟨hcl (by simpa using hj), rfl⟩
  have eg : ∀ args w, (callFunc 87 args).run Tryz.prog w = .ok (.enter 87 args) w := enters_of Tryz.func87 (by kernel_rfl) rfl
  have hcon := AnyQ.slices_SortFunc Tryz.sortIt 3 Tryz.isAgg32 Tryz.sizeOf32 encSI encSI_len encSI_one cmpSI swoSI 87 #[] g 0 cap ds.toArray w eg (cmpLaysSI _ _ _ _) hH hb'.lt (by simp [hdl]; omega)
  change Calls Tryz.prog 86 _ _ _ at hcon
  rw [show ds.toArray.size = l.length by simp [hdl]] at hcon
  refine hcon.mono ?_
  rintro e w' ⟨rfl, d', n, os, hp, hs, rfl⟩
  obtain ⟨hp1, -, hp2⟩ := hp
  have hd's : d'.size = l.length := by rw [hp1]; simp [hdl]
  have hperm : d'.toList.Perm ds := by
    have e1 : (d'.extract 0 l.length).toList = d'.toList := by rw [← hd's]; simp
    have e2 : (ds.toArray.extract 0 l.length).toList = ds := by rw [← hdl]; simp
    rwa [e1, e2] at hp2
  have hF : (flatK encSI 3 d').size = l.length * 3 := by simp [hd's]
  have hmap : ∀ b, b < w.heap.size → (sortWorldK encSI 3 w g 0 n d' os).heap[b]? = (w.heap.modify g (onCells (putCells id 0 (flatK encSI 3 d'))))[b]? := fun b hlt => by
    unfold sortWorldK putRowK putRow mapBlock
    exact heap_grow_old _ _ (by simpa [Sort.ahead] using hlt)
  have hnew : Blk (sortWorldK encSI 3 w g 0 n d' os) g 32 (putCells id 0 (flatK encSI 3 d') cur) := by
    unfold Blk
    rw [hmap g hb'.lt, Array.getElem?_modify, if_pos rfl, hb]
    rfl
  have hfar : ∀ b, b < w.heap.size → b ≠ g → (sortWorldK encSI 3 w g 0 n d' os).heap[b]? = w.heap[b]? := fun b hlt hbg => by
    rw [hmap b hlt, Array.getElem?_modify, if_neg (Ne.symm hbg)]
  have hsize : w.heap.size ≤ (sortWorldK encSI 3 w g 0 n d' os).heap.size := size_sortWorldK_c _ _ _ _ _ _ _ _
  have hkT : KeepsT 32 w (sortWorldK encSI 3 w g 0 n d' os) := fun b t' cs hne h => by
    exact (hfar b (Blk.lt h) (Blk.ne_ h hb' hne)).trans h
  have hext : Ext w0 (sortWorldK encSI 3 w g 0 n d' os) :=
    ⟨h0.os, h0.tape, h0.output, Nat.le_trans h0.size hsize, fun k hk => (hfar k (Nat.lt_of_lt_of_le hk h0.size) (by omega)).trans (h0.block hk)⟩
  have hcell : ∀ (k : Nat) (q : SI), d'.toList[k]? = some q → ∀ c, c < 3 → (putCells id 0 (flatK encSI 3 d') cur)[k * 3 + c]? = some (encSI q)[c]! := fun k q hq c hc => by
    have hk : k < d'.toList.length := (List.getElem?_eq_some_iff.1 hq).1
    have hk' : k < l.length := by simpa [hd's] using hk
    have hlt : k * 3 + c < cur.size := by omega
    have hj : (k * 3 + c) / 3 = k := by omega
    have hr : (k * 3 + c) % 3 = c := by omega
    have hg' := flat_get (ds := d'.toList) (n := l.length) (by simp [hd's]) (j := k * 3 + c) (by omega) (q := q) (by rw [hj]; exact hq)
    rw [Array.toArray_toList, hr] at hg'
    unfold putCells
    rw [Array.getElem?_mapIdx, Array.getElem?_eq_getElem hlt]
    simp only [Option.map_some, Nat.zero_le, true_and, Nat.zero_add, Nat.sub_zero, id_eq]
    rw [if_pos (by rw [hF]; omega), hg']
  refine ⟨rfl, d'.toList.map Prod.fst, ?_, weak_of (by rw [hd's]; exact hs), ?_, hext⟩
  · have := hperm.map Prod.fst
    rwa [hfst] at this
  · refine ⟨some ⟨g, 0, none⟩, cap, by simp [hd's], by simp [hd's]; omega, ⟨hcm, fun h => by cases h⟩, by simp [hd's]; unfold lim; omega, fun k x hx => ?_⟩
    rw [List.getElem?_map, Option.map_eq_some_iff] at hx
    obtain ⟨q, hq, rfl⟩ := hx
    have hqd : q ∈ ds := hperm.subset (List.mem_of_getElem? hq)
    obtain ⟨q1, q2⟩ := hQ q hqd
    refine ⟨g, 0, _, rfl, by omega, hnew, ?_⟩
    rw [Nat.zero_add]
    exact ⟨hcell k q hq 0 (by omega), q1, hcell k q hq 1 (by omega), _, hcell k q hq 2 (by omega), q2.keepT hkT (by decide)⟩
end Go.Sf
