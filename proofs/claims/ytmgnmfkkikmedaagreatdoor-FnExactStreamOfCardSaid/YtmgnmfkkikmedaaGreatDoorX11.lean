/- Copies of disks are marked. -/
import Derived.Test.YtmgnmfkkikmedaaGreatDoorX10
import Derived.Test.YtmgnmfkkikmedaaGreatDoorGS
namespace Go.Sf
open Go Go.RowKit Go.Proofs
def wSn (x : Sn) : Nat := 1 + cIts x.tree
def cSns (l : List Sn) : Nat := (l.map wSn).sum
theorem cSns_take {l : List Sn} {k : Nat} {x : Sn} (h : l[k]? = some x) : cSns (l.take (k + 1)) = cSns (l.take k) + wSn x := by
  unfold cSns; rw [List.take_add_one, h]; simp
theorem cSns_take_le (l : List Sn) (k : Nat) : cSns (l.take k) ≤ cSns l := by
  unfold cSns
  conv => rhs; rw [← List.take_append_drop k l]
  rw [List.map_append, List.sum_append]; omega
theorem sum_mono {α : Type} (f g : α → Nat) (c : Nat) (l : List α) (h : ∀ x, f x ≤ c * g x) : (l.map f).sum ≤ c * (l.map g).sum := by
  induction l with
  | nil => simp
  | cons a l ih =>
    have := h a
    rw [List.map_cons, List.sum_cons, List.map_cons, List.sum_cons, Nat.mul_add]; omega
theorem cIts_bk (l : List It) : cIts l ≤ 2 * bkIts l := by
  have h : ∀ l : List It, cIts l ≤ 2 * l.length + (l.map bkIt).sum := by
    intro l
    induction l with
    | nil => simp [cIts]
    | cons a l ih =>
      unfold cIts at ih ⊢
      rw [List.map_cons, List.sum_cons, List.map_cons, List.sum_cons, List.length_cons]
      have : wIt a = 2 + a.ids.length := rfl
      have : bkIt a = a.path.size + a.ids.length := rfl
      omega
  have := h l
  unfold bkIts; omega
theorem cSns_bk (l : List Sn) : cSns l ≤ 2 * bkSns l := by
  have h : ∀ l : List Sn, cSns l ≤ l.length + 2 * (l.map bkSn).sum := by
    intro l
    induction l with
    | nil => simp [cSns]
    | cons a l ih =>
      unfold cSns at ih ⊢
      rw [List.map_cons, List.sum_cons, List.map_cons, List.sum_cons, List.length_cons]
      have : wSn a = 1 + cIts a.tree := rfl
      have : bkSn a = a.name.size + bkIts a.tree := rfl
      have := cIts_bk a.tree
      omega
  have := h l
  unfold bkSns; omega
theorem SnsU.keep {B B' : Nat} {w w' : World} {v : Value} {lq : List SnQ} (h : SnsU B w v lq) (hk : Keeps B w w') (hB : B' ≤ B) : SnsU B' w' v lq := by
  obtain ⟨g, c, cs, h1, h2, h3, h4, h5, h6, h7, h8⟩ := h
  refine ⟨g, c, cs, h1, Nat.le_trans hB h2, h3, h4, h5, h6.keep h2 hk, h7, fun i q hq => ?_, h8.2⟩
  obtain ⟨a, b, d, e, f⟩ := h8.1 i q hq
  exact ⟨a, b, d.keep (Nat.le_refl _) (fun x hx hl => hk x (by omega) hl), e, f⟩
theorem SnsU.foot {B : Nat} {w : World} {v : Value} {lq : List SnQ} (h : SnsU B w v lq) {b : Nat} (hf : FootSn v lq b) : B ≤ b ∧ b < w.heap.size := by
  obtain ⟨g, c, cs, rfl, h2, h3, h4, h5, h6, h7, h8⟩ := h
  rcases hf with hf | ⟨q, hq, hf⟩
  · simp only [Value.ownBlock, Option.some.injEq] at hf
    subst hf
    exact ⟨h2, h6.lt⟩
  · obtain ⟨i, hi⟩ := List.mem_iff_getElem?.1 hq
    obtain ⟨-, -, d, -, f⟩ := h8.1 i q hi
    have := d.foot hf
    omega
set_option maxRecDepth 4000 in
set_option maxHeartbeats 2000000 in
theorem markSnapS_c {B : Nat} {v : Value} {lq : List SnQ} {k : Int} (w : World) (h : SnsU B w v lq) (h0 : 1 ≤ k) (h1 : k + (cSns (lq.map Prod.fst) : Nat) ≤ 1152921504606846976) :
    Calls Tryz.prog 68 #[v, .int .i64 k] w (RetM (FootSn v lq) (.int .i64 (k + (cSns (lq.map Prod.fst) : Nat))) (fun _ => True) w) := by
  obtain ⟨g, c, cs, rfl, -, -, -, hl, hb, hcs, hok, hsp⟩ := h
  unfold lim at hl
  have hex : ∃ n, lq.length = n := ⟨_, rfl⟩
  obtain ⟨n, hn⟩ := hex
  rw [hn] at hl ⊢
  have Hn := Lib.hid hn; have Hok := Lib.hid hok; have Hsp := Lib.hid hsp; have H1 := Lib.hid h1
  have HC0 : Hid (∃ cs, Blk w g 72 cs ∧ ∀ (i : Nat) (q : SnQ), lq[i]? = some q → (∃ s, cs[i * 2]? = some s) ∧ cs[i * 2 + 1]? = some q.2.1) := Lib.hid ⟨cs, hb, fun i q hq => ⟨⟨_, (hcs i q hq).1⟩, (hcs i q hq).2⟩⟩
  clear hn hok hsp h1 hb hcs
  go_enter Tryz.func68, Tryz.ntmps68
  go_wp2
  go_loopw [1, 5] (fun q i wr => ∃ (j : Nat) (d : Int), j ≤ n ∧ i = .int .i64 j ∧ q = .int .i64 d ∧ Hid (d = k + (cSns ((lq.map Prod.fst).take j) : Nat)) ∧ Hid (Mod (FootSn (Value.slice (some ⟨g, 0, none⟩) n c) lq) w wr) ∧
    Hid (∃ cs, Blk wr g 72 cs ∧ ∀ (i : Nat) (q : SnQ), lq[i]? = some q → (∃ s, cs[i * 2]? = some s) ∧ cs[i * 2 + 1]? = some q.2.1) ∧ Hid (∀ (i : Nat) (q : SnQ), j ≤ i → lq[i]? = some q → ItsU q.2.2.2 wr q.2.1 q.2.2.1)) (fun _ i _ => n - (intOf i).toNat)
  case atStart => exact ⟨0, k, by omega, rfl, rfl, Lib.hid (by simp [cSns]), Lib.hid (Mod.refl _ _), HC0, Lib.hid fun i q _ hq => (Hok.out i q hq).2.2.1⟩
  case round =>
    clear HC0
    obtain ⟨j, d, hj, rfl, rfl, hd, hM, hC, hI⟩ := hrel
    by_cases hlt : j < n
    · obtain ⟨q, hx⟩ := get_of_lt (l := lq) (k := j) (by rw [Hn.out]; exact hlt)
      obtain ⟨x, u, li, lo⟩ := q
      obtain ⟨cs, hb, hcs⟩ := hC.out
      obtain ⟨⟨s0, e0⟩, e1⟩ := hcs j _ hx
      obtain ⟨-, hlx, -, hse, hglo⟩ := Hok.out j _ hx
      simp only at e1 hlx hse hglo
      have hIj := hI.out j _ (Nat.le_refl _) hx
      simp only at hIj
      have hxf : (lq.map Prod.fst)[j]? = some x := by rw [List.getElem?_map, hx]; rfl
      have hc := cSns_take hxf
      have hc2 := cSns_take_le (lq.map Prod.fst) (j + 1)
      have hw : wSn x = 1 + cIts x.tree := rfl
      have hdb : 1 ≤ d ∧ d + 1 + (cIts x.tree : Nat) ≤ 1152921504606846976 := by
        have := hd.out; have := H1.out; omega
      have Cm := markText_c d wr (by omega) (by omega)
      have c0 := fun W (e : Ext wr W) => hb.at_ (i := j * 2) (u := s0) e0 W e; have c1 := fun W (e : Ext wr W) => hb.at_ (i := j * 2 + 1) (u := u) e1 W e
      have f0 := fun W (e : Ext wr W) => (hb.ext e).frozen (j * 2)
      have Hb := Lib.hid hb; have Hx := Lib.hid hx; have Hc := Lib.hid hc; have HIj := Lib.hid hIj; have Hse := Lib.hid hse; have Hlx := Lib.hid hlx; have Hcs := Lib.hid hcs
      obtain ⟨hd1, hd2⟩ := hdb
      obtain ⟨Au, cu, rfl, -⟩ := hIj
      clear hb hx hc hc2 hxf e0 e1 hse hlx hcs hC
      generalize hll : li.length = ll at *
      go_wp2_with (go_at_call 69; refine Cm.mono ?_; rintro e w1 ⟨rfl, he1⟩; have d0 := c0 _ he1; have d1 := c1 _ he1; have g0 := f0 _ he1)
      have B0 := Hb.out.ext he1
      have B1 := B0.set_ (j * 2) (.string (mt d))
      have K2 := KeepsT.set (i := j * 2) B0 (.string (mt d)) rfl
      have hu := (HIj.out.ext he1).keepT K2 (by decide) (by decide)
      have Ci := markItemS_c (k := d + 1) _ hu Hse.out (by omega) (by rw [Hlx.out]; omega)
      rw [Hlx.out] at Ci
      have M2 : Mod (FootSn (Value.slice (some ⟨g, 0, none⟩) n c) lq) w1 _ := Mod.set (S := FootSn (Value.slice (some ⟨g, 0, none⟩) n c) lq) (p := ⟨g, j * 2, none⟩) (.inl rfl) (.string (mt d))
      have M3 := Lib.hid ((he1.mod (FootSn (Value.slice (some ⟨g, 0, none⟩) n c) lq)).trans M2)
      have HB1 := Lib.hid B1; have HK2 := Lib.hid K2; have He1 := Lib.hid he1; have Hu := Lib.hid hu
      clear M2 d0 d1 g0 f0 c0 c1 B0 B1 K2 Cm hu he1
      refine Ci.mono ?_
      rintro e w4 ⟨rfl, -, hM4⟩
      have hfg : ∀ b, FootIt (.slice Au ll cu) li b → lo ≤ b := fun b hb => (Hu.out.foot hb).1
      have hM5 : Hid (Mod (FootSn (Value.slice (some ⟨g, 0, none⟩) n c) lq) w w4) := Lib.hid ((hM.out.trans M3.out).trans (hM4.mono fun b hb => .inr ⟨_, List.mem_of_getElem? Hx.out, hb⟩))
      have hC5 : Hid (∃ cs, Blk w4 g 72 cs ∧ ∀ (i : Nat) (q : SnQ), lq[i]? = some q → (∃ s, cs[i * 2]? = some s) ∧ cs[i * 2 + 1]? = some q.2.1) := Lib.hid ⟨_, hM4.blk HB1.out fun hb => by have := hfg _ hb; omega, fun i q hq => by
        obtain ⟨⟨s, h1⟩, h2⟩ := Hcs.out i q hq
        rw [Array.getElem?_setIfInBounds, Array.getElem?_setIfInBounds]
        refine ⟨?_, ?_⟩
        · by_cases hij : j * 2 = i * 2
          · have hlt := (Array.getElem?_eq_some_iff.1 h1).1
            rw [if_pos hij, if_pos (by omega)]; exact ⟨_, rfl⟩
          · rw [if_neg hij]; exact ⟨s, h1⟩
        · rw [if_neg (by omega)]; exact h2⟩
      have hI5 : Hid (∀ (i : Nat) (q : SnQ), j + 1 ≤ i → lq[i]? = some q → ItsU q.2.2.2 w4 q.2.1 q.2.2.1) := Lib.hid fun i q hi hq => by
        have h1 := ((hI.out i q (by omega) hq).ext He1.out).keepT HK2.out (by decide) (by decide)
        exact h1.keep (Nat.le_refl _) (hM4.keeps fun b hb => Hsp.out j i _ q b (by omega) Hx.out hq hb)
      have hd5 : Hid (d + 1 + (cIts x.tree : Nat) = k + (cSns ((lq.map Prod.fst).take (j + 1)) : Nat)) := Lib.hid (by rw [Hc.out]; have := hd.out; omega)
      clear hM4 hM hI Ci
      go_wp2
      go_roundw
      case rel => exact ⟨j + 1, _, by omega, by go_num, rfl, hd5, hM5, hC5, hI5⟩
      case measure => simp [intOf]; omega
    · have hks : j = n := by omega
      subst hks
      have he : (lq.map Prod.fst).take j = lq.map Prod.fst := List.take_of_length_le (by rw [List.length_map, Hn.out]; exact Nat.le_refl _)
      have hd' := hd.out
      rw [he] at hd'
      have Hd := Lib.hid hd'
      clear hd' he
      go_wp2
      go_ret
      exact ⟨ret_i Hd.out, trivial, hM.out⟩
/-- the blocks of a copy of a disk -/
def FootDk (u1 u2 u3 : Value) (lh : List (Hd × Value)) (li : List (It × Value)) (lq : List SnQ) (b : Nat) : Prop := FootHd u1 lh b ∨ FootIt u2 li b ∨ FootSn u3 lq b
set_option maxRecDepth 4000 in
set_option maxHeartbeats 2000000 in
theorem markDisk_c {B m m2 : Nat} {u1 u2 u3 : Value} {lh : List (Hd × Value)} {li : List (It × Value)} {lq : List SnQ} (w : World) (h1 : HdsU B w u1 lh) (s1 : Sep lh) (hf : ∀ b, FootHd u1 lh b → b < m) (h2 : ItsU m w u2 li) (s2 : Sep li) (hf2 : ∀ b, FootIt u2 li b → b < m2)
    (h3 : SnsU m2 w u3 lq) (hm : m ≤ m2) (hbn : bkSns (lq.map Prod.fst) ≤ 1048576) :
    Calls Tryz.prog 19 #[.agg #[u1, u2, u3], .int .i64 1] w (RetM (FootDk u1 u2 u3 lh li lq) (.int .i64 (1 + (cHds (lh.map Prod.fst) : Nat) + (cIts (li.map Prod.fst) : Nat) + (cSns (lq.map Prod.fst) : Nat))) (fun _ => True) w) := by
  have H1 := Lib.hid h1; have H2 := Lib.hid h2; have H3 := Lib.hid h3; have S1 := Lib.hid s1; have S2 := Lib.hid s2; have HF := Lib.hid hf; have HF2 := Lib.hid hf2
  have cx := h1.cost; have cg := h2.cost'
  have cn := cSns_bk (lq.map Prod.fst)
  obtain ⟨A, c, rfl, -⟩ := h1
  obtain ⟨A2, c2, rfl, -⟩ := h2
  obtain ⟨g3, c3, cs3, rfl, -⟩ := h3
  have e0 : Ext w (w.alloc (.cells #[.slice A lh.length c, .slice A2 li.length c2, .slice (some ⟨g3, 0, none⟩) lq.length c3] 35)) := (Ext.refl w).alloc _
  have hbk := Blk.new w 35 #[.slice A lh.length c, .slice A2 li.length c2, .slice (some ⟨g3, 0, none⟩) lq.length c3]
  have hlt : Hid (∀ b, FootHd (.slice A lh.length c) lh b → b < w.heap.size) := Lib.hid fun b hb => (H1.out.foot hb).2
  have hlt2 : Hid (∀ b, FootIt (.slice A2 li.length c2) li b → b < w.heap.size) := Lib.hid fun b hb => (H2.out.foot hb).2
  have Ch := markHdS_c (k := 1) _ (H1.out.ext e0) S1.out (by omega) (by omega)
  clear s1 s2 hf hf2
  generalize (cHds (lh.map Prod.fst) : Nat) = nh at *
  have hci : ∃ ni, cIts (li.map Prod.fst) = ni := ⟨_, rfl⟩
  obtain ⟨ni, hni⟩ := hci
  have hcs : ∃ ns, cSns (lq.map Prod.fst) = ns := ⟨_, rfl⟩
  obtain ⟨ns, hns⟩ := hcs
  rw [hni] at cg ⊢
  rw [hns] at cn ⊢
  have Hni := Lib.hid hni; have Hns := Lib.hid hns
  clear hni hns
  go_enter Tryz.func19, Tryz.ntmps19
  go_wp2_with fail
  refine Ch.mono ?_
  rintro e w1 ⟨rfl, -, hM1⟩
  have b1 := hM1.blk hbk fun hb => by have := hlt.out _ hb; omega
  have q1 := b1.cell 1
  simp at q1
  have hI := (H2.out.ext e0).keep (Nat.le_refl _) (hM1.keeps HF.out)
  have hN := (H3.out.ext e0).keep (hM1.keeps fun b hb => by have := HF.out b hb; omega) (Nat.le_refl _)
  have Ci := markItemS_c (k := 1 + nh) w1 hI S2.out (by omega) (by rw [Hni.out]; omega)
  rw [Hni.out] at Ci
  have HM1 := Lib.hid hM1; have HN := Lib.hid hN; have HB1 := Lib.hid b1
  clear Ch hM1 hbk b1 hI hN
  go_wp2_with fail
  refine Ci.mono ?_
  rintro e w2 ⟨rfl, -, hM2⟩
  have b2 := hM2.blk HB1.out fun hb => by have := hlt2.out _ hb; omega
  have q2 := b2.cell 2
  simp at q2
  have hN := HN.out.keep (hM2.keeps HF2.out) (Nat.le_refl _)
  have Cn := markSnapS_c (k := 1 + nh + ni) w2 hN (by omega) (by rw [Hns.out]; omega)
  rw [Hns.out] at Cn
  have HM2 := Lib.hid hM2
  clear Ci hM2 b2 hN q1
  go_wp2_with (go_at_call 68; refine Cn.mono ?_; rintro e w3 ⟨rfl, -, hM3⟩)
  go_ret
  exact ⟨rfl, trivial, (e0.mod _).trans ((HM1.out.mono fun b hb => .inl hb).trans ((HM2.out.mono fun b hb => .inr (.inl hb)).trans (hM3.mono fun b hb => .inr (.inr hb))))⟩
end Go.Sf
