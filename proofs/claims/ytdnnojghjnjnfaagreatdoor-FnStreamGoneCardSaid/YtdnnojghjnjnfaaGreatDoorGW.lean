/- What changes are made of. -/
import Derived.Test.YtdnnojghjnjnfaaGreatDoorGB
import Derived.Test.YtdnnojghjnjnfaaGreatDoorHI
import Derived.Test.YtdnnojghjnjnfaaGreatDoorHF
import Derived.Test.YtdnnojghjnjnfaaGreatDoorGH
import Derived.Test.YtdnnojghjnjnfaaGreatDoorHG
import Derived.Test.YtdnnojghjnjnfaaGreatDoorGS
import Derived.Test.YtdnnojghjnjnfaaGreatDoorGR
import Derived.Test.YtdnnojghjnjnfaaGreatDoorT21
import Derived.Test.YtdnnojghjnjnfaaGreatDoorHE
/-! What changes are made of. -/
namespace Go.Sf
def ChFrom (a b : List It) (c : Ch) : Prop := (c.kind = 1 ∨ c.kind = 2 ∨ c.kind = 3) ∧ (c.item ∈ a ∨ c.item ∈ b)
theorem ChFrom.mono {a b a' b' : List It} {c : Ch} (h : ChFrom a b c) (ha : ∀ x, x ∈ a → x ∈ a') (hb : ∀ x, x ∈ b → x ∈ b') : ChFrom a' b' c := ⟨h.1, h.2.imp (ha _) (hb _)⟩
theorem chg_facts : ∀ (n : Nat) (a b : List It), a.length + b.length ≤ n → (∀ c, c ∈ chg a b → ChFrom a b c) ∧ (chg a b).length ≤ a.length + b.length := by
  have tl : ∀ (x : It) (l : List It) y, y ∈ l → y ∈ x :: l := fun x l y h => List.mem_cons_of_mem _ h
  have id' : ∀ (l : List It) y, y ∈ l → y ∈ l := fun l y h => h
  have one : ∀ {a b a' b' : List It} {d : Ch}, ChFrom a b d → (∀ x, x ∈ a' → x ∈ a) → (∀ x, x ∈ b' → x ∈ b) → ((∀ c, c ∈ chg a' b' → ChFrom a' b' c) ∧ (chg a' b').length ≤ a'.length + b'.length) →
      (∀ c, c ∈ d :: chg a' b' → ChFrom a b c) ∧ (d :: chg a' b').length ≤ a'.length + b'.length + 1 := fun hd h1 h2 ih =>
    ⟨fun c hc => by
      rcases List.mem_cons.1 hc with rfl | hc
      · exact hd
      · exact (ih.1 c hc).mono h1 h2, by rw [List.length_cons]; exact Nat.succ_le_succ ih.2⟩
  intro n
  induction n with
  | zero =>
    intro a b h
    cases a with
    | cons _ _ => simp at h
    | nil =>
      cases b with
      | cons _ _ => simp at h
      | nil => rw [chg_nil]; exact ⟨fun c hc => (by cases hc), (by simp)⟩
  | succ n ih =>
    intro a b h
    cases a with
    | nil =>
      cases b with
      | nil => rw [chg_nil]; exact ⟨fun c hc => (by cases hc), (by simp)⟩
      | cons b bz =>
        rw [chg_right]
        have := one (a := []) (b := b :: bz) (d := ⟨1, b⟩) ⟨.inl rfl, .inr (by simp)⟩ (id' _) (tl _ _) (ih [] bz (by simp at h ⊢; omega))
        exact ⟨this.1, by have := this.2; simp at this ⊢; omega⟩
    | cons a az =>
      cases b with
      | nil =>
        rw [chg_left]
        have := one (a := a :: az) (b := []) (d := ⟨2, a⟩) ⟨.inr (.inl rfl), .inl (by simp)⟩ (tl _ _) (id' _) (ih az [] (by simp at h ⊢; omega))
        exact ⟨this.1, by have := this.2; simp at this ⊢; omega⟩
      | cons b bz =>
        cases k : blt a.path b.path with
        | true =>
          rw [chg_lt _ _ k]
          have := one (a := a :: az) (b := b :: bz) (d := ⟨2, a⟩) ⟨.inr (.inl rfl), .inl (by simp)⟩ (tl _ _) (id' _) (ih az (b :: bz) (by simp at h ⊢; omega))
          exact ⟨this.1, by have := this.2; simp at this ⊢; omega⟩
        | false =>
          cases k' : blt b.path a.path with
          | true =>
            rw [chg_gt _ _ k k']
            have := one (a := a :: az) (b := b :: bz) (d := ⟨1, b⟩) ⟨.inl rfl, .inr (by simp)⟩ (id' _) (tl _ _) (ih (a :: az) bz (by simp at h ⊢; omega))
            exact ⟨this.1, by have := this.2; simp at this ⊢; omega⟩
          | false =>
            have hz := ih az bz (by simp at h ⊢; omega)
            by_cases hd : a.dir = b.dir
            · cases he : eqb a b with
              | true =>
                rw [chg_same _ _ k k' hd he]
                exact ⟨fun c hc => (hz.1 c hc).mono (tl _ _) (tl _ _), by have := hz.2; simp at this ⊢; omega⟩
              | false =>
                rw [chg_other _ _ k k' hd he]
                have := one (a := a :: az) (b := b :: bz) (d := ⟨3, b⟩) ⟨.inr (.inr rfl), .inr (by simp)⟩ (tl _ _) (tl _ _) hz
                exact ⟨this.1, by have := this.2; simp at this ⊢; omega⟩
            · rw [chg_two _ _ k k' hd]
              have := one (a := a :: az) (b := b :: bz) (d := ⟨1, b⟩) ⟨.inl rfl, .inr (by simp)⟩ (tl _ _) (tl _ _) hz
              refine ⟨fun c hc => ?_, by have := this.2; simp at this ⊢; omega⟩
              rcases List.mem_cons.1 hc with rfl | hc
              · exact ⟨.inr (.inl rfl), .inl (by simp)⟩
              · exact this.1 c hc
theorem chg_from {a b : List It} {c : Ch} (h : c ∈ chg a b) : ChFrom a b c := (chg_facts _ a b (Nat.le_refl _)).1 c h
theorem chg_len2 {a b : List It} : (chg a b).length ≤ a.length + b.length := (chg_facts _ a b (Nat.le_refl _)).2
theorem tree_nil : treeOk [] = true := treeOk_iff.2 ⟨by simp, fun k x h => by simp at h⟩
theorem chgOf_ok {a b : List It} (h : treeOk a = true) (k : treeOk b = true) : chgOf a b = some (chg a b) := by rw [chgOf, if_pos ⟨h, k⟩]
end Go.Sf

/-! The reference's streams. -/
namespace Go.Sf
open Go Go.RowKit Go.Proofs
/-- the tree of a snapshot, or none of all without a name -/
def treeNm (l : List Sn) (n : ByteArray) : Option (List It) := if n.toList = [] then some [] else (l.find? (snIs n)).map (·.tree)
noncomputable def partC (s : List Hd) (c : Ch) : Pt := ⟨c.kind, c.item.path, c.item.dir, if c.kind = 2 then [] else loadOf s c.item.ids⟩
noncomputable def streamOf (s : List Hd) (t : List It) (l : List Sn) (f g : ByteArray) : Option (List Pt) :=
  if diskOk s t l = true then (treeNm l f).bind fun a => (treeNm l g).map fun b => (chg a b).map (partC s) else none
set_option maxRecDepth 8000 in
set_option maxHeartbeats 2000000 in
theorem l14Tree_c {B2 : Nat} {A A2 : Option Addr} {n1 c n2 c2 : Nat} {vn : Value} {l : List Sn} (p : ByteArray) (w : World) (hn : Sns B2 w vn l) :
    Calls Tryz.prog 79 #[.agg #[.slice A n1 c, .slice A2 n2 c2, vn], .string p] w (RetP (OptIts 0 (treeNm l p)) w) := by
  have HN := Lib.hid hn
  obtain ⟨A3, c3, rfl, hA3⟩ := hn
  have e0 : Ext w (w.alloc (.cells #[.slice A n1 c, .slice A2 n2 c2, .slice A3 l.length c3] 40)) := (Ext.refl w).alloc _
  have hbk := Blk.new w 40 #[.slice A n1 c, .slice A2 n2 c2, .slice A3 l.length c3]
  have d2 := fun W (e : Ext _ W) => hbk.at_ (i := 2) (u := .slice A3 l.length c3) rfl W e
  have q2 := d2 _ (Ext.refl _)
  have Ca := l12At_c p _ (HN.out.ext e0)
  have HA3 := Lib.hid hA3
  clear hbk hA3
  by_cases hp : p.toList = []
  · have hpe : p.toList.isEmpty = true := by rw [hp]; rfl
    have Hr : Hid (treeNm l p = some []) := Lib.hid (by unfold treeNm; rw [if_pos hp])
    generalize snAt l p = at_ at *
    go_enter Tryz.func79, Tryz.ntmps79
    go_wp2_with (go_at_call 69; refine Ca.mono ?_; rintro e w1 ⟨rfl, he1⟩)
    go_ret2
    refine ⟨_, rfl, ?_, (e0.trans he1).alloc _⟩
    rw [Hr.out]
    exact ⟨_, rfl, SlOf.empty _ _ _ _ _ _ _ (Nat.zero_le _) (fun _ => rfl)⟩
  · have hpe : p.toList.isEmpty = false := by cases hq : p.toList with
      | nil => exact absurd hq hp
      | cons _ _ => rfl
    rcases snAt_cases l p with ⟨h1, h2⟩ | ⟨i, x, h1, h2, h3⟩
    · rw [h2] at Ca
      have Hr : Hid (treeNm l p = none) := Lib.hid (by unfold treeNm; rw [if_neg hp, h1]; rfl)
      clear h1 h2
      go_enter Tryz.func79, Tryz.ntmps79
      go_wp2_with (go_at_call 69; refine Ca.mono ?_; rintro e w1 ⟨rfl, he1⟩)
      go_ret2
      exact ⟨_, rfl, OptIts.none_ Hr.out, (e0.trans he1).alloc _⟩
    · rw [h3] at Ca
      have hil := lt_of_get h1
      have Hr : Hid (treeNm l p = some x.tree) := Lib.hid (by unfold treeNm; rw [if_neg hp, h2]; rfl)
      obtain ⟨b, o, u, rfl, -, -, -, hu, -, hc1⟩ := Sns.at_ HA3.out h1
      have HU := Lib.hid hu
      obtain ⟨Ax, cx, rfl, -⟩ := hu
      have hl := HA3.out.2.2.1
      unfold lim at hl
      clear h1 h2 h3
      go_enter Tryz.func79, Tryz.ntmps79
      go_wp2_with (go_at_call 69; refine Ca.mono ?_; rintro e w1 ⟨rfl, he1⟩; have y2 := d2 _ he1; have y1 := hc1 _ (e0.trans he1))
      go_ret2
      refine ⟨_, rfl, ?_, e0.trans he1⟩
      rw [Hr.out]
      exact ⟨_, rfl, (HU.out.ext (e0.trans he1)).keep (Nat.zero_le _) (fun _ _ _ => rfl)⟩
theorem treeNm_ok {s : List Hd} {t : List It} {l : List Sn} {n : ByteArray} {a : List It} (h : diskOk s t l = true) (ha : treeNm l n = some a) : treeOk a = true ∧ ∀ x, x ∈ a → IdsFit s x.ids := by
  unfold treeNm at ha
  split at ha
  · injection ha with ha
    subst ha
    exact ⟨tree_nil, fun x hx => by cases hx⟩
  · rw [Option.map_eq_some_iff] at ha
    obtain ⟨y, hy, rfl⟩ := ha
    exact ((disk_parts h).2.2.2.2 y (List.mem_of_find?_eq_some hy)).2
theorem ept_of {B : Nat} {w : World} {x : Pt} {u : Value} (h0 : inI x.kind) (h1 : x.path.size < lim) (h2 : Ints B w u x.bytes) : EPt B w #[.int .i64 x.kind, .string x.path, .bool x.dir, u] 0 x := ⟨rfl, h0, rfl, h1, rfl, ⟨u, rfl, h2⟩⟩
/-- parts and whether there are some -/
def OptPts (B : Nat) (o : Option (List Pt)) (r : Value) (w : World) : Prop := ∃ v, r = .tuple #[v, .bool o.isSome] ∧ Pts B w v (o.getD [])
theorem OptPts.none_ {B g : Nat} {w : World} {o : Option (List Pt)} (h : o = none) : OptPts B o (.tuple #[.slice (some ⟨g, 0, none⟩) 0 0, .bool false]) w := by
  subst h; exact ⟨_, rfl, SlOf.empty _ _ _ _ _ _ _ (Nat.zero_le _) (fun _ => rfl)⟩
set_option maxRecDepth 8000 in
set_option maxHeartbeats 4000000 in
theorem specStreamOf_c {B B' B2 : Nat} {vs vt vn : Value} {s : List Hd} {t : List It} {l : List Sn} (f g : ByteArray) (w : World) (hs : Hds B w vs s) (ht : Its B' w vt t) (hn : Sns B2 w vn l) :
    Calls Tryz.prog 33 #[.agg #[vs, vt, vn], .string f, .string g] w (RetP (OptPts w.heap.size (streamOf s t l f g)) w) := by
  have HS := Lib.hid hs; have HT := Lib.hid ht; have HN := Lib.hid hn
  obtain ⟨A, c, rfl, -⟩ := hs
  obtain ⟨A2, c2, rfl, -⟩ := ht
  obtain ⟨A3, c3, rfl, -⟩ := hn
  have e0 : Ext w (w.alloc (.cells #[.slice A s.length c, .slice A2 t.length c2, .slice A3 l.length c3] 40)) := (Ext.refl w).alloc _
  have hbk := Blk.new w 40 #[.slice A s.length c, .slice A2 t.length c2, .slice A3 l.length c3]
  have d0 := fun W (e : Ext _ W) => hbk.at_ (i := 0) (u := .slice A s.length c) rfl W e
  have d1 := fun W (e : Ext _ W) => hbk.at_ (i := 1) (u := .slice A2 t.length c2) rfl W e
  have d2 := fun W (e : Ext _ W) => hbk.at_ (i := 2) (u := .slice A3 l.length c3) rfl W e
  have C1 := fun W (e : Ext w W) => l14Tree_c (A := A) (n1 := s.length) (c := c) (A2 := A2) (n2 := t.length) (c2 := c2) f W (HN.out.ext e)
  have C2 := fun W (e : Ext w W) => l14Tree_c (A := A) (n1 := s.length) (c := c) (A2 := A2) (n2 := t.length) (c2 := c2) g W (HN.out.ext e)
  have C3 := fun W (e : Ext w W) => specDiskValid_c W (HS.out.ext e) (HT.out.ext e) (HN.out.ext e)
  have q0 := d0 _ (Ext.refl _); have q1 := d1 _ (Ext.refl _); have q2 := d2 _ (Ext.refl _)
  clear hbk
  go_enter Tryz.func33, Tryz.ntmps33
  go_wp2_with fail
  refine (C1 _ e0).mono ?_
  rintro e w1 ⟨r1, rfl, ⟨v1, rfl, hI1⟩, he1⟩
  clear q0 q1 q2
  have q0 := d0 _ he1; have q1 := d1 _ he1; have q2 := d2 _ he1
  go_wp2_with fail
  refine (C2 _ (e0.trans he1)).mono ?_
  rintro e w2 ⟨r2, rfl, ⟨v2, rfl, hI2⟩, he2⟩
  have he3 := he1.trans he2
  have E2 := e0.trans he3
  have C4 := C3 _ E2
  clear q0 q1 q2
  have q0 := d0 _ he3; have q1 := d1 _ he3; have q2 := d2 _ he3
  have HI1 := Lib.hid (hI1.ext he2); have HI2 := Lib.hid hI2
  clear hI1 hI2 C1 C2 C3
  cases hd : diskOk s t l with
  | false =>
    rw [hd] at C4
    have Hr : Hid (streamOf s t l f g = none) := Lib.hid (by unfold streamOf; rw [hd]; rfl)
    clear hd
    generalize (treeNm l f).isSome = b1 at *
    generalize (treeNm l g).isSome = b2 at *
    go_wp2_with (go_at_call 24; refine C4.mono ?_; rintro e w4 ⟨rfl, he4⟩)
    go_ret2
    exact ⟨_, rfl, OptPts.none_ Hr.out, (E2.trans he4).alloc _⟩
  | true =>
    rw [hd] at C4
    cases hf : treeNm l f with
    | none =>
      have Hr : Hid (streamOf s t l f g = none) := Lib.hid (by unfold streamOf; rw [hd, hf]; rfl)
      clear hd hf
      simp only [Option.isSome_none] at *
      generalize (treeNm l g).isSome = b2 at *
      go_wp2_with (go_at_call 24; refine C4.mono ?_; rintro e w4 ⟨rfl, he4⟩)
      go_ret2
      exact ⟨_, rfl, OptPts.none_ Hr.out, (E2.trans he4).alloc _⟩
    | some a =>
    cases hg : treeNm l g with
    | none =>
      have Hr : Hid (streamOf s t l f g = none) := Lib.hid (by unfold streamOf; rw [hd, hf, hg]; rfl)
      clear hd hf hg
      simp only [Option.isSome_none, Option.isSome_some] at *
      go_wp2_with (go_at_call 24; refine C4.mono ?_; rintro e w4 ⟨rfl, he4⟩)
      go_ret2
      exact ⟨_, rfl, OptPts.none_ Hr.out, (E2.trans he4).alloc _⟩
    | some b =>
    rw [hf] at HI1; rw [hg] at HI2
    simp only [Option.isSome_some, Option.getD_some] at *
    obtain ⟨ha1, ha2⟩ := treeNm_ok hd hf
    obtain ⟨hb1, hb2⟩ := treeNm_ok hd hg
    have hso := (disk_parts hd).1
    have hla := (treeOk_iff'.1 ha1).1
    have hlb := (treeOk_iff'.1 hb1).1
    have hcl := chg_len2 (a := a) (b := b)
    have Hr : Hid (streamOf s t l f g = some ((chg a b).map (partC s))) := Lib.hid (by unfold streamOf; rw [hd, hf, hg]; rfl)
    have C5 := fun W (e : Ext w2 W) => specChangesOf_c W (HI1.out.ext e) (HI2.out.ext e) (by unfold lim; omega)
    rw [chgOf_ok ha1 hb1] at C5
    have HKind : Hid (∀ c, c ∈ chg a b → (c.kind = 1 ∨ c.kind = 2 ∨ c.kind = 3) ∧ IdsFit s c.item.ids) := Lib.hid fun c hc => ⟨(chg_from hc).1, (chg_from hc).2.elim (ha2 _) (hb2 _)⟩
    have HSo := Lib.hid hso
    clear hd hf hg ha1 ha2 hb1 hb2 hso
    generalize hL : chg a b = L at *
    clear hL
    generalize hn : L.length = n at *
    have Hn := Lib.hid hn
    clear hn
    go_wp2_with (go_at_call 24; refine C4.mono ?_; rintro e w4 ⟨rfl, he4⟩)
    refine (C5 _ he4).mono ?_
    rintro e w5 ⟨r5, rfl, ⟨v5, rfl, hC5⟩, he5⟩
    simp only [Option.isSome_some, Option.getD_some] at *
    have he6 := he3.trans (he4.trans he5)
    have E5 := e0.trans he6
    obtain ⟨A5, c5, rfl, hA5⟩ := hC5
    rw [Hn.out]
    have HA5 := Lib.hid hA5
    have F0 := fun W (e : Ext w5 W) => d0 W (he6.trans e)
    clear q0 q1 q2 C4 C5 hA5 d0 d1 d2
    go_wp2
    go_loopw [14, 15] (fun v i wr => ∃ k : Nat, k ≤ n ∧ i = .int .i64 k ∧ Ext w5 wr ∧ OwnS w5.heap.size 63 4 (EPt w5.heap.size) wr v ((L.map (partC s)).take k)) (fun _ i _ => n - (RowKit.intOf i).toNat)
    case atStart => exact ⟨0, by omega, rfl, (Ext.refl w5).alloc _, OwnS.lit0 _ _ _ _ (Nat.le_refl _)⟩
    case round =>
      obtain ⟨k, hk, rfl, he, hO⟩ := hrel
      by_cases hlt : k < n
      · obtain ⟨x, hx⟩ := get_of_lt (l := L) (k := k) (by rw [Hn.out]; exact hlt)
        obtain ⟨b5, o5, u, rfl, -, -, hki, hps, hu, hc0, hc1, hc2, hc3⟩ := Chs.at_ HA5.out hx
        have HU := Lib.hid hu
        obtain ⟨Au, cu, rfl, -⟩ := hu
        have y0 := hc0 wr he; have y1 := hc1 wr he; have y2 := hc2 wr he; have y3 := hc3 wr he
        have Hfit := Lib.hid (HKind.out x (List.mem_of_getElem? hx)).2
        have Htk := Lib.hid (show (L.map (partC s)).take (k + 1) = (L.map (partC s)).take k ++ [partC s x] from take_succ_get (by rw [List.getElem?_map, hx]; rfl))
        have HO := Lib.hid hO
        have hkl : ((L.map (partC s)).take k).length = k := by rw [List.length_take, List.length_map, Hn.out]; omega
        obtain ⟨xk, xp, xd, xi⟩ := x
        simp only at *
        have g0 := F0 wr he
        clear hc0 hc1 hc2 hc3 hx hO
        have e3 : Ext wr (((wr.alloc (.cells #[.int .i64 xk, .string xp, .bool xd, .slice Au xi.length cu] 131)).alloc (.cells #[] 3)).alloc (.cells #[.int .i64 xk, .string xp, .bool xd, .slice (some ⟨wr.heap.size + 1, 0, none⟩) 0 0] 63)) := (((Ext.refl wr).alloc _).alloc _).alloc _
        by_cases hk2 : xk = 2
        · subst hk2
          have hpc : partC s ⟨2, xp, xd, xi⟩ = ⟨2, xp, xd, []⟩ := rfl
          rw [hpc] at Htk
          have he3 := he.trans e3
          have HO3 := Lib.hid (HO.out.ext (EPt_ok _) e3)
          have hnil : Ints w5.heap.size (((wr.alloc (.cells #[.int .i64 2, .string xp, .bool xd, .slice Au xi.length cu] 131)).alloc (.cells #[] 3)).alloc (.cells #[.int .i64 2, .string xp, .bool xd, .slice (some ⟨wr.heap.size + 1, 0, none⟩) 0 0] 63)) (.slice (some ⟨wr.heap.size + 1, 0, none⟩) 0 0) [] := SlOf.empty _ _ _ _ _ _ _ (Nat.zero_le _) (fun _ => rfl)
          go_wp2_with (at_builtin; go_must (refine wp_ap1 (w0 := w5) (by rfl) _ _ (by rfl) el_Pt (EPt_ok _) he3 _ ((L.map (partC s)).take k) [⟨2, xp, xd, []⟩] (by rfl) HO3.out 1 1 rfl #[.int .i64 2, .string xp, .bool xd, .slice (some ⟨wr.heap.size + 1, 0, none⟩) 0 0] _ (by rfl) (by first | rfl | simp) rfl (one4 rfl) (one_E (ept_of (x := ⟨2, xp, xd, []⟩) hki hps hnil)) ?_ ?_))
          · rw [hkl]; simp; unfold lim; omega
          · intro v7 w7 hO7 he7 _
            have HO7 := Lib.hid hO7
            clear hO7 he3 e3
            go_wp2
            go_roundw
            case rel => exact ⟨k + 1, by omega, by go_num, he7, by rw [Htk.out]; exact HO7.out⟩
            case measure => simp [RowKit.intOf]; omega
        · have hpc : partC s ⟨xk, xp, xd, xi⟩ = ⟨xk, xp, xd, loadOf s xi⟩ := by unfold partC; rw [if_neg hk2]
          have hb2 : (xk != 2) = true := by simp [hk2]
          rw [hpc] at Htk
          have hbc := (Blk.new wr 131 #[.int .i64 xk, .string xp, .bool xd, .slice Au xi.length cu])
          have hbp : Blk (((wr.alloc (.cells #[.int .i64 xk, .string xp, .bool xd, .slice Au xi.length cu] 131)).alloc (.cells #[] 3)).alloc (.cells #[.int .i64 xk, .string xp, .bool xd, .slice (some ⟨wr.heap.size + 1, 0, none⟩) 0 0] 63)) (wr.heap.size + 2) 63 #[.int .i64 xk, .string xp, .bool xd, .slice (some ⟨wr.heap.size + 1, 0, none⟩) 0 0] := by
            have := Blk.new ((wr.alloc (.cells #[.int .i64 xk, .string xp, .bool xd, .slice Au xi.length cu] 131)).alloc (.cells #[] 3)) 63 #[.int .i64 xk, .string xp, .bool xd, .slice (some ⟨wr.heap.size + 1, 0, none⟩) 0 0]
            simpa using this
          have x0 := F0 _ (he.trans e3)
          have Cl := l4Load_c _ HSo.out Hfit.out (HS.out.ext (E5.trans (he.trans e3))) (HU.out.ext (he.trans e3))
          have Hbp := Lib.hid hbp
          clear hbc hbp
          go_wp2_with (first | (go_at_call 73; refine Cl.mono ?_; rintro e w7 ⟨r7, rfl, hL7, he7⟩; obtain ⟨A7, c7, rfl, -⟩ := id hL7; have HL7 := Lib.hid hL7; have bp := Hbp.out.ext he7; have k0 := bp.cell 0; have k1 := bp.cell 1; have k2 := bp.cell 2; have k3 := bp.cell 3; have f3 := bp.frozen 3; simp at k0 k1 k2 k3 f3; have e8 : Ext wr (w7.setCell ⟨wr.heap.size + 2, 3, none⟩ (.slice A7 (loadOf s xi).length c7)) := (e3.trans he7).setCell (p := ⟨wr.heap.size + 2, 3, none⟩) (by simp) _; have he8 := he.trans e8; have HO8 := Lib.hid (HO.out.ext (EPt_ok _) e8); have HK8 : Hid (KeepsT 63 w7 (w7.setCell ⟨wr.heap.size + 2, 3, none⟩ (.slice A7 (loadOf s xi).length c7))) := Lib.hid (KeepsT.set (i := 3) bp (.slice A7 (loadOf s xi).length c7) rfl); have hL8 : Ints w5.heap.size (w7.setCell ⟨wr.heap.size + 2, 3, none⟩ (.slice A7 (loadOf s xi).length c7)) (.slice A7 (loadOf s xi).length c7) (loadOf s xi) := (HL7.out.keep (he.trans e3).size (fun _ _ _ => rfl)).keepT HK8.out (by decide); have HL8 := Lib.hid hL8; clear hL7 hL8 bp) | (at_builtin; go_must (refine wp_ap1 (w0 := w5) (by rfl) _ _ (by rfl) el_Pt (EPt_ok _) he8 _ ((L.map (partC s)).take k) [⟨xk, xp, xd, loadOf s xi⟩] (by rfl) HO8.out 1 1 rfl #[.int .i64 xk, .string xp, .bool xd, .slice A7 (loadOf s xi).length c7] _ (by rfl) (by first | rfl | simp) rfl (one4 rfl) (one_E (ept_of (x := ⟨xk, xp, xd, loadOf s xi⟩) hki hps HL8.out)) ?_ ?_)))
          · rw [hkl]; simp; unfold lim; omega
          · intro v9 w9 hO9 he9 _
            have HO9 := Lib.hid hO9
            clear hO9 he8 e8 e3
            go_wp2
            go_roundw
            case rel => exact ⟨k + 1, by omega, by go_num, he9, by rw [Htk.out]; exact HO9.out⟩
            case measure => simp [RowKit.intOf]; omega
      · have hks : k = n := by omega
        subst hks
        have HO := Lib.hid hO; clear hO
        go_wp2
        go_ret2
        have := HO.out
        rw [List.take_of_length_le (by rw [List.length_map, Hn.out]; exact Nat.le_refl _)] at this
        refine ⟨_, rfl, ?_, E5.trans he⟩
        rw [Hr.out]
        exact ⟨_, rfl, Pts.keep (this.sl (EPt_ok _) (Nat.le_refl _) (by rw [List.length_map, Hn.out]; unfold lim; omega)) E5.size (fun _ _ _ => rfl)⟩
end Go.Sf

/-! The program's parts of a stream. -/
namespace Go.Sf
open Go Go.RowKit Go.Proofs
set_option maxRecDepth 4000 in
set_option maxHeartbeats 2000000 in
theorem treeOf_c {B g : Nat} {s : List Hd} {t : List It} {l : List Sn} (p : ByteArray) (w : World) (h : DiskAt B w g s t l) (h6 : l.length ≤ 6) :
    Calls Tryz.prog 76 #[.pointer (some ⟨g, 0, none⟩), .string p] w (RetP (OptIts w.heap.size (treeNm l p)) w) := by
  obtain ⟨b, adr, kv, v, aq, hg, hbk, -, -, hO, hSn⟩ := h
  have hal := hSn.1
  have hS := hO.sl (B := B) esp_ok (Nat.le_refl _) (by rw [hal]; unfold lim; omega)
  by_cases hp : p.toList = []
  · have hpe : p.toList.isEmpty = true := by rw [hp]; rfl
    have Hr : Hid (treeNm l p = some []) := Lib.hid (by unfold treeNm; rw [if_pos hp])
    clear hbk hO hSn hS
    go_enter Tryz.func76, Tryz.ntmps76
    go_wp2
    go_ret2
    refine ⟨_, rfl, ?_, Ext.refl w⟩
    rw [Hr.out]
    exact ⟨_, rfl, SlOf.nil _ _ _ _ _⟩
  · have hpe : p.toList.isEmpty = false := by cases hq : p.toList with
      | nil => exact absurd hq hp
      | cons _ _ => rfl
    have Ca := snapAt_c (g := g) (v := v) p w (hbk.cell 4) hS
    rw [spAt_sn hSn.names] at Ca
    rcases snAt_cases l p with ⟨h1, h2⟩ | ⟨i, x, h1, h2, h3⟩
    · rw [h2] at Ca
      have Hr : Hid (treeNm l p = none) := Lib.hid (by unfold treeNm; rw [if_neg hp, h1]; rfl)
      clear h1 h2 hbk hO hSn hS
      go_enter Tryz.func76, Tryz.ntmps76
      go_wp2_with (go_at_call 110; refine Ca.mono ?_; rintro e w1 ⟨rfl, he1⟩)
      go_ret2
      exact ⟨_, rfl, by rw [Hr.out]; exact ⟨_, rfl, SlOf.nil _ _ _ _ _⟩, he1⟩
    · rw [h3] at Ca
      have hil := lt_of_get h1
      have Hr : Hid (treeNm l p = some x.tree) := Lib.hid (by unfold treeNm; rw [if_neg hp, h2]; rfl)
      obtain ⟨-, hok, adr2, kv2, has, hT2, -⟩ := hSn.2 i x h1
      have hg2 := treeOk_iff'.1 hok
      obtain ⟨A8, c8, rfl, hA8⟩ := hS
      obtain ⟨b8, o8, rfl, -, hc0, hc1⟩ := Sps.at_ hA8 has
      simp only at hc0 hc1
      rw [hal] at hbk
      have d4 := fun W (e : Ext w W) => hbk.at_ (i := 4) (u := .slice (some ⟨b8, o8, none⟩) l.length c8) rfl W e
      have Ct := fun W (e : Ext w W) => list_c (hT2.ext e) hg2.2 hg2.1
      clear h1 h2 h3 hbk hO hSn hA8 has hT2 hc0 hg2
      go_enter Tryz.func76, Tryz.ntmps76
      go_wp2_with (first | (go_at_call 110; refine Ca.mono ?_; rintro e w1 ⟨rfl, he1⟩; have y4 := d4 _ he1; have y1 := hc1 _ he1) | (go_at_call 98; refine (Ct _ he1).mono ?_; rintro e w2 ⟨v2, rfl, hI, he2⟩))
      go_ret2
      refine ⟨_, rfl, ?_, he1.trans he2⟩
      rw [Hr.out]
      exact ⟨_, rfl, hI.keep he1.size (fun _ _ _ => rfl)⟩
end Go.Sf

/-! The program makes a part. -/
namespace Go.Sf
open Go Go.RowKit Go.Proofs
/-- a part of the call's own -/
def OutPart (B : Nat) (x : Pt) (r : Value) (w : World) : Prop := ∃ u, r = .tuple #[.agg #[.int .i64 x.kind, .string x.path, .bool x.dir, u], .bool true] ∧ OwnS B 3 1 EInt w u x.bytes
/-- the four cells of a part are written -/
theorem put_four {w : World} {t : TypeId} {g : Nat} {a b c d a' b' c' d' : Value} (h : Blk w g t #[a', b', c', d']) :
    Blk ((((w.setCell ⟨g, 0, none⟩ a).setCell ⟨g, 1, none⟩ b).setCell ⟨g, 2, none⟩ c).setCell ⟨g, 3, none⟩ d) g t #[a, b, c, d] ∧ KeepsT t w ((((w.setCell ⟨g, 0, none⟩ a).setCell ⟨g, 1, none⟩ b).setCell ⟨g, 2, none⟩ c).setCell ⟨g, 3, none⟩ d) ∧
    ∀ w0, Ext w0 w → w0.heap.size ≤ g → Ext w0 ((((w.setCell ⟨g, 0, none⟩ a).setCell ⟨g, 1, none⟩ b).setCell ⟨g, 2, none⟩ c).setCell ⟨g, 3, none⟩ d) := by
  have h1 := h.set_ 0 a
  have h2 := h1.set_ 1 b
  have h3 := h2.set_ 2 c
  have h4 := h3.set_ 3 d
  exact ⟨by simpa using h4, (KeepsT.set (i := 0) h a rfl).trans ((KeepsT.set (i := 1) h1 b rfl).trans ((KeepsT.set (i := 2) h2 c rfl).trans (KeepsT.set (i := 3) h3 d rfl))), fun w0 e hg =>
    (((e.setCell (p := ⟨g, 0, none⟩) hg a).setCell (p := ⟨g, 1, none⟩) hg b).setCell (p := ⟨g, 2, none⟩) hg c).setCell (p := ⟨g, 3, none⟩) hg d⟩
set_option maxRecDepth 8000 in
set_option maxHeartbeats 4000000 in
theorem partOf_c {B B' g : Nat} {s : List Hd} {t : List It} {l : List Sn} (kd : Int) (x : It) (A : Option Addr) (c : Nat) (w : World) (hkd : kd = 1 ∨ kd = 2 ∨ kd = 3) (h : DiskAt B w g s t l) (hs : StoreOk s)
    (hi : Ints B' w (.slice A x.ids.length c) x.ids) (hfit : IdsFit s x.ids) (hdir : x.dir = true → x.ids = []) :
    Calls Tryz.prog 78 #[.pointer (some ⟨g, 0, none⟩), chgV kd x (.slice A x.ids.length c)] w (RetP (OutPart w.heap.size (partC s ⟨kd, x⟩)) w) := by
  obtain ⟨b, adr, kv, v, aq, hg, hbk, hSt, -, -, -⟩ := h
  have HI := Lib.hid hi; have HSt := Lib.hid hSt; have HS := Lib.hid hs; have HFit := Lib.hid hfit; have Hdir := Lib.hid hdir
  have hm := fun W (e : Ext w W) => hbk.at_ (i := 2) (u := .map (some b)) rfl W e
  have Ck : ∀ W, Calls Tryz.prog 124 #[chgV kd x (.slice A x.ids.length c)] W (Ret (.int .i64 kd) W) := fun W => kindOf_c _ _ _ _ _ W hkd
  have hbr := Blk.new w 63 #[.int .i64 0, .string ⟨#[]⟩, .bool false, .slice none 0 0]
  have e0 : Ext w (w.alloc (.cells #[.int .i64 0, .string ⟨#[]⟩, .bool false, .slice none 0 0] 63)) := (Ext.refl w).alloc _
  have Hbr := Lib.hid hbr
  have HCl := Lib.hid (fun W (e : Ext w W) => loadFileO_c W hs (hSt.ext e) (hi.ext e))
  obtain ⟨xp, xd, xi⟩ := x
  simp only at *
  clear hbk hi hfit hs hSt hdir hbr
  rcases hkd with rfl | rfl | rfl
  · change ∀ W, Calls Tryz.prog 124 #[.iface 179 (.agg #[.string xp, .bool xd, .slice A xi.length c])] W (Ret (.int .i64 1) W) at Ck
    show Calls Tryz.prog 78 #[.pointer (some ⟨g, 0, none⟩), .iface 179 (.agg #[.string xp, .bool xd, .slice A xi.length c])] w _
    go_enter Tryz.func78, Tryz.ntmps78
    go_wp2
    refine upon_item (f := 253) (by kernel_rfl) (by kernel_rfl) (newItem_c ⟨xp, xd, xi⟩ _ _ _ _) ?_
    intro w1 he1
    have bi := Blk.new w1 47 #[.string xp, .bool xd, .slice A xi.length c]
    have i0 := fun W (e : Ext _ W) => bi.at_ (i := 0) (u := .string xp) rfl W e
    have i1 := fun W (e : Ext _ W) => bi.at_ (i := 1) (u := .bool xd) rfl W e
    have i2 := fun W (e : Ext _ W) => bi.at_ (i := 2) (u := .slice A xi.length c) rfl W e
    have ea : Ext w1 (w1.alloc (.cells #[.string xp, .bool xd, .slice A xi.length c] 47)) := (Ext.refl w1).alloc _
    have E1 := e0.trans he1
    go_wp2
    refine wp_region_br (fun W => Ext (w1.alloc (.cells #[.string xp, .bool xd, .slice A xi.length c] 47)) W) [0, 2, 3, 4, 5] 4 (by kernel_rfl) (by kernel_rfl) ?_ ?_
    · exact (Ext.refl _).drew
    (repeat (apply rb_read (by rfl) (by rfl); (· (intro W hW; (try dsimp only at hW); go_simp; (first | done | rfl | (rw [if_pos] <;> first | omega | rfl)))); (try simp only [Act.put, List.setIfInBounds_toArray, List.set_cons_zero, List.set_cons_succ])))
    refine rb_nil ?_
    have B0 := (Ext.refl (w1.alloc (.cells #[.string xp, .bool xd, .slice A xi.length c] 47))).drew
    refine br_two 1 7 (by kernel_rfl) (by rfl) (by rfl) ?_ ?_
    · go_wp2_with (go_at_call 124; refine (Ck _).mono ?_; rintro e w2 ⟨rfl, he2⟩)
      have B2 := B0.trans he2
      refine ⟨B2, ?_⟩
      refine br_two 6 7 (by kernel_rfl) (by rfl) (by rfl) ?_ ?_
      · go_wp2
        refine ⟨B2, ?_⟩
        refine br_one 7 (by kernel_rfl) (by rfl) ?_
        go_wp2
        refine ⟨B2.alloc _, ?_⟩
        refine br_one 8 (by kernel_rfl) (by rfl) ?_
        go_wp2
        have EB : Ext (w1.alloc (.cells #[.string xp, .bool xd, .slice A xi.length c] 47)) (w2.alloc (.cells #[.int .i64 1, .string xp, .bool xd, .slice none 0 0] 63)) := B2.alloc _
        refine ⟨EB, ?_⟩
        have bp := Blk.new w2 63 #[.int .i64 1, .string xp, .bool xd, .slice none 0 0]
        refine br_nil (by kernel_rfl) ?_
        refine NoPanic.normal ?_
        (try dsimp only [Exit.then])
        have E2 := ea.trans EB
        have br2 := Hbr.out.ext (he1.trans E2)
        have r0 := br2.cell 0; have r1 := br2.cell 1; have r2 := br2.cell 2; have r3 := br2.cell 3
        have g0 := br2.frozen 0; have g1 := br2.frozen 1; have g2 := br2.frozen 2; have g3 := br2.frozen 3
        simp at r0 r1 r2 r3 g0 g1 g2 g3
        have c0 := bp.cell 0; have c1 := bp.cell 1; have c2 := bp.cell 2; have c3 := bp.cell 3
        simp at c0 c1 c2 c3
        have j1 := i1 _ EB; have j2 := i2 _ EB
        cases xd with
        | true =>
          go_wp2
          obtain ⟨p1, p2, p3⟩ := put_four (a := .int .i64 1) (b := .string xp) (c := .bool true) (d := .slice none 0 0) br2
          have z0 := p1.cell 0; have z1 := p1.cell 1; have z2 := p1.cell 2; have z3 := p1.cell 3
          simp at z0 z1 z2 z3
          exact bodyPost_ret (v := .tuple #[.agg #[.int .i64 1, .string xp, .bool true, .slice none 0 0], .bool true]) (by simp [results, Tryz.results78, go_sem, z0, z1, z2, z3]) rfl ⟨_, rfl, ⟨_, rfl, by have e := Hdir.out (by trivial); subst e; exact OwnS.nil _ _ _ _ _⟩, p3 w (e0.trans (he1.trans E2)) (Nat.le_refl _)⟩
        | false =>
          have hli : loadIf s xi = some (loadOf s xi) := by unfold loadIf; rw [if_pos (idsFit_iff.2 HFit.out)]
          have E5 := e0.trans (he1.trans E2)
          have m0 := fun W (e : Ext _ W) => hm W (E5.trans e)
          have n0 := fun W (e : Ext _ W) => i2 W (EB.trans e)
          have Hbp := Lib.hid bp
          have Hbr2 := Lib.hid br2
          clear bp br2
          go_wp2
          refine wp_region_hold (fun W => W.cell? ⟨g, 2, none⟩ = some (.map (some b)) ∧ W.cell? ⟨w1.heap.size, 2, none⟩ = some (.slice A xi.length c)) 12 [(0, true), (1, true), (2, true), (3, true), (4, true), (5, true), (6, true), (7, false), (8, true), (9, true), (10, true), (11, true)] (by kernel_rfl) (by kernel_rfl) ?_ ?_
          · exact ⟨m0 _ (Ext.refl _).drew, n0 _ (Ext.refl _).drew⟩
          (repeat (first | (apply hw_read (by rfl) (by rfl); (· (intro W hW; (try dsimp only at hW); go_simp; (first | done | rfl | (rw [if_pos] <;> first | omega | rfl)))); (try simp only [Act.put, List.setIfInBounds_toArray, List.set_cons_zero, List.set_cons_succ])) | (refine hw_skip (by rfl) (by rfl) ?_; (try simp only [Act.put, List.setIfInBounds_toArray, List.set_cons_zero, List.set_cons_succ]))))
          refine hw_step (by rfl) ?_
          go_wp2_with (go_at_call 75; refine (HCl.out _ (E5.trans (Ext.refl _).drew)).mono ?_; rintro e w7 ⟨r7, rfl, ⟨u7, rfl, hO7⟩, he7⟩; rw [hli] at hO7; rw [hli]; simp only [Option.isSome_some, Option.getD_some] at *; obtain ⟨A7, c7, rfl⟩ := hO7.form)
          have e27 := (Ext.refl _).drew.trans he7
          refine ⟨⟨m0 _ e27, n0 _ e27⟩, ?_⟩
          have HO7 := Lib.hid hO7
          clear hO7 r0 r1 r2 r3 g0 g1 g2 g3 c0 c1 c2 c3 j1 j2
          (repeat (first | (apply hw_read (by rfl) (by rfl); (· (intro W hW; (try dsimp only at hW); go_simp; (first | done | rfl | (rw [if_pos] <;> first | omega | rfl)))); (try simp only [Act.put, List.setIfInBounds_toArray, List.set_cons_zero, List.set_cons_succ])) | (refine hw_skip (by rfl) (by rfl) ?_; (try simp only [Act.put, List.setIfInBounds_toArray, List.set_cons_zero, List.set_cons_succ]))))
          (refine hw_nil ?_; (try simp only [List.drop_succ_cons, List.drop_zero]))
          have bp7 := Hbp.out.ext e27
          have br7 := Hbr2.out.ext e27
          have r0 := br7.cell 0; have r1 := br7.cell 1; have r2 := br7.cell 2; have r3 := br7.cell 3
          have g0 := br7.frozen 0; have g1 := br7.frozen 1; have g2 := br7.frozen 2; have g3 := br7.frozen 3
          simp at r0 r1 r2 r3 g0 g1 g2 g3
          have c0 := bp7.cell 0; have c1 := bp7.cell 1; have c2 := bp7.cell 2; have c3 := bp7.cell 3
          have f3 := bp7.frozen 3
          simp at c0 c1 c2 c3 f3
          have hpw : w.heap.size < w2.heap.size := by have h1 := he1.size; have h2 := B2.size; simp at h1 h2; (try simp); omega
          have Hb7 := Lib.hid (And.intro bp7 br7)
          clear bp7 br7
          go_wp2
          refine NoPanic.normal ?_
          (try dsimp only [Exit.then])
          go_wp2
          have br8 := Hb7.out.2.far (p := ⟨w2.heap.size, 3, none⟩) (by show _ ≠ w2.heap.size; omega) (.slice A7 (loadOf s xi).length c7)
          have K1 : KeepsT 63 w7 _ := KeepsT.set (i := 3) Hb7.out.1 (.slice A7 (loadOf s xi).length c7) rfl
          obtain ⟨p1, p2, p3⟩ := put_four (a := .int .i64 1) (b := .string xp) (c := .bool false) (d := .slice A7 (loadOf s xi).length c7) br8
          have z0 := p1.cell 0; have z1 := p1.cell 1; have z2 := p1.cell 2; have z3 := p1.cell 3
          simp at z0 z1 z2 z3
          exact bodyPost_ret (v := .tuple #[.agg #[.int .i64 1, .string xp, .bool false, .slice A7 (loadOf s xi).length c7], .bool true]) (by simp [results, Tryz.results78, go_sem, z0, z1, z2, z3]) rfl
            ⟨_, rfl, ⟨_, rfl, ((HO7.out.mono (E5.trans (Ext.refl _).drew).size).keepT K1 (by decide) (fun _ _ _ h => h)).keepT p2 (by decide) (fun _ _ _ h => h)⟩, p3 w ((E5.trans e27).setCell (p := ⟨w2.heap.size, 3, none⟩) (Nat.le_of_lt hpw) _) (Nat.le_refl _)⟩
      · go_wp2
        refine ⟨B2.alloc _, ?_⟩
        refine br_one 6 (by kernel_rfl) (by rfl) ?_
        go_wp2
        refine ⟨B2.alloc _, ?_⟩
        refine br_one 8 (by kernel_rfl) (by rfl) ?_
        go_wp2
        have EB : Ext (w1.alloc (.cells #[.string xp, .bool xd, .slice A xi.length c] 47)) (w2.alloc (.cells #[.int .i64 1, .string xp, .bool xd, .slice none 0 0] 63)) := B2.alloc _
        refine ⟨EB, ?_⟩
        have bp := Blk.new w2 63 #[.int .i64 1, .string xp, .bool xd, .slice none 0 0]
        refine br_nil (by kernel_rfl) ?_
        refine NoPanic.normal ?_
        (try dsimp only [Exit.then])
        have E2 := ea.trans EB
        have br2 := Hbr.out.ext (he1.trans E2)
        have r0 := br2.cell 0; have r1 := br2.cell 1; have r2 := br2.cell 2; have r3 := br2.cell 3
        have g0 := br2.frozen 0; have g1 := br2.frozen 1; have g2 := br2.frozen 2; have g3 := br2.frozen 3
        simp at r0 r1 r2 r3 g0 g1 g2 g3
        have c0 := bp.cell 0; have c1 := bp.cell 1; have c2 := bp.cell 2; have c3 := bp.cell 3
        simp at c0 c1 c2 c3
        have j1 := i1 _ EB; have j2 := i2 _ EB
        cases xd with
        | true =>
          go_wp2
          obtain ⟨p1, p2, p3⟩ := put_four (a := .int .i64 1) (b := .string xp) (c := .bool true) (d := .slice none 0 0) br2
          have z0 := p1.cell 0; have z1 := p1.cell 1; have z2 := p1.cell 2; have z3 := p1.cell 3
          simp at z0 z1 z2 z3
          exact bodyPost_ret (v := .tuple #[.agg #[.int .i64 1, .string xp, .bool true, .slice none 0 0], .bool true]) (by simp [results, Tryz.results78, go_sem, z0, z1, z2, z3]) rfl ⟨_, rfl, ⟨_, rfl, by have e := Hdir.out (by trivial); subst e; exact OwnS.nil _ _ _ _ _⟩, p3 w (e0.trans (he1.trans E2)) (Nat.le_refl _)⟩
        | false =>
          have hli : loadIf s xi = some (loadOf s xi) := by unfold loadIf; rw [if_pos (idsFit_iff.2 HFit.out)]
          have E5 := e0.trans (he1.trans E2)
          have m0 := fun W (e : Ext _ W) => hm W (E5.trans e)
          have n0 := fun W (e : Ext _ W) => i2 W (EB.trans e)
          have Hbp := Lib.hid bp
          have Hbr2 := Lib.hid br2
          clear bp br2
          go_wp2
          refine wp_region_hold (fun W => W.cell? ⟨g, 2, none⟩ = some (.map (some b)) ∧ W.cell? ⟨w1.heap.size, 2, none⟩ = some (.slice A xi.length c)) 12 [(0, true), (1, true), (2, true), (3, true), (4, true), (5, true), (6, true), (7, false), (8, true), (9, true), (10, true), (11, true)] (by kernel_rfl) (by kernel_rfl) ?_ ?_
          · exact ⟨m0 _ (Ext.refl _).drew, n0 _ (Ext.refl _).drew⟩
          (repeat (first | (apply hw_read (by rfl) (by rfl); (· (intro W hW; (try dsimp only at hW); go_simp; (first | done | rfl | (rw [if_pos] <;> first | omega | rfl)))); (try simp only [Act.put, List.setIfInBounds_toArray, List.set_cons_zero, List.set_cons_succ])) | (refine hw_skip (by rfl) (by rfl) ?_; (try simp only [Act.put, List.setIfInBounds_toArray, List.set_cons_zero, List.set_cons_succ]))))
          refine hw_step (by rfl) ?_
          go_wp2_with (go_at_call 75; refine (HCl.out _ (E5.trans (Ext.refl _).drew)).mono ?_; rintro e w7 ⟨r7, rfl, ⟨u7, rfl, hO7⟩, he7⟩; rw [hli] at hO7; rw [hli]; simp only [Option.isSome_some, Option.getD_some] at *; obtain ⟨A7, c7, rfl⟩ := hO7.form)
          have e27 := (Ext.refl _).drew.trans he7
          refine ⟨⟨m0 _ e27, n0 _ e27⟩, ?_⟩
          have HO7 := Lib.hid hO7
          clear hO7 r0 r1 r2 r3 g0 g1 g2 g3 c0 c1 c2 c3 j1 j2
          (repeat (first | (apply hw_read (by rfl) (by rfl); (· (intro W hW; (try dsimp only at hW); go_simp; (first | done | rfl | (rw [if_pos] <;> first | omega | rfl)))); (try simp only [Act.put, List.setIfInBounds_toArray, List.set_cons_zero, List.set_cons_succ])) | (refine hw_skip (by rfl) (by rfl) ?_; (try simp only [Act.put, List.setIfInBounds_toArray, List.set_cons_zero, List.set_cons_succ]))))
          (refine hw_nil ?_; (try simp only [List.drop_succ_cons, List.drop_zero]))
          have bp7 := Hbp.out.ext e27
          have br7 := Hbr2.out.ext e27
          have r0 := br7.cell 0; have r1 := br7.cell 1; have r2 := br7.cell 2; have r3 := br7.cell 3
          have g0 := br7.frozen 0; have g1 := br7.frozen 1; have g2 := br7.frozen 2; have g3 := br7.frozen 3
          simp at r0 r1 r2 r3 g0 g1 g2 g3
          have c0 := bp7.cell 0; have c1 := bp7.cell 1; have c2 := bp7.cell 2; have c3 := bp7.cell 3
          have f3 := bp7.frozen 3
          simp at c0 c1 c2 c3 f3
          have hpw : w.heap.size < w2.heap.size := by have h1 := he1.size; have h2 := B2.size; simp at h1 h2; (try simp); omega
          have Hb7 := Lib.hid (And.intro bp7 br7)
          clear bp7 br7
          go_wp2
          refine NoPanic.normal ?_
          (try dsimp only [Exit.then])
          go_wp2
          have br8 := Hb7.out.2.far (p := ⟨w2.heap.size, 3, none⟩) (by show _ ≠ w2.heap.size; omega) (.slice A7 (loadOf s xi).length c7)
          have K1 : KeepsT 63 w7 _ := KeepsT.set (i := 3) Hb7.out.1 (.slice A7 (loadOf s xi).length c7) rfl
          obtain ⟨p1, p2, p3⟩ := put_four (a := .int .i64 1) (b := .string xp) (c := .bool false) (d := .slice A7 (loadOf s xi).length c7) br8
          have z0 := p1.cell 0; have z1 := p1.cell 1; have z2 := p1.cell 2; have z3 := p1.cell 3
          simp at z0 z1 z2 z3
          exact bodyPost_ret (v := .tuple #[.agg #[.int .i64 1, .string xp, .bool false, .slice A7 (loadOf s xi).length c7], .bool true]) (by simp [results, Tryz.results78, go_sem, z0, z1, z2, z3]) rfl
            ⟨_, rfl, ⟨_, rfl, ((HO7.out.mono (E5.trans (Ext.refl _).drew).size).keepT K1 (by decide) (fun _ _ _ h => h)).keepT p2 (by decide) (fun _ _ _ h => h)⟩, p3 w ((E5.trans e27).setCell (p := ⟨w2.heap.size, 3, none⟩) (Nat.le_of_lt hpw) _) (Nat.le_refl _)⟩
    · go_wp2
      have B1 := B0.alloc (.cells #[.int .i64 0, .string ⟨#[]⟩, .bool false, .slice none 0 0] 63)
      refine ⟨B1, ?_⟩
      refine br_one 1 (by kernel_rfl) (by rfl) ?_
      go_wp2_with (go_at_call 124; refine (Ck _).mono ?_; rintro e w2 ⟨rfl, he2⟩)
      have B2 := B1.trans he2
      refine ⟨B2, ?_⟩
      refine br_one 6 (by kernel_rfl) (by rfl) ?_
      go_wp2
      refine ⟨B2, ?_⟩
      refine br_one 8 (by kernel_rfl) (by rfl) ?_
      have bz : Blk w2 (w1.heap.size + 1) 63 #[.int .i64 0, .string ⟨#[]⟩, .bool false, .slice none 0 0] := by
        have := (Blk.new (w1.alloc (.cells #[.string xp, .bool xd, .slice A xi.length c] 47)).drew 63 #[.int .i64 0, .string ⟨#[]⟩, .bool false, .slice none 0 0]).ext he2
        simpa using this
      have c0 := bz.cell 0; have c1 := bz.cell 1; have c2 := bz.cell 2; have c3 := bz.cell 3
      have f0 := bz.frozen 0; have f1 := bz.frozen 1; have f2 := bz.frozen 2; have f3 := bz.frozen 3
      simp at c0 c1 c2 c3 f0 f1 f2 f3
      obtain ⟨bp, -, y3⟩ := put_four (a := .int .i64 1) (b := .string xp) (c := .bool xd) (d := .slice none 0 0) bz
      have EB := y3 (w1.alloc (.cells #[.string xp, .bool xd, .slice A xi.length c] 47)) B2 (by simp)
      go_wp2
      refine ⟨EB, ?_⟩
      clear c0 c1 c2 c3 f0 f1 f2 f3
      refine br_nil (by kernel_rfl) ?_
      refine NoPanic.normal ?_
      (try dsimp only [Exit.then])
      have E2 := ea.trans EB
      have br2 := Hbr.out.ext (he1.trans E2)
      have r0 := br2.cell 0; have r1 := br2.cell 1; have r2 := br2.cell 2; have r3 := br2.cell 3
      have g0 := br2.frozen 0; have g1 := br2.frozen 1; have g2 := br2.frozen 2; have g3 := br2.frozen 3
      simp at r0 r1 r2 r3 g0 g1 g2 g3
      have c0 := bp.cell 0; have c1 := bp.cell 1; have c2 := bp.cell 2; have c3 := bp.cell 3
      simp at c0 c1 c2 c3
      have j1 := i1 _ EB; have j2 := i2 _ EB
      cases xd with
      | true =>
        go_wp2
        obtain ⟨p1, p2, p3⟩ := put_four (a := .int .i64 1) (b := .string xp) (c := .bool true) (d := .slice none 0 0) br2
        have z0 := p1.cell 0; have z1 := p1.cell 1; have z2 := p1.cell 2; have z3 := p1.cell 3
        simp at z0 z1 z2 z3
        exact bodyPost_ret (v := .tuple #[.agg #[.int .i64 1, .string xp, .bool true, .slice none 0 0], .bool true]) (by simp [results, Tryz.results78, go_sem, z0, z1, z2, z3]) rfl ⟨_, rfl, ⟨_, rfl, by have e := Hdir.out (by trivial); subst e; exact OwnS.nil _ _ _ _ _⟩, p3 w (e0.trans (he1.trans E2)) (Nat.le_refl _)⟩
      | false =>
        have hli : loadIf s xi = some (loadOf s xi) := by unfold loadIf; rw [if_pos (idsFit_iff.2 HFit.out)]
        have E5 := e0.trans (he1.trans E2)
        have m0 := fun W (e : Ext _ W) => hm W (E5.trans e)
        have n0 := fun W (e : Ext _ W) => i2 W (EB.trans e)
        have Hbp := Lib.hid bp
        have Hbr2 := Lib.hid br2
        clear bp br2
        go_wp2
        refine wp_region_hold (fun W => W.cell? ⟨g, 2, none⟩ = some (.map (some b)) ∧ W.cell? ⟨w1.heap.size, 2, none⟩ = some (.slice A xi.length c)) 12 [(0, true), (1, true), (2, true), (3, true), (4, true), (5, true), (6, true), (7, false), (8, true), (9, true), (10, true), (11, true)] (by kernel_rfl) (by kernel_rfl) ?_ ?_
        · exact ⟨m0 _ (Ext.refl _).drew, n0 _ (Ext.refl _).drew⟩
        (repeat (first | (apply hw_read (by rfl) (by rfl); (· (intro W hW; (try dsimp only at hW); go_simp; (first | done | rfl | (rw [if_pos] <;> first | omega | rfl)))); (try simp only [Act.put, List.setIfInBounds_toArray, List.set_cons_zero, List.set_cons_succ])) | (refine hw_skip (by rfl) (by rfl) ?_; (try simp only [Act.put, List.setIfInBounds_toArray, List.set_cons_zero, List.set_cons_succ]))))
        refine hw_step (by rfl) ?_
        go_wp2_with (go_at_call 75; refine (HCl.out _ (E5.trans (Ext.refl _).drew)).mono ?_; rintro e w7 ⟨r7, rfl, ⟨u7, rfl, hO7⟩, he7⟩; rw [hli] at hO7; rw [hli]; simp only [Option.isSome_some, Option.getD_some] at *; obtain ⟨A7, c7, rfl⟩ := hO7.form)
        have e27 := (Ext.refl _).drew.trans he7
        refine ⟨⟨m0 _ e27, n0 _ e27⟩, ?_⟩
        have HO7 := Lib.hid hO7
        clear hO7 r0 r1 r2 r3 g0 g1 g2 g3 c0 c1 c2 c3 j1 j2
        (repeat (first | (apply hw_read (by rfl) (by rfl); (· (intro W hW; (try dsimp only at hW); go_simp; (first | done | rfl | (rw [if_pos] <;> first | omega | rfl)))); (try simp only [Act.put, List.setIfInBounds_toArray, List.set_cons_zero, List.set_cons_succ])) | (refine hw_skip (by rfl) (by rfl) ?_; (try simp only [Act.put, List.setIfInBounds_toArray, List.set_cons_zero, List.set_cons_succ]))))
        (refine hw_nil ?_; (try simp only [List.drop_succ_cons, List.drop_zero]))
        have bp7 := Hbp.out.ext e27
        have br7 := Hbr2.out.ext e27
        have r0 := br7.cell 0; have r1 := br7.cell 1; have r2 := br7.cell 2; have r3 := br7.cell 3
        have g0 := br7.frozen 0; have g1 := br7.frozen 1; have g2 := br7.frozen 2; have g3 := br7.frozen 3
        simp at r0 r1 r2 r3 g0 g1 g2 g3
        have c0 := bp7.cell 0; have c1 := bp7.cell 1; have c2 := bp7.cell 2; have c3 := bp7.cell 3
        have f3 := bp7.frozen 3
        simp at c0 c1 c2 c3 f3
        have hpw : w.heap.size < w1.heap.size + 1 := by have h1 := he1.size; have h2 := B2.size; simp at h1 h2; (try simp); omega
        have Hb7 := Lib.hid (And.intro bp7 br7)
        clear bp7 br7
        go_wp2
        refine NoPanic.normal ?_
        (try dsimp only [Exit.then])
        go_wp2
        have br8 := Hb7.out.2.far (p := ⟨w1.heap.size + 1, 3, none⟩) (by show _ ≠ w1.heap.size + 1; omega) (.slice A7 (loadOf s xi).length c7)
        have K1 : KeepsT 63 w7 _ := KeepsT.set (i := 3) Hb7.out.1 (.slice A7 (loadOf s xi).length c7) rfl
        obtain ⟨p1, p2, p3⟩ := put_four (a := .int .i64 1) (b := .string xp) (c := .bool false) (d := .slice A7 (loadOf s xi).length c7) br8
        have z0 := p1.cell 0; have z1 := p1.cell 1; have z2 := p1.cell 2; have z3 := p1.cell 3
        simp at z0 z1 z2 z3
        exact bodyPost_ret (v := .tuple #[.agg #[.int .i64 1, .string xp, .bool false, .slice A7 (loadOf s xi).length c7], .bool true]) (by simp [results, Tryz.results78, go_sem, z0, z1, z2, z3]) rfl
          ⟨_, rfl, ⟨_, rfl, ((HO7.out.mono (E5.trans (Ext.refl _).drew).size).keepT K1 (by decide) (fun _ _ _ h => h)).keepT p2 (by decide) (fun _ _ _ h => h)⟩, p3 w ((E5.trans e27).setCell (p := ⟨w1.heap.size + 1, 3, none⟩) (Nat.le_of_lt hpw) _) (Nat.le_refl _)⟩
  · change ∀ W, Calls Tryz.prog 124 #[.iface 178 (.agg #[.string xp, .bool xd, .slice A xi.length c])] W (Ret (.int .i64 2) W) at Ck
    show Calls Tryz.prog 78 #[.pointer (some ⟨g, 0, none⟩), .iface 178 (.agg #[.string xp, .bool xd, .slice A xi.length c])] w _
    go_enter Tryz.func78, Tryz.ntmps78
    go_wp2
    refine upon_item (f := 252) (by kernel_rfl) (by kernel_rfl) (goneItem_c ⟨xp, xd, xi⟩ _ _ _ _) ?_
    intro w1 he1
    have bi := Blk.new w1 47 #[.string xp, .bool xd, .slice A xi.length c]
    have i0 := fun W (e : Ext _ W) => bi.at_ (i := 0) (u := .string xp) rfl W e
    have i1 := fun W (e : Ext _ W) => bi.at_ (i := 1) (u := .bool xd) rfl W e
    have i2 := fun W (e : Ext _ W) => bi.at_ (i := 2) (u := .slice A xi.length c) rfl W e
    have ea : Ext w1 (w1.alloc (.cells #[.string xp, .bool xd, .slice A xi.length c] 47)) := (Ext.refl w1).alloc _
    have E1 := e0.trans he1
    go_wp2
    refine wp_region_br (fun W => Ext (w1.alloc (.cells #[.string xp, .bool xd, .slice A xi.length c] 47)) W) [0, 2, 3, 4, 5] 4 (by kernel_rfl) (by kernel_rfl) ?_ ?_
    · exact (Ext.refl _).drew
    (repeat (apply rb_read (by rfl) (by rfl); (· (intro W hW; (try dsimp only at hW); go_simp; (first | done | rfl | (rw [if_pos] <;> first | omega | rfl)))); (try simp only [Act.put, List.setIfInBounds_toArray, List.set_cons_zero, List.set_cons_succ])))
    refine rb_nil ?_
    have B0 := (Ext.refl (w1.alloc (.cells #[.string xp, .bool xd, .slice A xi.length c] 47))).drew
    refine br_two 1 7 (by kernel_rfl) (by rfl) (by rfl) ?_ ?_
    · go_wp2_with (go_at_call 124; refine (Ck _).mono ?_; rintro e w2 ⟨rfl, he2⟩)
      have B2 := B0.trans he2
      refine ⟨B2, ?_⟩
      refine br_two 6 7 (by kernel_rfl) (by rfl) (by rfl) ?_ ?_
      · go_wp2
        refine ⟨B2, ?_⟩
        refine br_one 7 (by kernel_rfl) (by rfl) ?_
        go_wp2
        refine ⟨B2.alloc _, ?_⟩
        refine br_one 8 (by kernel_rfl) (by rfl) ?_
        go_wp2
        have EB : Ext (w1.alloc (.cells #[.string xp, .bool xd, .slice A xi.length c] 47)) (w2.alloc (.cells #[.int .i64 2, .string xp, .bool xd, .slice none 0 0] 63)) := B2.alloc _
        refine ⟨EB, ?_⟩
        have bp := Blk.new w2 63 #[.int .i64 2, .string xp, .bool xd, .slice none 0 0]
        refine br_nil (by kernel_rfl) ?_
        refine NoPanic.normal ?_
        (try dsimp only [Exit.then])
        have E2 := ea.trans EB
        have br2 := Hbr.out.ext (he1.trans E2)
        have r0 := br2.cell 0; have r1 := br2.cell 1; have r2 := br2.cell 2; have r3 := br2.cell 3
        have g0 := br2.frozen 0; have g1 := br2.frozen 1; have g2 := br2.frozen 2; have g3 := br2.frozen 3
        simp at r0 r1 r2 r3 g0 g1 g2 g3
        have c0 := bp.cell 0; have c1 := bp.cell 1; have c2 := bp.cell 2; have c3 := bp.cell 3
        simp at c0 c1 c2 c3
        have j1 := i1 _ EB; have j2 := i2 _ EB
        go_wp2
        obtain ⟨p1, p2, p3⟩ := put_four (a := .int .i64 2) (b := .string xp) (c := .bool xd) (d := .slice none 0 0) br2
        have z0 := p1.cell 0; have z1 := p1.cell 1; have z2 := p1.cell 2; have z3 := p1.cell 3
        simp at z0 z1 z2 z3
        exact bodyPost_ret (v := .tuple #[.agg #[.int .i64 2, .string xp, .bool xd, .slice none 0 0], .bool true]) (by simp [results, Tryz.results78, go_sem, z0, z1, z2, z3]) rfl ⟨_, rfl, ⟨_, rfl, by exact OwnS.nil _ _ _ _ _⟩, p3 w (e0.trans (he1.trans E2)) (Nat.le_refl _)⟩
      · go_wp2
        refine ⟨B2.alloc _, ?_⟩
        refine br_one 6 (by kernel_rfl) (by rfl) ?_
        go_wp2
        refine ⟨B2.alloc _, ?_⟩
        refine br_one 8 (by kernel_rfl) (by rfl) ?_
        go_wp2
        have EB : Ext (w1.alloc (.cells #[.string xp, .bool xd, .slice A xi.length c] 47)) (w2.alloc (.cells #[.int .i64 2, .string xp, .bool xd, .slice none 0 0] 63)) := B2.alloc _
        refine ⟨EB, ?_⟩
        have bp := Blk.new w2 63 #[.int .i64 2, .string xp, .bool xd, .slice none 0 0]
        refine br_nil (by kernel_rfl) ?_
        refine NoPanic.normal ?_
        (try dsimp only [Exit.then])
        have E2 := ea.trans EB
        have br2 := Hbr.out.ext (he1.trans E2)
        have r0 := br2.cell 0; have r1 := br2.cell 1; have r2 := br2.cell 2; have r3 := br2.cell 3
        have g0 := br2.frozen 0; have g1 := br2.frozen 1; have g2 := br2.frozen 2; have g3 := br2.frozen 3
        simp at r0 r1 r2 r3 g0 g1 g2 g3
        have c0 := bp.cell 0; have c1 := bp.cell 1; have c2 := bp.cell 2; have c3 := bp.cell 3
        simp at c0 c1 c2 c3
        have j1 := i1 _ EB; have j2 := i2 _ EB
        go_wp2
        obtain ⟨p1, p2, p3⟩ := put_four (a := .int .i64 2) (b := .string xp) (c := .bool xd) (d := .slice none 0 0) br2
        have z0 := p1.cell 0; have z1 := p1.cell 1; have z2 := p1.cell 2; have z3 := p1.cell 3
        simp at z0 z1 z2 z3
        exact bodyPost_ret (v := .tuple #[.agg #[.int .i64 2, .string xp, .bool xd, .slice none 0 0], .bool true]) (by simp [results, Tryz.results78, go_sem, z0, z1, z2, z3]) rfl ⟨_, rfl, ⟨_, rfl, by exact OwnS.nil _ _ _ _ _⟩, p3 w (e0.trans (he1.trans E2)) (Nat.le_refl _)⟩
    · go_wp2
      have B1 := B0.alloc (.cells #[.int .i64 0, .string ⟨#[]⟩, .bool false, .slice none 0 0] 63)
      refine ⟨B1, ?_⟩
      refine br_one 1 (by kernel_rfl) (by rfl) ?_
      go_wp2_with (go_at_call 124; refine (Ck _).mono ?_; rintro e w2 ⟨rfl, he2⟩)
      have B2 := B1.trans he2
      refine ⟨B2, ?_⟩
      refine br_one 6 (by kernel_rfl) (by rfl) ?_
      go_wp2
      refine ⟨B2, ?_⟩
      refine br_one 8 (by kernel_rfl) (by rfl) ?_
      have bz : Blk w2 (w1.heap.size + 1) 63 #[.int .i64 0, .string ⟨#[]⟩, .bool false, .slice none 0 0] := by
        have := (Blk.new (w1.alloc (.cells #[.string xp, .bool xd, .slice A xi.length c] 47)).drew 63 #[.int .i64 0, .string ⟨#[]⟩, .bool false, .slice none 0 0]).ext he2
        simpa using this
      have c0 := bz.cell 0; have c1 := bz.cell 1; have c2 := bz.cell 2; have c3 := bz.cell 3
      have f0 := bz.frozen 0; have f1 := bz.frozen 1; have f2 := bz.frozen 2; have f3 := bz.frozen 3
      simp at c0 c1 c2 c3 f0 f1 f2 f3
      obtain ⟨bp, -, y3⟩ := put_four (a := .int .i64 2) (b := .string xp) (c := .bool xd) (d := .slice none 0 0) bz
      have EB := y3 (w1.alloc (.cells #[.string xp, .bool xd, .slice A xi.length c] 47)) B2 (by simp)
      go_wp2
      refine ⟨EB, ?_⟩
      clear c0 c1 c2 c3 f0 f1 f2 f3
      refine br_nil (by kernel_rfl) ?_
      refine NoPanic.normal ?_
      (try dsimp only [Exit.then])
      have E2 := ea.trans EB
      have br2 := Hbr.out.ext (he1.trans E2)
      have r0 := br2.cell 0; have r1 := br2.cell 1; have r2 := br2.cell 2; have r3 := br2.cell 3
      have g0 := br2.frozen 0; have g1 := br2.frozen 1; have g2 := br2.frozen 2; have g3 := br2.frozen 3
      simp at r0 r1 r2 r3 g0 g1 g2 g3
      have c0 := bp.cell 0; have c1 := bp.cell 1; have c2 := bp.cell 2; have c3 := bp.cell 3
      simp at c0 c1 c2 c3
      have j1 := i1 _ EB; have j2 := i2 _ EB
      go_wp2
      obtain ⟨p1, p2, p3⟩ := put_four (a := .int .i64 2) (b := .string xp) (c := .bool xd) (d := .slice none 0 0) br2
      have z0 := p1.cell 0; have z1 := p1.cell 1; have z2 := p1.cell 2; have z3 := p1.cell 3
      simp at z0 z1 z2 z3
      exact bodyPost_ret (v := .tuple #[.agg #[.int .i64 2, .string xp, .bool xd, .slice none 0 0], .bool true]) (by simp [results, Tryz.results78, go_sem, z0, z1, z2, z3]) rfl ⟨_, rfl, ⟨_, rfl, by exact OwnS.nil _ _ _ _ _⟩, p3 w (e0.trans (he1.trans E2)) (Nat.le_refl _)⟩
  · change ∀ W, Calls Tryz.prog 124 #[.iface 180 (.agg #[.string xp, .bool xd, .slice A xi.length c])] W (Ret (.int .i64 3) W) at Ck
    show Calls Tryz.prog 78 #[.pointer (some ⟨g, 0, none⟩), .iface 180 (.agg #[.string xp, .bool xd, .slice A xi.length c])] w _
    go_enter Tryz.func78, Tryz.ntmps78
    go_wp2
    refine upon_item (f := 254) (by kernel_rfl) (by kernel_rfl) (otherItem_c ⟨xp, xd, xi⟩ _ _ _ _) ?_
    intro w1 he1
    have bi := Blk.new w1 47 #[.string xp, .bool xd, .slice A xi.length c]
    have i0 := fun W (e : Ext _ W) => bi.at_ (i := 0) (u := .string xp) rfl W e
    have i1 := fun W (e : Ext _ W) => bi.at_ (i := 1) (u := .bool xd) rfl W e
    have i2 := fun W (e : Ext _ W) => bi.at_ (i := 2) (u := .slice A xi.length c) rfl W e
    have ea : Ext w1 (w1.alloc (.cells #[.string xp, .bool xd, .slice A xi.length c] 47)) := (Ext.refl w1).alloc _
    have E1 := e0.trans he1
    go_wp2
    refine wp_region_br (fun W => Ext (w1.alloc (.cells #[.string xp, .bool xd, .slice A xi.length c] 47)) W) [0, 2, 3, 4, 5] 4 (by kernel_rfl) (by kernel_rfl) ?_ ?_
    · exact (Ext.refl _).drew
    (repeat (apply rb_read (by rfl) (by rfl); (· (intro W hW; (try dsimp only at hW); go_simp; (first | done | rfl | (rw [if_pos] <;> first | omega | rfl)))); (try simp only [Act.put, List.setIfInBounds_toArray, List.set_cons_zero, List.set_cons_succ])))
    refine rb_nil ?_
    have B0 := (Ext.refl (w1.alloc (.cells #[.string xp, .bool xd, .slice A xi.length c] 47))).drew
    refine br_two 1 7 (by kernel_rfl) (by rfl) (by rfl) ?_ ?_
    · go_wp2_with (go_at_call 124; refine (Ck _).mono ?_; rintro e w2 ⟨rfl, he2⟩)
      have B2 := B0.trans he2
      refine ⟨B2, ?_⟩
      refine br_two 6 7 (by kernel_rfl) (by rfl) (by rfl) ?_ ?_
      · go_wp2
        refine ⟨B2, ?_⟩
        refine br_one 7 (by kernel_rfl) (by rfl) ?_
        go_wp2
        refine ⟨B2.alloc _, ?_⟩
        refine br_one 8 (by kernel_rfl) (by rfl) ?_
        go_wp2
        have EB : Ext (w1.alloc (.cells #[.string xp, .bool xd, .slice A xi.length c] 47)) (w2.alloc (.cells #[.int .i64 3, .string xp, .bool xd, .slice none 0 0] 63)) := B2.alloc _
        refine ⟨EB, ?_⟩
        have bp := Blk.new w2 63 #[.int .i64 3, .string xp, .bool xd, .slice none 0 0]
        refine br_nil (by kernel_rfl) ?_
        refine NoPanic.normal ?_
        (try dsimp only [Exit.then])
        have E2 := ea.trans EB
        have br2 := Hbr.out.ext (he1.trans E2)
        have r0 := br2.cell 0; have r1 := br2.cell 1; have r2 := br2.cell 2; have r3 := br2.cell 3
        have g0 := br2.frozen 0; have g1 := br2.frozen 1; have g2 := br2.frozen 2; have g3 := br2.frozen 3
        simp at r0 r1 r2 r3 g0 g1 g2 g3
        have c0 := bp.cell 0; have c1 := bp.cell 1; have c2 := bp.cell 2; have c3 := bp.cell 3
        simp at c0 c1 c2 c3
        have j1 := i1 _ EB; have j2 := i2 _ EB
        cases xd with
        | true =>
          go_wp2
          obtain ⟨p1, p2, p3⟩ := put_four (a := .int .i64 3) (b := .string xp) (c := .bool true) (d := .slice none 0 0) br2
          have z0 := p1.cell 0; have z1 := p1.cell 1; have z2 := p1.cell 2; have z3 := p1.cell 3
          simp at z0 z1 z2 z3
          exact bodyPost_ret (v := .tuple #[.agg #[.int .i64 3, .string xp, .bool true, .slice none 0 0], .bool true]) (by simp [results, Tryz.results78, go_sem, z0, z1, z2, z3]) rfl ⟨_, rfl, ⟨_, rfl, by have e := Hdir.out (by trivial); subst e; exact OwnS.nil _ _ _ _ _⟩, p3 w (e0.trans (he1.trans E2)) (Nat.le_refl _)⟩
        | false =>
          have hli : loadIf s xi = some (loadOf s xi) := by unfold loadIf; rw [if_pos (idsFit_iff.2 HFit.out)]
          have E5 := e0.trans (he1.trans E2)
          have m0 := fun W (e : Ext _ W) => hm W (E5.trans e)
          have n0 := fun W (e : Ext _ W) => i2 W (EB.trans e)
          have Hbp := Lib.hid bp
          have Hbr2 := Lib.hid br2
          clear bp br2
          go_wp2
          refine wp_region_hold (fun W => W.cell? ⟨g, 2, none⟩ = some (.map (some b)) ∧ W.cell? ⟨w1.heap.size, 2, none⟩ = some (.slice A xi.length c)) 12 [(0, true), (1, true), (2, true), (3, true), (4, true), (5, true), (6, true), (7, false), (8, true), (9, true), (10, true), (11, true)] (by kernel_rfl) (by kernel_rfl) ?_ ?_
          · exact ⟨m0 _ (Ext.refl _).drew, n0 _ (Ext.refl _).drew⟩
          (repeat (first | (apply hw_read (by rfl) (by rfl); (· (intro W hW; (try dsimp only at hW); go_simp; (first | done | rfl | (rw [if_pos] <;> first | omega | rfl)))); (try simp only [Act.put, List.setIfInBounds_toArray, List.set_cons_zero, List.set_cons_succ])) | (refine hw_skip (by rfl) (by rfl) ?_; (try simp only [Act.put, List.setIfInBounds_toArray, List.set_cons_zero, List.set_cons_succ]))))
          refine hw_step (by rfl) ?_
          go_wp2_with (go_at_call 75; refine (HCl.out _ (E5.trans (Ext.refl _).drew)).mono ?_; rintro e w7 ⟨r7, rfl, ⟨u7, rfl, hO7⟩, he7⟩; rw [hli] at hO7; rw [hli]; simp only [Option.isSome_some, Option.getD_some] at *; obtain ⟨A7, c7, rfl⟩ := hO7.form)
          have e27 := (Ext.refl _).drew.trans he7
          refine ⟨⟨m0 _ e27, n0 _ e27⟩, ?_⟩
          have HO7 := Lib.hid hO7
          clear hO7 r0 r1 r2 r3 g0 g1 g2 g3 c0 c1 c2 c3 j1 j2
          (repeat (first | (apply hw_read (by rfl) (by rfl); (· (intro W hW; (try dsimp only at hW); go_simp; (first | done | rfl | (rw [if_pos] <;> first | omega | rfl)))); (try simp only [Act.put, List.setIfInBounds_toArray, List.set_cons_zero, List.set_cons_succ])) | (refine hw_skip (by rfl) (by rfl) ?_; (try simp only [Act.put, List.setIfInBounds_toArray, List.set_cons_zero, List.set_cons_succ]))))
          (refine hw_nil ?_; (try simp only [List.drop_succ_cons, List.drop_zero]))
          have bp7 := Hbp.out.ext e27
          have br7 := Hbr2.out.ext e27
          have r0 := br7.cell 0; have r1 := br7.cell 1; have r2 := br7.cell 2; have r3 := br7.cell 3
          have g0 := br7.frozen 0; have g1 := br7.frozen 1; have g2 := br7.frozen 2; have g3 := br7.frozen 3
          simp at r0 r1 r2 r3 g0 g1 g2 g3
          have c0 := bp7.cell 0; have c1 := bp7.cell 1; have c2 := bp7.cell 2; have c3 := bp7.cell 3
          have f3 := bp7.frozen 3
          simp at c0 c1 c2 c3 f3
          have hpw : w.heap.size < w2.heap.size := by have h1 := he1.size; have h2 := B2.size; simp at h1 h2; (try simp); omega
          have Hb7 := Lib.hid (And.intro bp7 br7)
          clear bp7 br7
          go_wp2
          refine NoPanic.normal ?_
          (try dsimp only [Exit.then])
          go_wp2
          have br8 := Hb7.out.2.far (p := ⟨w2.heap.size, 3, none⟩) (by show _ ≠ w2.heap.size; omega) (.slice A7 (loadOf s xi).length c7)
          have K1 : KeepsT 63 w7 _ := KeepsT.set (i := 3) Hb7.out.1 (.slice A7 (loadOf s xi).length c7) rfl
          obtain ⟨p1, p2, p3⟩ := put_four (a := .int .i64 3) (b := .string xp) (c := .bool false) (d := .slice A7 (loadOf s xi).length c7) br8
          have z0 := p1.cell 0; have z1 := p1.cell 1; have z2 := p1.cell 2; have z3 := p1.cell 3
          simp at z0 z1 z2 z3
          exact bodyPost_ret (v := .tuple #[.agg #[.int .i64 3, .string xp, .bool false, .slice A7 (loadOf s xi).length c7], .bool true]) (by simp [results, Tryz.results78, go_sem, z0, z1, z2, z3]) rfl
            ⟨_, rfl, ⟨_, rfl, ((HO7.out.mono (E5.trans (Ext.refl _).drew).size).keepT K1 (by decide) (fun _ _ _ h => h)).keepT p2 (by decide) (fun _ _ _ h => h)⟩, p3 w ((E5.trans e27).setCell (p := ⟨w2.heap.size, 3, none⟩) (Nat.le_of_lt hpw) _) (Nat.le_refl _)⟩
      · go_wp2
        refine ⟨B2.alloc _, ?_⟩
        refine br_one 6 (by kernel_rfl) (by rfl) ?_
        go_wp2
        refine ⟨B2.alloc _, ?_⟩
        refine br_one 8 (by kernel_rfl) (by rfl) ?_
        go_wp2
        have EB : Ext (w1.alloc (.cells #[.string xp, .bool xd, .slice A xi.length c] 47)) (w2.alloc (.cells #[.int .i64 3, .string xp, .bool xd, .slice none 0 0] 63)) := B2.alloc _
        refine ⟨EB, ?_⟩
        have bp := Blk.new w2 63 #[.int .i64 3, .string xp, .bool xd, .slice none 0 0]
        refine br_nil (by kernel_rfl) ?_
        refine NoPanic.normal ?_
        (try dsimp only [Exit.then])
        have E2 := ea.trans EB
        have br2 := Hbr.out.ext (he1.trans E2)
        have r0 := br2.cell 0; have r1 := br2.cell 1; have r2 := br2.cell 2; have r3 := br2.cell 3
        have g0 := br2.frozen 0; have g1 := br2.frozen 1; have g2 := br2.frozen 2; have g3 := br2.frozen 3
        simp at r0 r1 r2 r3 g0 g1 g2 g3
        have c0 := bp.cell 0; have c1 := bp.cell 1; have c2 := bp.cell 2; have c3 := bp.cell 3
        simp at c0 c1 c2 c3
        have j1 := i1 _ EB; have j2 := i2 _ EB
        cases xd with
        | true =>
          go_wp2
          obtain ⟨p1, p2, p3⟩ := put_four (a := .int .i64 3) (b := .string xp) (c := .bool true) (d := .slice none 0 0) br2
          have z0 := p1.cell 0; have z1 := p1.cell 1; have z2 := p1.cell 2; have z3 := p1.cell 3
          simp at z0 z1 z2 z3
          exact bodyPost_ret (v := .tuple #[.agg #[.int .i64 3, .string xp, .bool true, .slice none 0 0], .bool true]) (by simp [results, Tryz.results78, go_sem, z0, z1, z2, z3]) rfl ⟨_, rfl, ⟨_, rfl, by have e := Hdir.out (by trivial); subst e; exact OwnS.nil _ _ _ _ _⟩, p3 w (e0.trans (he1.trans E2)) (Nat.le_refl _)⟩
        | false =>
          have hli : loadIf s xi = some (loadOf s xi) := by unfold loadIf; rw [if_pos (idsFit_iff.2 HFit.out)]
          have E5 := e0.trans (he1.trans E2)
          have m0 := fun W (e : Ext _ W) => hm W (E5.trans e)
          have n0 := fun W (e : Ext _ W) => i2 W (EB.trans e)
          have Hbp := Lib.hid bp
          have Hbr2 := Lib.hid br2
          clear bp br2
          go_wp2
          refine wp_region_hold (fun W => W.cell? ⟨g, 2, none⟩ = some (.map (some b)) ∧ W.cell? ⟨w1.heap.size, 2, none⟩ = some (.slice A xi.length c)) 12 [(0, true), (1, true), (2, true), (3, true), (4, true), (5, true), (6, true), (7, false), (8, true), (9, true), (10, true), (11, true)] (by kernel_rfl) (by kernel_rfl) ?_ ?_
          · exact ⟨m0 _ (Ext.refl _).drew, n0 _ (Ext.refl _).drew⟩
          (repeat (first | (apply hw_read (by rfl) (by rfl); (· (intro W hW; (try dsimp only at hW); go_simp; (first | done | rfl | (rw [if_pos] <;> first | omega | rfl)))); (try simp only [Act.put, List.setIfInBounds_toArray, List.set_cons_zero, List.set_cons_succ])) | (refine hw_skip (by rfl) (by rfl) ?_; (try simp only [Act.put, List.setIfInBounds_toArray, List.set_cons_zero, List.set_cons_succ]))))
          refine hw_step (by rfl) ?_
          go_wp2_with (go_at_call 75; refine (HCl.out _ (E5.trans (Ext.refl _).drew)).mono ?_; rintro e w7 ⟨r7, rfl, ⟨u7, rfl, hO7⟩, he7⟩; rw [hli] at hO7; rw [hli]; simp only [Option.isSome_some, Option.getD_some] at *; obtain ⟨A7, c7, rfl⟩ := hO7.form)
          have e27 := (Ext.refl _).drew.trans he7
          refine ⟨⟨m0 _ e27, n0 _ e27⟩, ?_⟩
          have HO7 := Lib.hid hO7
          clear hO7 r0 r1 r2 r3 g0 g1 g2 g3 c0 c1 c2 c3 j1 j2
          (repeat (first | (apply hw_read (by rfl) (by rfl); (· (intro W hW; (try dsimp only at hW); go_simp; (first | done | rfl | (rw [if_pos] <;> first | omega | rfl)))); (try simp only [Act.put, List.setIfInBounds_toArray, List.set_cons_zero, List.set_cons_succ])) | (refine hw_skip (by rfl) (by rfl) ?_; (try simp only [Act.put, List.setIfInBounds_toArray, List.set_cons_zero, List.set_cons_succ]))))
          (refine hw_nil ?_; (try simp only [List.drop_succ_cons, List.drop_zero]))
          have bp7 := Hbp.out.ext e27
          have br7 := Hbr2.out.ext e27
          have r0 := br7.cell 0; have r1 := br7.cell 1; have r2 := br7.cell 2; have r3 := br7.cell 3
          have g0 := br7.frozen 0; have g1 := br7.frozen 1; have g2 := br7.frozen 2; have g3 := br7.frozen 3
          simp at r0 r1 r2 r3 g0 g1 g2 g3
          have c0 := bp7.cell 0; have c1 := bp7.cell 1; have c2 := bp7.cell 2; have c3 := bp7.cell 3
          have f3 := bp7.frozen 3
          simp at c0 c1 c2 c3 f3
          have hpw : w.heap.size < w2.heap.size := by have h1 := he1.size; have h2 := B2.size; simp at h1 h2; (try simp); omega
          have Hb7 := Lib.hid (And.intro bp7 br7)
          clear bp7 br7
          go_wp2
          refine NoPanic.normal ?_
          (try dsimp only [Exit.then])
          go_wp2
          have br8 := Hb7.out.2.far (p := ⟨w2.heap.size, 3, none⟩) (by show _ ≠ w2.heap.size; omega) (.slice A7 (loadOf s xi).length c7)
          have K1 : KeepsT 63 w7 _ := KeepsT.set (i := 3) Hb7.out.1 (.slice A7 (loadOf s xi).length c7) rfl
          obtain ⟨p1, p2, p3⟩ := put_four (a := .int .i64 3) (b := .string xp) (c := .bool false) (d := .slice A7 (loadOf s xi).length c7) br8
          have z0 := p1.cell 0; have z1 := p1.cell 1; have z2 := p1.cell 2; have z3 := p1.cell 3
          simp at z0 z1 z2 z3
          exact bodyPost_ret (v := .tuple #[.agg #[.int .i64 3, .string xp, .bool false, .slice A7 (loadOf s xi).length c7], .bool true]) (by simp [results, Tryz.results78, go_sem, z0, z1, z2, z3]) rfl
            ⟨_, rfl, ⟨_, rfl, ((HO7.out.mono (E5.trans (Ext.refl _).drew).size).keepT K1 (by decide) (fun _ _ _ h => h)).keepT p2 (by decide) (fun _ _ _ h => h)⟩, p3 w ((E5.trans e27).setCell (p := ⟨w2.heap.size, 3, none⟩) (Nat.le_of_lt hpw) _) (Nat.le_refl _)⟩
    · go_wp2
      have B1 := B0.alloc (.cells #[.int .i64 0, .string ⟨#[]⟩, .bool false, .slice none 0 0] 63)
      refine ⟨B1, ?_⟩
      refine br_one 1 (by kernel_rfl) (by rfl) ?_
      go_wp2_with (go_at_call 124; refine (Ck _).mono ?_; rintro e w2 ⟨rfl, he2⟩)
      have B2 := B1.trans he2
      refine ⟨B2, ?_⟩
      refine br_one 6 (by kernel_rfl) (by rfl) ?_
      go_wp2
      refine ⟨B2, ?_⟩
      refine br_one 8 (by kernel_rfl) (by rfl) ?_
      have bz : Blk w2 (w1.heap.size + 1) 63 #[.int .i64 0, .string ⟨#[]⟩, .bool false, .slice none 0 0] := by
        have := (Blk.new (w1.alloc (.cells #[.string xp, .bool xd, .slice A xi.length c] 47)).drew 63 #[.int .i64 0, .string ⟨#[]⟩, .bool false, .slice none 0 0]).ext he2
        simpa using this
      have c0 := bz.cell 0; have c1 := bz.cell 1; have c2 := bz.cell 2; have c3 := bz.cell 3
      have f0 := bz.frozen 0; have f1 := bz.frozen 1; have f2 := bz.frozen 2; have f3 := bz.frozen 3
      simp at c0 c1 c2 c3 f0 f1 f2 f3
      obtain ⟨bp, -, y3⟩ := put_four (a := .int .i64 3) (b := .string xp) (c := .bool xd) (d := .slice none 0 0) bz
      have EB := y3 (w1.alloc (.cells #[.string xp, .bool xd, .slice A xi.length c] 47)) B2 (by simp)
      go_wp2
      refine ⟨EB, ?_⟩
      clear c0 c1 c2 c3 f0 f1 f2 f3
      refine br_nil (by kernel_rfl) ?_
      refine NoPanic.normal ?_
      (try dsimp only [Exit.then])
      have E2 := ea.trans EB
      have br2 := Hbr.out.ext (he1.trans E2)
      have r0 := br2.cell 0; have r1 := br2.cell 1; have r2 := br2.cell 2; have r3 := br2.cell 3
      have g0 := br2.frozen 0; have g1 := br2.frozen 1; have g2 := br2.frozen 2; have g3 := br2.frozen 3
      simp at r0 r1 r2 r3 g0 g1 g2 g3
      have c0 := bp.cell 0; have c1 := bp.cell 1; have c2 := bp.cell 2; have c3 := bp.cell 3
      simp at c0 c1 c2 c3
      have j1 := i1 _ EB; have j2 := i2 _ EB
      cases xd with
      | true =>
        go_wp2
        obtain ⟨p1, p2, p3⟩ := put_four (a := .int .i64 3) (b := .string xp) (c := .bool true) (d := .slice none 0 0) br2
        have z0 := p1.cell 0; have z1 := p1.cell 1; have z2 := p1.cell 2; have z3 := p1.cell 3
        simp at z0 z1 z2 z3
        exact bodyPost_ret (v := .tuple #[.agg #[.int .i64 3, .string xp, .bool true, .slice none 0 0], .bool true]) (by simp [results, Tryz.results78, go_sem, z0, z1, z2, z3]) rfl ⟨_, rfl, ⟨_, rfl, by have e := Hdir.out (by trivial); subst e; exact OwnS.nil _ _ _ _ _⟩, p3 w (e0.trans (he1.trans E2)) (Nat.le_refl _)⟩
      | false =>
        have hli : loadIf s xi = some (loadOf s xi) := by unfold loadIf; rw [if_pos (idsFit_iff.2 HFit.out)]
        have E5 := e0.trans (he1.trans E2)
        have m0 := fun W (e : Ext _ W) => hm W (E5.trans e)
        have n0 := fun W (e : Ext _ W) => i2 W (EB.trans e)
        have Hbp := Lib.hid bp
        have Hbr2 := Lib.hid br2
        clear bp br2
        go_wp2
        refine wp_region_hold (fun W => W.cell? ⟨g, 2, none⟩ = some (.map (some b)) ∧ W.cell? ⟨w1.heap.size, 2, none⟩ = some (.slice A xi.length c)) 12 [(0, true), (1, true), (2, true), (3, true), (4, true), (5, true), (6, true), (7, false), (8, true), (9, true), (10, true), (11, true)] (by kernel_rfl) (by kernel_rfl) ?_ ?_
        · exact ⟨m0 _ (Ext.refl _).drew, n0 _ (Ext.refl _).drew⟩
        (repeat (first | (apply hw_read (by rfl) (by rfl); (· (intro W hW; (try dsimp only at hW); go_simp; (first | done | rfl | (rw [if_pos] <;> first | omega | rfl)))); (try simp only [Act.put, List.setIfInBounds_toArray, List.set_cons_zero, List.set_cons_succ])) | (refine hw_skip (by rfl) (by rfl) ?_; (try simp only [Act.put, List.setIfInBounds_toArray, List.set_cons_zero, List.set_cons_succ]))))
        refine hw_step (by rfl) ?_
        go_wp2_with (go_at_call 75; refine (HCl.out _ (E5.trans (Ext.refl _).drew)).mono ?_; rintro e w7 ⟨r7, rfl, ⟨u7, rfl, hO7⟩, he7⟩; rw [hli] at hO7; rw [hli]; simp only [Option.isSome_some, Option.getD_some] at *; obtain ⟨A7, c7, rfl⟩ := hO7.form)
        have e27 := (Ext.refl _).drew.trans he7
        refine ⟨⟨m0 _ e27, n0 _ e27⟩, ?_⟩
        have HO7 := Lib.hid hO7
        clear hO7 r0 r1 r2 r3 g0 g1 g2 g3 c0 c1 c2 c3 j1 j2
        (repeat (first | (apply hw_read (by rfl) (by rfl); (· (intro W hW; (try dsimp only at hW); go_simp; (first | done | rfl | (rw [if_pos] <;> first | omega | rfl)))); (try simp only [Act.put, List.setIfInBounds_toArray, List.set_cons_zero, List.set_cons_succ])) | (refine hw_skip (by rfl) (by rfl) ?_; (try simp only [Act.put, List.setIfInBounds_toArray, List.set_cons_zero, List.set_cons_succ]))))
        (refine hw_nil ?_; (try simp only [List.drop_succ_cons, List.drop_zero]))
        have bp7 := Hbp.out.ext e27
        have br7 := Hbr2.out.ext e27
        have r0 := br7.cell 0; have r1 := br7.cell 1; have r2 := br7.cell 2; have r3 := br7.cell 3
        have g0 := br7.frozen 0; have g1 := br7.frozen 1; have g2 := br7.frozen 2; have g3 := br7.frozen 3
        simp at r0 r1 r2 r3 g0 g1 g2 g3
        have c0 := bp7.cell 0; have c1 := bp7.cell 1; have c2 := bp7.cell 2; have c3 := bp7.cell 3
        have f3 := bp7.frozen 3
        simp at c0 c1 c2 c3 f3
        have hpw : w.heap.size < w1.heap.size + 1 := by have h1 := he1.size; have h2 := B2.size; simp at h1 h2; (try simp); omega
        have Hb7 := Lib.hid (And.intro bp7 br7)
        clear bp7 br7
        go_wp2
        refine NoPanic.normal ?_
        (try dsimp only [Exit.then])
        go_wp2
        have br8 := Hb7.out.2.far (p := ⟨w1.heap.size + 1, 3, none⟩) (by show _ ≠ w1.heap.size + 1; omega) (.slice A7 (loadOf s xi).length c7)
        have K1 : KeepsT 63 w7 _ := KeepsT.set (i := 3) Hb7.out.1 (.slice A7 (loadOf s xi).length c7) rfl
        obtain ⟨p1, p2, p3⟩ := put_four (a := .int .i64 3) (b := .string xp) (c := .bool false) (d := .slice A7 (loadOf s xi).length c7) br8
        have z0 := p1.cell 0; have z1 := p1.cell 1; have z2 := p1.cell 2; have z3 := p1.cell 3
        simp at z0 z1 z2 z3
        exact bodyPost_ret (v := .tuple #[.agg #[.int .i64 3, .string xp, .bool false, .slice A7 (loadOf s xi).length c7], .bool true]) (by simp [results, Tryz.results78, go_sem, z0, z1, z2, z3]) rfl
          ⟨_, rfl, ⟨_, rfl, ((HO7.out.mono (E5.trans (Ext.refl _).drew).size).keepT K1 (by decide) (fun _ _ _ h => h)).keepT p2 (by decide) (fun _ _ _ h => h)⟩, p3 w ((E5.trans e27).setCell (p := ⟨w1.heap.size + 1, 3, none⟩) (Nat.le_of_lt hpw) _) (Nat.le_refl _)⟩
end Go.Sf
