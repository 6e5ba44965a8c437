/- The reference's ChangesOf. -/
import Derived.Test.YtdnnojghjnjnfaaGreatDoorGD
import Derived.Test.YtdnnojghjnjnfaaGreatDoorGB
import Derived.Test.YtdnnojghjnjnfaaGreatDoorGA
import Derived.Deep.RegionHeld3
/-! The reference's ChangesOf. -/
namespace Go.Sf
open Go Go.RowKit Go.Proofs
/-- changes and whether there are some -/
def OptChs (B : Nat) (o : Option (List Ch)) (r : Value) (w : World) : Prop := ∃ v, r = .tuple #[v, .bool o.isSome] ∧ Chs B w v (o.getD [])
theorem OptChs.none_ {B g : Nat} {w : World} {o : Option (List Ch)} (h : o = none) : OptChs B o (.tuple #[.slice (some ⟨g, 0, none⟩) 0 0, .bool false]) w := by
  subst h; exact ⟨_, rfl, SlOf.empty _ _ _ _ _ _ _ (Nat.zero_le _) (fun _ => rfl)⟩
theorem ech_of_v {B : Nat} {w : World} {x : It} {u : Value} {k : Int} (hk : inI k) (h1 : x.path.size < lim) (h2 : Ints B w u x.ids) : ECh B w #[.int .i64 k, .string x.path, .bool x.dir, u] 0 ⟨k, x⟩ :=
  ⟨rfl, hk, rfl, h1, rfl, u, rfl, h2⟩
theorem one4 {u : Value} {k : Int} {p : ByteArray} {d : Bool} (h : u.oneCell' = true) : ∀ c ∈ (#[.int .i64 k, .string p, .bool d, u] : Array Value).toList, c.oneCell' = true := by
  intro c hc
  simp at hc
  rcases hc with rfl | rfl | rfl | rfl
  · rfl
  · rfl
  · rfl
  · exact h
theorem step1 {out T : List Ch} {c : Ch} {L L' M M' : List It} (h : chg L M = c :: chg L' M') (hr : out ++ chg L M = T) : (out ++ [c]) ++ chg L' M' = T := by
  rw [← hr, h]; simp
theorem step2 {out T : List Ch} {c d : Ch} {L L' M M' : List It} (h : chg L M = c :: d :: chg L' M') (hr : out ++ chg L M = T) : (out ++ [c, d]) ++ chg L' M' = T := by
  rw [← hr, h]; simp
theorem one8 {u u' : Value} {k k' : Int} {p p' : ByteArray} {d d' : Bool} (h : u.oneCell' = true) (h' : u'.oneCell' = true) :
    ∀ c ∈ (#[.int .i64 k, .string p, .bool d, u, .int .i64 k', .string p', .bool d', u'] : Array Value).toList, c.oneCell' = true := by
  intro c hc
  simp at hc
  rcases hc with rfl | rfl | rfl | rfl | rfl | rfl | rfl | rfl <;> first | rfl | assumption
/-- what the loop keeps -/
def ChRel (l1 l2 : List It) (w : World) (v i j : Value) (wr : World) : Prop :=
  ∃ (a b : Nat) (out : List Ch), a ≤ l1.length ∧ b ≤ l2.length ∧ i = .int .i64 a ∧ j = .int .i64 b ∧ Ext w wr ∧ OwnS w.heap.size 131 4 (ECh w.heap.size) wr v out ∧ out.length ≤ a + b ∧ Hid (out ++ chg (l1.drop a) (l2.drop b) = chg l1 l2)
set_option maxRecDepth 2000 in
set_option maxHeartbeats 1000000 in
theorem specChangesOf_c {B : Nat} {v1 v2 : Value} {l1 l2 : List It} (w : World) (h1 : Its B w v1 l1) (h2 : Its B w v2 l2) (hlen : l1.length + l2.length ≤ lim) :
    Calls Tryz.prog 80 #[v1, v2] w (RetP (OptChs w.heap.size (chgOf l1 l2)) w) := by
  have Hl := Lib.hid hlen
  have H1 := Lib.hid h1
  have H2 := Lib.hid h2
  have Ct1 : ∀ W, Ext w W → Calls Tryz.prog 64 #[v1] W (Ret (.bool (treeOk l1)) W) := fun W e => specTreeValid_c W (H1.out.ext e)
  have Ct2 : ∀ W, Ext w W → Calls Tryz.prog 64 #[v2] W (Ret (.bool (treeOk l2)) W) := fun W e => specTreeValid_c W (H2.out.ext e)
  cases ht1 : treeOk l1 with
  | false =>
    rw [ht1] at Ct1
    have Hd : Hid (chgOf l1 l2 = none) := Lib.hid (by simp [chgOf, ht1])
    clear ht1 h1 h2 hlen Ct2
    go_enter Tryz.func80, Tryz.ntmps80
    go_wp2_with (first | (go_at_call 64; (with_reducible show Calls _ _ #[v1] _ _); refine (Ct1 _ ((Ext.refl _).alloc _)).mono ?_; rintro e w1 ⟨rfl, he1⟩))
    go_ret2
    exact ⟨_, rfl, OptChs.none_ Hd.out, ((Ext.refl w).alloc _).trans he1⟩
  | true =>
  cases ht2 : treeOk l2 with
  | false =>
    rw [ht1] at Ct1
    rw [ht2] at Ct2
    have Hd : Hid (chgOf l1 l2 = none) := Lib.hid (by simp [chgOf, ht2])
    clear ht1 ht2 h1 h2 hlen
    go_enter Tryz.func80, Tryz.ntmps80
    go_wp2_with (first | (go_at_call 64; (with_reducible show Calls _ _ #[v1] _ _); refine (Ct1 _ ((Ext.refl _).alloc _)).mono ?_; rintro e w1 ⟨rfl, he1⟩) | (go_at_call 64; (with_reducible show Calls _ _ #[v2] _ _); refine (Ct2 _ (((Ext.refl w).alloc _).trans he1)).mono ?_; rintro e w2 ⟨rfl, he2⟩))
    go_ret2
    exact ⟨_, rfl, OptChs.none_ Hd.out, (((Ext.refl w).alloc _).trans he1).trans he2⟩
  | true =>
  rw [ht1] at Ct1
  rw [ht2] at Ct2
  have Hd : Hid (chgOf l1 l2 = some (chg l1 l2)) := Lib.hid (by simp [chgOf, ht1, ht2])
  clear ht1 ht2 h1 h2 hlen
  go_enter Tryz.func80, Tryz.ntmps80
  go_wp2_with (first | (go_at_call 64; (with_reducible show Calls _ _ #[v1] _ _); refine (Ct1 _ ((Ext.refl _).alloc _)).mono ?_; rintro e w1 ⟨rfl, he1⟩) | (go_at_call 64; (with_reducible show Calls _ _ #[v2] _ _); refine (Ct2 _ (((Ext.refl w).alloc _).trans he1)).mono ?_; rintro e w2 ⟨rfl, he2⟩))
  obtain ⟨A1, c1, rfl, hA1⟩ := H1.out
  obtain ⟨A2, c2, rfl, hA2⟩ := H2.out
  have hl1 := hA1.2.2.1
  have hl2 := hA2.2.2.1
  unfold lim at hl1 hl2
  generalize hn1 : l1.length = n1 at *
  generalize hn2 : l2.length = n2 at *
  have Hn1 := Lib.hid hn1; clear hn1
  have Hn2 := Lib.hid hn2; clear hn2
  have HA1 := Lib.hid hA1; clear hA1
  have HA2 := Lib.hid hA2; clear hA2
  have he3 : Ext (w.alloc (.cells #[] 131)) w2 := he1.trans he2
  have HO0 : Hid (OwnS w.heap.size 131 4 (ECh w.heap.size) w2 (.slice (some ⟨w.heap.size, 0, none⟩) 0 0) []) := Lib.hid ((OwnS.lit0 _ _ _ _ (Nat.le_refl _)).ext (ECh_ok _) he3)
  have he4 : Ext w w2 := ((Ext.refl w).alloc _).trans he3
  clear he1 he2 he3 Ct1 Ct2
  go_loopw [6, 7, 8] (fun v i j wr => ChRel l1 l2 w v i j wr) (fun _ i j _ => (n1 + n2) - ((intOf i).toNat + (intOf j).toNat))
  case atStart => exact ⟨0, 0, [], by omega, by omega, rfl, rfl, he4, HO0.out, by simp, Lib.hid rfl⟩
  case round =>
    obtain ⟨a, b, out, ha, hb, rfl, rfl, he, hO, hol, hrest⟩ := hrel
    rw [Hn1.out] at ha
    rw [Hn2.out] at hb
    have hO' : ∃ A c, u6 = .slice A out.length c := hO.form
    obtain ⟨A6, c6, rfl⟩ := hO'
    have HO := Lib.hid hO
    have hol' : out.length ≤ n1 + n2 := by omega
    have hlm := Hl.out
    unfold lim at hlm
    clear hO
    rcases Nat.lt_or_ge a n1 with hla | hga
    · obtain ⟨x, hx⟩ := get_of_lt (l := l1) (k := a) (by rw [Hn1.out]; exact hla)
      obtain ⟨b1, o1, s1, rfl, -, -, hps1, hu1, hc0, hc1, hc2⟩ := Its.at_ HA1.out hx
      have hdx := Lib.hid (drop_cons hx)
      have Hu1 := Lib.hid hu1
      clear hx hu1
      rcases Nat.lt_or_ge b n2 with hlb | hgb
      · obtain ⟨y, hy⟩ := get_of_lt (l := l2) (k := b) (by rw [Hn2.out]; exact hlb)
        obtain ⟨b2, o2, s2, rfl, -, -, hps2, hu2, hd0, hd1, hd2⟩ := Its.at_ HA2.out hy
        have hdy := Lib.hid (drop_cons hy)
        have Hu2 := Lib.hid hu2
        clear hy hu2
        have hbne : ¬ b = n2 := by omega
        have hbq : ((b : Int) == (n2 : Int)) = false := by simp; omega
        have hbq2 : (b == n2) = false := by simp; omega
        have hane : ¬ a = n1 := by omega
        have haq : ((a : Int) == (n1 : Int)) = false := by simp; omega
        have haq2 : (a == n1) = false := by simp; omega
        have C0 := fun W (h : Ext wr W) => hc0 W (he.trans h)
        have C1 := fun W (h : Ext wr W) => hc1 W (he.trans h)
        have C2 := fun W (h : Ext wr W) => hc2 W (he.trans h)
        have D0 := fun W (h : Ext wr W) => hd0 W (he.trans h)
        have D1 := fun W (h : Ext wr W) => hd1 W (he.trans h)
        have D2 := fun W (h : Ext wr W) => hd2 W (he.trans h)
        have Hc := Lib.hid (And.intro hc0 (And.intro hc1 hc2))
        have Hdd := Lib.hid (And.intro hd0 (And.intro hd1 hd2))
        clear hc0 hc1 hc2 hd0 hd1 hd2
        cases q1 : blt x.path y.path with
        | true =>
          have Q1 := Lib.hid q1
          unfold blt at q1
          go_wp2
          refine wp_region_ext (by kernel_rfl) (by kernel_rfl) ?_
          repeat (first | (apply q_plain rfl; (· intro W eW; go_simp; (first | done | rfl | (rw [if_pos] <;> first | omega | rfl))); (try simp only [Act.put, List.setIfInBounds_toArray, List.set_cons_zero, List.set_cons_succ])) | (refine qg_skip (by rfl) ?_; (try simp only [Act.put, List.setIfInBounds_toArray, List.set_cons_zero, List.set_cons_succ])) | (apply qg_plain (by rfl); (· intro W eW; go_simp; (first | done | rfl | (rw [if_pos] <;> first | omega | rfl))); (try simp only [Act.put, List.setIfInBounds_toArray, List.set_cons_zero, List.set_cons_succ])))
          refine q_nil ?_
          intro w3 e3
          have he3 := he.trans e3
          have HO3 := Lib.hid (HO.out.ext (ECh_ok _) e3)
          have a0 := C0 w3 e3; have a1 := C1 w3 e3; have a2 := C2 w3 e3
          clear C0 C1 C2 D0 D1 D2
          go_wp2_with (first | (go_at_call 125; refine (l5Copy_c (x := x) _ ⟨s1, rfl, hps1, Hu1.out.ext he3⟩).mono ?_; rintro e w4 ⟨v4, rfl, ⟨u9, rfl, hps', hu'⟩, he4⟩; have he5 := he3.trans he4; have HO5 := Lib.hid (HO3.out.ext (ECh_ok _) he4); have Hu9 := Lib.hid (hu'.keep (Ext.size he3) (fun _ _ _ => rfl)); clear hu' a0 a1 a2) | (at_builtin; go_must (refine wp_ap1 (w0 := w) (by rfl) _ _ (by rfl) el_Ch (ECh_ok _) he5 _ out [⟨2, x⟩] (by rfl) HO5.out 1 1 rfl #[.int .i64 2, .string x.path, .bool x.dir, u9] _ (by rfl) (by first | rfl | simp) rfl (one4 Hu9.out.one) (one_E (ech_of_v (by unfold inI; omega) hps1 Hu9.out)) ?_ ?_)))
          · simp; unfold lim; omega
          · intro v' w' hO' he' _
            have HO' := Lib.hid hO'
            clear hO'
            go_wp2
            go_roundw
            case rel => exact ⟨a + 1, b, out ++ [⟨2, x⟩], by rw [Hn1.out]; omega, by rw [Hn2.out]; omega, by go_num, by go_num, he', HO'.out, by simp; omega, Lib.hid (step1 (by rw [hdx.out, hdy.out]; exact chg_lt _ _ Q1.out) hrest.out)⟩
            case measure => simp [intOf]; omega
        | false =>
          have Q1 := Lib.hid q1
          unfold blt at q1
          cases q2 : blt y.path x.path with
          | true =>
            have Q2 := Lib.hid q2
            unfold blt at q2
            go_wp2
            refine wp_region_ext (by kernel_rfl) (by kernel_rfl) ?_
            repeat (first | (apply q_plain rfl; (· intro W eW; go_simp; (first | done | rfl | (rw [if_pos] <;> first | omega | rfl))); (try simp only [Act.put, List.setIfInBounds_toArray, List.set_cons_zero, List.set_cons_succ])) | (refine qg_skip (by rfl) ?_; (try simp only [Act.put, List.setIfInBounds_toArray, List.set_cons_zero, List.set_cons_succ])) | (apply qg_plain (by rfl); (· intro W eW; go_simp; (first | done | rfl | (rw [if_pos] <;> first | omega | rfl))); (try simp only [Act.put, List.setIfInBounds_toArray, List.set_cons_zero, List.set_cons_succ])))
            refine q_nil ?_
            intro w3' e3'
            have C0' := fun W (h : Ext w3' W) => C0 W (e3'.trans h)
            have D0' := fun W (h : Ext w3' W) => D0 W (e3'.trans h)
            go_wp2
            refine wp_region_ext (by kernel_rfl) (by kernel_rfl) ?_
            repeat (first | (apply q_plain rfl; (· intro W eW; go_simp; (first | done | rfl | (rw [if_pos] <;> first | omega | rfl))); (try simp only [Act.put, List.setIfInBounds_toArray, List.set_cons_zero, List.set_cons_succ])) | (refine qg_skip (by rfl) ?_; (try simp only [Act.put, List.setIfInBounds_toArray, List.set_cons_zero, List.set_cons_succ])) | (apply qg_plain (by rfl); (· intro W eW; go_simp; (first | done | rfl | (rw [if_pos] <;> first | omega | rfl))); (try simp only [Act.put, List.setIfInBounds_toArray, List.set_cons_zero, List.set_cons_succ])))
            refine q_nil ?_
            intro w3 e3
            have he3 := (he.trans e3').trans e3
            have HO3 := Lib.hid (HO.out.ext (ECh_ok _) (e3'.trans e3))
            have a0 := D0 w3 (e3'.trans e3); have a1 := D1 w3 (e3'.trans e3); have a2 := D2 w3 (e3'.trans e3)
            clear C0 C1 C2 D0 D1 D2 C0' D0'
            go_wp2_with (first | (go_at_call 125; refine (l5Copy_c (x := y) _ ⟨s2, rfl, hps2, Hu2.out.ext he3⟩).mono ?_; rintro e w4 ⟨v4, rfl, ⟨u9, rfl, hps', hu'⟩, he4⟩; have he5 := he3.trans he4; have HO5 := Lib.hid (HO3.out.ext (ECh_ok _) he4); have Hu9 := Lib.hid (hu'.keep (Ext.size he3) (fun _ _ _ => rfl)); clear hu' a0 a1 a2) | (at_builtin; go_must (refine wp_ap1 (w0 := w) (by rfl) _ _ (by rfl) el_Ch (ECh_ok _) he5 _ out [⟨1, y⟩] (by rfl) HO5.out 1 1 rfl #[.int .i64 1, .string y.path, .bool y.dir, u9] _ (by rfl) (by first | rfl | simp) rfl (one4 Hu9.out.one) (one_E (ech_of_v (by unfold inI; omega) hps2 Hu9.out)) ?_ ?_)))
            · simp; unfold lim; omega
            · intro v' w' hO' he' _
              have HO' := Lib.hid hO'
              clear hO'
              go_wp2
              go_roundw
              case rel => exact ⟨a, b + 1, out ++ [⟨1, y⟩], by rw [Hn1.out]; omega, by rw [Hn2.out]; omega, by go_num, by go_num, he', HO'.out, by simp; omega, Lib.hid (step1 (by rw [hdx.out, hdy.out]; exact chg_gt _ _ Q1.out Q2.out) hrest.out)⟩
              case measure => simp [intOf]; omega
          | false =>
            have Q2 := Lib.hid q2
            unfold blt at q2
            go_wp2
            refine wp_region_ext (by kernel_rfl) (by kernel_rfl) ?_
            repeat (first | (apply q_plain rfl; (· intro W eW; go_simp; (first | done | rfl | (rw [if_pos] <;> first | omega | rfl))); (try simp only [Act.put, List.setIfInBounds_toArray, List.set_cons_zero, List.set_cons_succ])) | (refine qg_skip (by rfl) ?_; (try simp only [Act.put, List.setIfInBounds_toArray, List.set_cons_zero, List.set_cons_succ])) | (apply qg_plain (by rfl); (· intro W eW; go_simp; (first | done | rfl | (rw [if_pos] <;> first | omega | rfl))); (try simp only [Act.put, List.setIfInBounds_toArray, List.set_cons_zero, List.set_cons_succ])))
            refine q_nil ?_
            intro w3' e3'
            have C0' := fun W (h : Ext w3' W) => C0 W (e3'.trans h)
            have D0' := fun W (h : Ext w3' W) => D0 W (e3'.trans h)
            go_wp2
            refine wp_region_ext (by kernel_rfl) (by kernel_rfl) ?_
            repeat (first | (apply q_plain rfl; (· intro W eW; go_simp; (first | done | rfl | (rw [if_pos] <;> first | omega | rfl))); (try simp only [Act.put, List.setIfInBounds_toArray, List.set_cons_zero, List.set_cons_succ])) | (refine qg_skip (by rfl) ?_; (try simp only [Act.put, List.setIfInBounds_toArray, List.set_cons_zero, List.set_cons_succ])) | (apply qg_plain (by rfl); (· intro W eW; go_simp; (first | done | rfl | (rw [if_pos] <;> first | omega | rfl))); (try simp only [Act.put, List.setIfInBounds_toArray, List.set_cons_zero, List.set_cons_succ])))
            refine q_nil ?_
            intro w3 e3
            have E3 : Ext wr w3 := e3'.trans e3
            have he3 := he.trans E3
            have HO3 := Lib.hid (HO.out.ext (ECh_ok _) E3)
            have F0 := fun W (h : Ext w3 W) => C0 W (E3.trans h)
            have F1 := fun W (h : Ext w3 W) => C1 W (E3.trans h)
            have F2 := fun W (h : Ext w3 W) => C2 W (E3.trans h)
            have G0 := fun W (h : Ext w3 W) => D0 W (E3.trans h)
            have G1 := fun W (h : Ext w3 W) => D1 W (E3.trans h)
            have G2 := fun W (h : Ext w3 W) => D2 W (E3.trans h)
            clear C0 C1 C2 D0 D1 D2 C0' D0' q1 q2
            by_cases hdir : x.dir = y.dir
            · have Hdir := Lib.hid hdir
              go_wp2
              refine wp_region_ext (by kernel_rfl) (by kernel_rfl) ?_
              repeat (first | (apply q_plain rfl; (· intro W eW; go_simp; (first | done | rfl | (rw [if_pos] <;> first | omega | rfl))); (try simp only [Act.put, List.setIfInBounds_toArray, List.set_cons_zero, List.set_cons_succ])) | (refine qg_skip (by rfl) ?_; (try simp only [Act.put, List.setIfInBounds_toArray, List.set_cons_zero, List.set_cons_succ])) | (apply qg_plain (by rfl); (· intro W eW; go_simp; (first | done | rfl | (rw [if_pos] <;> first | omega | rfl))); (try simp only [Act.put, List.setIfInBounds_toArray, List.set_cons_zero, List.set_cons_succ])))
              refine q_nil ?_
              intro w4 e4
              have he3 := he3.trans e4
              have HO3 := Lib.hid (HO3.out.ext (ECh_ok _) e4)
              have F0' := fun W (h : Ext w4 W) => F0 W (e4.trans h)
              have F1' := fun W (h : Ext w4 W) => F1 W (e4.trans h)
              have F2' := fun W (h : Ext w4 W) => F2 W (e4.trans h)
              have G0' := fun W (h : Ext w4 W) => G0 W (e4.trans h)
              have G1' := fun W (h : Ext w4 W) => G1 W (e4.trans h)
              have G2' := fun W (h : Ext w4 W) => G2 W (e4.trans h)
              clear F0 F1 F2 G0 G1 G2 hdir
              have Cs : ∀ W, Ext w4 W → Calls Tryz.prog 126 #[.agg #[.string x.path, .bool x.dir, s1], .agg #[.string y.path, .bool y.dir, s2]] W (Ret (.bool (eqb x y)) W) := fun W e => spec_l13Same_c W ⟨s1, rfl, hps1, Hu1.out.ext (he3.trans e)⟩ ⟨s2, rfl, hps2, Hu2.out.ext (he3.trans e)⟩
              cases h4 : eqb x y with
              | true =>
                rw [h4] at Cs
                have H4 := Lib.hid h4
                clear h4
                go_wp2
                refine wp_region_ext (by kernel_rfl) (by kernel_rfl) ?_
                repeat (first | (apply q_plain rfl; (· intro W eW; go_simp; (first | done | rfl | (rw [if_pos] <;> first | omega | rfl))); (try simp only [Act.put, List.setIfInBounds_toArray, List.set_cons_zero, List.set_cons_succ])) | (refine qg_skip (by rfl) ?_; (try simp only [Act.put, List.setIfInBounds_toArray, List.set_cons_zero, List.set_cons_succ])) | (apply qg_plain (by rfl); (· intro W eW; go_simp; (first | done | rfl | (rw [if_pos] <;> first | omega | rfl))); (try simp only [Act.put, List.setIfInBounds_toArray, List.set_cons_zero, List.set_cons_succ])))
                ((first | apply q_call rfl | apply qg_call (by rfl)); (· intro W eW; go_simp; (first | done | (constructor <;> rfl))); (· intro W eW; exact Cs W eW); (try simp only [Act.put, List.setIfInBounds_toArray, List.set_cons_zero, List.set_cons_succ]))
                repeat (first | (apply q_plain rfl; (· intro W eW; go_simp; (first | done | rfl | (rw [if_pos] <;> first | omega | rfl))); (try simp only [Act.put, List.setIfInBounds_toArray, List.set_cons_zero, List.set_cons_succ])) | (refine qg_skip (by rfl) ?_; (try simp only [Act.put, List.setIfInBounds_toArray, List.set_cons_zero, List.set_cons_succ])) | (apply qg_plain (by rfl); (· intro W eW; go_simp; (first | done | rfl | (rw [if_pos] <;> first | omega | rfl))); (try simp only [Act.put, List.setIfInBounds_toArray, List.set_cons_zero, List.set_cons_succ])))
                refine q_nil ?_
                intro w5 e5
                go_wp2
                go_roundw
                case rel => exact ⟨a + 1, b + 1, out, by rw [Hn1.out]; omega, by rw [Hn2.out]; omega, by go_num, by go_num, he3.trans e5, HO3.out.ext (ECh_ok _) e5, by omega, Lib.hid (by rw [← hrest.out, hdx.out, hdy.out, chg_same _ _ Q1.out Q2.out Hdir.out H4.out])⟩
                case measure => simp [intOf]; omega
              | false =>
                rw [h4] at Cs
                have H4 := Lib.hid h4
                clear h4
                go_wp2
                refine wp_region_ext (by kernel_rfl) (by kernel_rfl) ?_
                repeat (first | (apply q_plain rfl; (· intro W eW; go_simp; (first | done | rfl | (rw [if_pos] <;> first | omega | rfl))); (try simp only [Act.put, List.setIfInBounds_toArray, List.set_cons_zero, List.set_cons_succ])) | (refine qg_skip (by rfl) ?_; (try simp only [Act.put, List.setIfInBounds_toArray, List.set_cons_zero, List.set_cons_succ])) | (apply qg_plain (by rfl); (· intro W eW; go_simp; (first | done | rfl | (rw [if_pos] <;> first | omega | rfl))); (try simp only [Act.put, List.setIfInBounds_toArray, List.set_cons_zero, List.set_cons_succ])))
                ((first | apply q_call rfl | apply qg_call (by rfl)); (· intro W eW; go_simp; (first | done | (constructor <;> rfl))); (· intro W eW; exact Cs W eW); (try simp only [Act.put, List.setIfInBounds_toArray, List.set_cons_zero, List.set_cons_succ]))
                repeat (first | (apply q_plain rfl; (· intro W eW; go_simp; (first | done | rfl | (rw [if_pos] <;> first | omega | rfl))); (try simp only [Act.put, List.setIfInBounds_toArray, List.set_cons_zero, List.set_cons_succ])) | (refine qg_skip (by rfl) ?_; (try simp only [Act.put, List.setIfInBounds_toArray, List.set_cons_zero, List.set_cons_succ])) | (apply qg_plain (by rfl); (· intro W eW; go_simp; (first | done | rfl | (rw [if_pos] <;> first | omega | rfl))); (try simp only [Act.put, List.setIfInBounds_toArray, List.set_cons_zero, List.set_cons_succ])))
                refine q_nil ?_
                intro w5 e5
                have he3 := he3.trans e5
                have HO3 := Lib.hid (HO3.out.ext (ECh_ok _) e5)
                have a0 := G0' w5 e5; have a1 := G1' w5 e5; have a2 := G2' w5 e5
                clear F0' F1' F2' G0' G1' G2' Cs
                go_wp2_with (first | (go_at_call 125; refine (l5Copy_c (x := y) _ ⟨s2, rfl, hps2, Hu2.out.ext he3⟩).mono ?_; rintro e w4 ⟨v4, rfl, ⟨u9, rfl, hps', hu'⟩, he4⟩; have he5 := he3.trans he4; have HO5 := Lib.hid (HO3.out.ext (ECh_ok _) he4); have Hu9 := Lib.hid (hu'.keep (Ext.size he3) (fun _ _ _ => rfl)); clear hu' a0 a1 a2) | (at_builtin; go_must (refine wp_ap1 (w0 := w) (by rfl) _ _ (by rfl) el_Ch (ECh_ok _) he5 _ out [⟨3, y⟩] (by rfl) HO5.out 1 1 rfl #[.int .i64 3, .string y.path, .bool y.dir, u9] _ (by rfl) (by first | rfl | simp) rfl (one4 Hu9.out.one) (one_E (ech_of_v (by unfold inI; omega) hps2 Hu9.out)) ?_ ?_)))
                · simp; unfold lim; omega
                · intro v' w' hO' he' _
                  have HO' := Lib.hid hO'
                  clear hO'
                  go_wp2
                  go_roundw
                  case rel => exact ⟨a + 1, b + 1, out ++ [⟨3, y⟩], by rw [Hn1.out]; omega, by rw [Hn2.out]; omega, by go_num, by go_num, he', HO'.out, by simp; omega, Lib.hid (step1 (by rw [hdx.out, hdy.out]; exact chg_other _ _ Q1.out Q2.out Hdir.out H4.out) hrest.out)⟩
                  case measure => simp [intOf]; omega
            · have Hdir := Lib.hid hdir
              have hdq : (x.dir == y.dir) = false := by simp [hdir]
              go_wp2
              refine wp_region_ext (by kernel_rfl) (by kernel_rfl) ?_
              repeat (first | (apply q_plain rfl; (· intro W eW; go_simp; (first | done | rfl | (rw [if_pos] <;> first | omega | rfl))); (try simp only [Act.put, List.setIfInBounds_toArray, List.set_cons_zero, List.set_cons_succ])) | (refine qg_skip (by rfl) ?_; (try simp only [Act.put, List.setIfInBounds_toArray, List.set_cons_zero, List.set_cons_succ])) | (apply qg_plain (by rfl); (· intro W eW; go_simp; (first | done | rfl | (rw [if_pos] <;> first | omega | rfl))); (try simp only [Act.put, List.setIfInBounds_toArray, List.set_cons_zero, List.set_cons_succ])))
              refine q_nil ?_
              intro w4 e4
              go_wp2
              have he4 := he3.trans e4
              have HO4 := Lib.hid (HO3.out.ext (ECh_ok _) e4)
              have F0' := Hc.out.1
              have F1' := Hc.out.2.1
              have F2' := Hc.out.2.2
              have G0' := Hdd.out.1
              have G1' := Hdd.out.2.1
              have G2' := Hdd.out.2.2
              clear F0 F1 F2 G0 G1 G2 hdir hdq
              go_region_held3 (fun W => Ext w W) (first | assumption | exact he4.drew | exact he4.drew.trans he5 | exact (he4.drew.trans he5).trans he6 | exact ((he4.drew.trans he5).trans he6).alloc _ | exact Ext.alloc (by assumption) _) (first
                | (go_at_call 125; (with_reducible show Calls _ _ #[.agg #[.string x.path, .bool x.dir, s1]] _ _); refine (l5Copy_c (x := x) _ ⟨s1, rfl, hps1, Hu1.out.ext (by assumption)⟩).mono ?_; rintro e w5 ⟨v5, rfl, ⟨u9, rfl, hps9, hu9⟩, he5⟩)
                | (go_at_call 125; (with_reducible show Calls _ _ #[.agg #[.string y.path, .bool y.dir, s2]] _ _); refine (l5Copy_c (x := y) _ ⟨s2, rfl, hps2, Hu2.out.ext (by assumption)⟩).mono ?_; rintro e w6 ⟨v6, rfl, ⟨u8, rfl, hps8, hu8⟩, he6⟩)
                | (refine op_of_list ?_; refine wp_ap1 (w0 := w) (by rfl) _ _ (by rfl) el_Ch (ECh_ok _) ((he4.drew.trans he5).trans he6) _ out [⟨2, x⟩, ⟨1, y⟩] (by rfl) (HO4.out.ext (ECh_ok _) (((Ext.refl w4).drew.trans he5).trans he6)) 2 2 rfl #[.int .i64 2, .string x.path, .bool x.dir, u9, .int .i64 1, .string y.path, .bool y.dir, u8] _ (by rfl) (by first | rfl | simp) rfl (one8 hu9.one hu8.one) (two_E ⟨rfl, (by show inI 2; unfold inI; omega), rfl, hps1, rfl, u9, rfl, (hu9.ext he6).keep (Ext.size he4.drew) (fun _ _ _ => rfl)⟩ ⟨rfl, (by show inI 1; unfold inI; omega), rfl, hps2, rfl, u8, rfl, hu8.keep (Ext.size (he4.drew.trans he5)) (fun _ _ _ => rfl)⟩) (by simp; unfold lim; omega) (fun v' w' hO' he' _ => ?_); have HO' := Lib.hid hO'; clear hO'; unfold Tight; refine wpList_nil ?_; dsimp only [Exit.then]))
              go_wp2
              go_roundw
              case rel => exact ⟨a + 1, b + 1, out ++ [⟨2, x⟩, ⟨1, y⟩], by rw [Hn1.out]; omega, by rw [Hn2.out]; omega, by go_num, by go_num, he', HO'.out, by simp; omega, Lib.hid (step2 (by rw [hdx.out, hdy.out]; exact chg_two _ _ Q1.out Q2.out Hdir.out) hrest.out)⟩
              case measure => simp [intOf]; omega
      · have hbn : b = n2 := by omega
        subst hbn
        clear hgb
        go_wp2
        refine wp_region_ext (by kernel_rfl) (by kernel_rfl) ?_
        repeat (first | (apply q_plain rfl; (· intro W eW; go_simp; (first | done | rfl | (rw [if_pos] <;> first | omega | rfl))); (try simp only [Act.put, List.setIfInBounds_toArray, List.set_cons_zero, List.set_cons_succ])) | (refine qg_skip (by rfl) ?_; (try simp only [Act.put, List.setIfInBounds_toArray, List.set_cons_zero, List.set_cons_succ])) | (apply qg_plain (by rfl); (· intro W eW; go_simp; (first | done | rfl | (rw [if_pos] <;> first | omega | rfl))); (try simp only [Act.put, List.setIfInBounds_toArray, List.set_cons_zero, List.set_cons_succ])))
        refine q_nil ?_
        intro w3 e3
        have he3 := he.trans e3
        have HO3 := Lib.hid (HO.out.ext (ECh_ok _) e3)
        have a0 := hc0 w3 he3; have a1 := hc1 w3 he3; have a2 := hc2 w3 he3
        clear hc0 hc1 hc2
        go_wp2_with (first | (go_at_call 125; refine (l5Copy_c (x := x) _ ⟨s1, rfl, hps1, Hu1.out.ext he3⟩).mono ?_; rintro e w4 ⟨v4, rfl, ⟨u9, rfl, hps', hu'⟩, he4⟩; have he5 := he3.trans he4; have HO5 := Lib.hid (HO3.out.ext (ECh_ok _) he4); have Hu2 := Lib.hid (hu'.keep (Ext.size he3) (fun _ _ _ => rfl)); clear hu' a0 a1 a2) | (at_builtin; go_must (refine wp_ap1 (w0 := w) (by rfl) _ _ (by rfl) el_Ch (ECh_ok _) he5 _ out [⟨2, x⟩] (by rfl) HO5.out 1 1 rfl #[.int .i64 2, .string x.path, .bool x.dir, u9] _ (by rfl) (by first | rfl | simp) rfl (one4 Hu2.out.one) (one_E (ech_of_v (by unfold inI; omega) hps1 Hu2.out)) ?_ ?_)))
        · simp; unfold lim; omega
        · intro v' w' hO' he' _
          have HO' := Lib.hid hO'
          clear hO'
          go_wp2
          go_roundw
          case rel => exact ⟨a + 1, b, out ++ [⟨2, x⟩], by rw [Hn1.out]; omega, by rw [Hn2.out]; omega, by go_num, by go_num, he', HO'.out, by simp; omega, Lib.hid (step1 (by rw [hdx.out, List.drop_of_length_le (l := l2) (i := b) (by rw [Hn2.out]; omega)]; exact chg_left _ _) hrest.out)⟩
          case measure => simp [intOf]; omega
    · have han : a = n1 := by omega
      subst han
      clear hga
      rcases Nat.lt_or_ge b n2 with hlb | hgb
      · obtain ⟨y, hy⟩ := get_of_lt (l := l2) (k := b) (by rw [Hn2.out]; exact hlb)
        obtain ⟨b2, o2, s2, rfl, -, -, hps2, hu2, hc0, hc1, hc2⟩ := Its.at_ HA2.out hy
        have hdy := Lib.hid (drop_cons hy)
        have Hu1 := Lib.hid hu2
        have hbne : ¬ b = n2 := by omega
        have hbq : ((b : Int) == (n2 : Int)) = false := by simp; omega
        have hbq2 : (b == n2) = false := by simp; omega
        clear hy hu2
        go_wp2
        refine wp_region_ext (by kernel_rfl) (by kernel_rfl) ?_
        repeat (first | (apply q_plain rfl; (· intro W eW; go_simp; (first | done | rfl | (rw [if_pos] <;> first | omega | rfl))); (try simp only [Act.put, List.setIfInBounds_toArray, List.set_cons_zero, List.set_cons_succ])) | (refine qg_skip (by rfl) ?_; (try simp only [Act.put, List.setIfInBounds_toArray, List.set_cons_zero, List.set_cons_succ])) | (apply qg_plain (by rfl); (· intro W eW; go_simp; (first | done | rfl | (rw [if_pos] <;> first | omega | rfl))); (try simp only [Act.put, List.setIfInBounds_toArray, List.set_cons_zero, List.set_cons_succ])))
        refine q_nil ?_
        intro w3' e3'
        go_wp2
        refine wp_region_ext (by kernel_rfl) (by kernel_rfl) ?_
        repeat (first | (apply q_plain rfl; (· intro W eW; go_simp; (first | done | rfl | (rw [if_pos] <;> first | omega | rfl))); (try simp only [Act.put, List.setIfInBounds_toArray, List.set_cons_zero, List.set_cons_succ])) | (refine qg_skip (by rfl) ?_; (try simp only [Act.put, List.setIfInBounds_toArray, List.set_cons_zero, List.set_cons_succ])) | (apply qg_plain (by rfl); (· intro W eW; go_simp; (first | done | rfl | (rw [if_pos] <;> first | omega | rfl))); (try simp only [Act.put, List.setIfInBounds_toArray, List.set_cons_zero, List.set_cons_succ])))
        refine q_nil ?_
        intro w3 e3
        have he3 := (he.trans e3').trans e3
        have HO3 := Lib.hid (HO.out.ext (ECh_ok _) (e3'.trans e3))
        have a0 := hc0 w3 he3; have a1 := hc1 w3 he3; have a2 := hc2 w3 he3
        clear hc0 hc1 hc2
        go_wp2_with (first | (go_at_call 125; refine (l5Copy_c (x := y) _ ⟨s2, rfl, hps2, Hu1.out.ext he3⟩).mono ?_; rintro e w4 ⟨v4, rfl, ⟨u9, rfl, hps', hu'⟩, he4⟩; have he5 := he3.trans he4; have HO5 := Lib.hid (HO3.out.ext (ECh_ok _) he4); have Hu2 := Lib.hid (hu'.keep (Ext.size he3) (fun _ _ _ => rfl)); clear hu' a0 a1 a2) | (at_builtin; go_must (refine wp_ap1 (w0 := w) (by rfl) _ _ (by rfl) el_Ch (ECh_ok _) he5 _ out [⟨1, y⟩] (by rfl) HO5.out 1 1 rfl #[.int .i64 1, .string y.path, .bool y.dir, u9] _ (by rfl) (by first | rfl | simp) rfl (one4 Hu2.out.one) (one_E (ech_of_v (by unfold inI; omega) hps2 Hu2.out)) ?_ ?_)))
        · simp; unfold lim; omega
        · intro v' w' hO' he' _
          have HO' := Lib.hid hO'
          clear hO'
          go_wp2
          go_roundw
          case rel => exact ⟨a, b + 1, out ++ [⟨1, y⟩], by rw [Hn1.out]; omega, by rw [Hn2.out]; omega, by go_num, by go_num, he', HO'.out, by simp; omega, Lib.hid (step1 (by rw [hdy.out, List.drop_of_length_le (l := l1) (i := a) (by rw [Hn1.out]; omega)]; exact chg_right _ _) hrest.out)⟩
          case measure => simp [intOf]; omega
      · have hbn : b = n2 := by omega
        subst hbn
        clear hgb
        go_wp2
        go_ret2
        refine ⟨_, rfl, ?_, he⟩
        rw [Hd.out]
        have hr := hrest.out
        rw [List.drop_of_length_le (by rw [Hn1.out]; omega), List.drop_of_length_le (by rw [Hn2.out]; omega), chg_nil, List.append_nil] at hr
        refine ⟨.slice A6 out.length c6, rfl, ?_⟩
        show Chs _ _ _ (chg l1 l2)
        rw [← hr]
        exact HO.out.sl (ECh_ok _) (Nat.le_refl _) (by unfold lim; omega)
end Go.Sf
