/- The reference copies a disk. -/
import Derived.Test.YtdnnojghjnjnfaaGreatDoorGY
import Derived.Test.YtdnnojghjnjnfaaGreatDoorT94
import Derived.Test.YtdnnojghjnjnfaaGreatDoorW16
namespace Go.Sf
open Go Go.RowKit Go.Proofs
/-- three cells of a block are written -/
theorem put_three {w : World} {t : TypeId} {g : Nat} {a b c a' b' c' : Value} (h : Blk w g t #[a', b', c']) :
    Blk (((w.setCell ⟨g, 0, none⟩ a).setCell ⟨g, 1, none⟩ b).setCell ⟨g, 2, none⟩ c) g t #[a, b, c] ∧ KeepsT t w (((w.setCell ⟨g, 0, none⟩ a).setCell ⟨g, 1, none⟩ b).setCell ⟨g, 2, none⟩ c) ∧
    (∀ w0, Ext w0 w → w0.heap.size ≤ g → Ext w0 (((w.setCell ⟨g, 0, none⟩ a).setCell ⟨g, 1, none⟩ b).setCell ⟨g, 2, none⟩ c)) ∧ ∀ k, k ≠ g → (((w.setCell ⟨g, 0, none⟩ a).setCell ⟨g, 1, none⟩ b).setCell ⟨g, 2, none⟩ c).heap[k]? = w.heap[k]? := by
  have h1 := h.set_ 0 a
  have h2 := h1.set_ 1 b
  have h3 := h2.set_ 2 c
  refine ⟨by simpa using h3, ((KeepsT.set (i := 0) h a rfl).trans (KeepsT.set (i := 1) h1 b rfl)).trans (KeepsT.set (i := 2) h2 c rfl), fun w0 e hg => ((e.setCell (p := ⟨g, 0, none⟩) hg a).setCell (p := ⟨g, 1, none⟩) hg b).setCell (p := ⟨g, 2, none⟩) hg c, fun k hk => ?_⟩
  rw [RowKit.Below.heap_setCell _ _ _ _ hk, RowKit.Below.heap_setCell _ _ _ _ hk, RowKit.Below.heap_setCell _ _ _ _ hk]
/-- a region whose orders all leave one thing -/
theorem wp_region_brP {P : Program} {Q : Exit → Act → World → Prop} {a : Act} {w : World} {id : Nat} {l : List Oper} (S : World → Prop) (ks : List Nat) (fuel : Nat) (Φ : Act → Act → World → Prop) (hm : P.follows .mixedOrders = true)
    (hB : (Region.noSelect l.toArray && (brGo .any l.toArray ks (Array.replicate l.toArray.size false) && (ks.length + fuel == l.toArray.size))) = true) (hS : S w.drew)
    (h : RB P l.toArray (NoPanic fun e a' w' => e = .normal ∧ Φ a a' w') S fuel ks ks a w.drew) (k : ∀ a' w', Φ a a' w' → Q .normal a' w') : (Code.region id l.toArray true).wp P Q a w :=
  Code.wp_mono (fun e a' w' ⟨he, hf⟩ => by subst he; exact k a' w' hf) (wp_region_br S ks fuel hm hB hS h)
theorem sn_lit (B g : Nat) {W : World} (hg : B ≤ g) (h : Blk W g 49 #[]) : OwnS B 49 2 (ESn B) W (.slice (some ⟨g, 0, none⟩) 0 0) [] :=
  ⟨[], ⟨by simp, .inr ⟨g, 0, #[], rfl, hg, h, Nat.le_refl _, Nat.zero_le _, by simp, by simp⟩⟩, fun k x h => by simp at h⟩
/-- a disk of the call's own -/
def OwnDk (B : Nat) (s : List Hd) (t : List It) (l : List Sn) (us ut un : Value) (w : World) : Prop :=
  OwnS B 45 3 (EHd B) w us s ∧ OwnS B 47 3 (EIt B) w ut t ∧ OwnS B 49 2 (ESn B) w un l
set_option maxRecDepth 8000 in
set_option maxHeartbeats 4000000 in
theorem l12Copy_c {B B' B2 : Nat} {vs vt vn : Value} {s : List Hd} {t : List It} {l : List Sn} (w : World) (hs : Hds B w vs s) (ht : Its B' w vt t) (hn : Sns B2 w vn l) :
    Calls Tryz.prog 167 #[.agg #[vs, vt, vn]] w (RetP (fun r w' => ∃ us ut un, r = .agg #[us, ut, un] ∧ OwnDk w.heap.size s t l us ut un w') w) := by
  have HS := Lib.hid hs; have HT := Lib.hid ht; have HN := Lib.hid hn
  obtain ⟨A, c, rfl, -⟩ := hs
  obtain ⟨A2, c2, rfl, -⟩ := ht
  obtain ⟨A3, c3, rfl, hA3⟩ := hn
  have hl := hA3.2.2.1
  unfold lim at hl
  have hbk := Lib.hid ((Blk.new w 40 #[.slice A s.length c, .slice A2 t.length c2, .slice A3 l.length c3]).alloc (.cells #[.slice none 0 0, .slice none 0 0, .slice none 0 0] 40))
  have hbr : Hid (Blk ((w.alloc (.cells #[.slice A s.length c, .slice A2 t.length c2, .slice A3 l.length c3] 40)).alloc (.cells #[.slice none 0 0, .slice none 0 0, .slice none 0 0] 40)) (w.heap.size + 1) 40 #[.slice none 0 0, .slice none 0 0, .slice none 0 0]) := Lib.hid (by
    have := Blk.new (w.alloc (.cells #[.slice A s.length c, .slice A2 t.length c2, .slice A3 l.length c3] 40)) 40 #[.slice none 0 0, .slice none 0 0, .slice none 0 0]
    simpa using this)
  have e0 : Ext w ((w.alloc (.cells #[.slice A s.length c, .slice A2 t.length c2, .slice A3 l.length c3] 40)).alloc (.cells #[.slice none 0 0, .slice none 0 0, .slice none 0 0] 40)) := ((Ext.refl w).alloc _).alloc _
  have HA3 := Lib.hid hA3
  clear hA3
  go_enter Tryz.func167, Tryz.ntmps167
  go_wp2
  generalize (w.alloc (.cells #[.slice A s.length c, .slice A2 t.length c2, .slice A3 l.length c3] 40)).alloc (.cells #[.slice none 0 0, .slice none 0 0, .slice none 0 0] 40) = w2 at *
  have d0 := fun W (e : Ext w2 W) => hbk.out.at_ (i := 0) (u := .slice A s.length c) rfl W e
  have d1 := fun W (e : Ext w2 W) => hbk.out.at_ (i := 1) (u := .slice A2 t.length c2) rfl W e
  have d2 := fun W (e : Ext w2 W) => hbk.out.at_ (i := 2) (u := .slice A3 l.length c3) rfl W e
  refine wp_region_brP (fun W => Ext w2 W) [0, 1, 3, 4] 6 (fun a a' W => ∃ (us : Nat → Value) (A7 : Option Addr) (c7 : Nat) (A10 : Option Addr) (c10 g g11 : Nat), a' = putAll [5, 6, 7, 8, 9, 10, 11, 12, 3] us a ∧ us 3 = .pointer (some ⟨g, 0, none⟩) ∧ Ext w2 W ∧ w2.heap.size ≤ g ∧
      Blk W g 40 #[.slice A7 s.length c7, .slice A10 t.length c10, .slice (some ⟨g11, 0, none⟩) 0 0] ∧ OwnS w2.heap.size 45 3 (EHd w2.heap.size) W (.slice A7 s.length c7) s ∧ OwnS w2.heap.size 47 3 (EIt w2.heap.size) W (.slice A10 t.length c10) t ∧
      OwnS w2.heap.size 49 2 (ESn w2.heap.size) W (.slice (some ⟨g11, 0, none⟩) 0 0) []) (by kernel_rfl) (by kernel_rfl) ?_ ?_ ?_
  · exact (Ext.refl w2).drew
  · (repeat (apply rb_read (by rfl) (by rfl); (· (intro W hW; (try dsimp only at hW); go_simp; (first | done | rfl | (rw [if_pos] <;> first | omega | rfl)))); (try simp only [Act.put, List.setIfInBounds_toArray, List.set_cons_zero, List.set_cons_succ])))
    refine rb_nil ?_
    have E0 := (Ext.refl w2).drew
    clear d0 d1
    generalize w2.drew = x0 at *
    refine br_step [2, 6, 8] (by kernel_rfl) (by simp) ?_
    intro i hi
    simp only [List.mem_cons, List.mem_nil_iff, or_false] at hi
    rcases hi with rfl | rfl | rfl
    · refine ⟨_, rfl, ?_⟩
      go_wp2_with (go_at_call 56; refine (l3Copy_c _ (HS.out.ext (e0.trans E0))).mono ?_; rintro e x1 ⟨y2, rfl, hO, he1⟩)
      obtain ⟨A7, c7, rfl⟩ := hO.form
      have E1 := E0.trans he1
      have F2 := Lib.hid (hO.weak E0.size fun _ _ _ gg => gg.keep E0.size (fun _ _ _ => rfl))
      clear hO
      (try refine ⟨E1, ?_⟩)
      refine br_step [5, 6, 8] (by kernel_rfl) (by simp) ?_
      intro i hi
      simp only [List.mem_cons, List.mem_nil_iff, or_false] at hi
      rcases hi with rfl | rfl | rfl
      · refine ⟨_, rfl, ?_⟩
        go_wp2_with (go_at_call 168; refine (l5All_c _ (HT.out.ext (e0.trans E1))).mono ?_; rintro e x2 ⟨y5, rfl, hO, he2⟩)
        obtain ⟨A10, c10, rfl⟩ := hO.form
        have E2 := E1.trans he2
        have F5 := Lib.hid (hO.weak E1.size fun _ _ _ gg => gg.keep E1.size (fun _ _ _ => rfl))
        clear hO
        have F2 := Lib.hid (F2.out.ext (EHd_ok _) he2)
        (try refine ⟨E2, ?_⟩)
        refine br_step [6, 8] (by kernel_rfl) (by simp) ?_
        intro i hi
        simp only [List.mem_cons, List.mem_nil_iff, or_false] at hi
        rcases hi with rfl | rfl
        · refine ⟨_, rfl, ?_⟩
          have he3 : Ext x2 (x2.alloc (.cells #[] 49)) := (Ext.refl _).alloc _
          have E3 := E2.trans he3
          have F6 := Lib.hid (⟨E2.size, Blk.new x2 49 #[]⟩ : w2.heap.size ≤ (x2).heap.size ∧ Blk (x2.alloc (.cells #[] 49)) (x2).heap.size 49 #[])
          go_wp2
          generalize x2.alloc (.cells #[] 49) = x3 at *
          have F2 := Lib.hid (F2.out.ext (EHd_ok _) he3)
          have F5 := Lib.hid (F5.out.ext (EIt_ok _) he3)
          (try refine ⟨E3, ?_⟩)
          refine br_step [7, 8] (by kernel_rfl) (by simp) ?_
          intro i hi
          simp only [List.mem_cons, List.mem_nil_iff, or_false] at hi
          rcases hi with rfl | rfl
          · refine ⟨_, rfl, ?_⟩
            have E4 := E3
            go_wp2
            (try refine ⟨E4, ?_⟩)
            refine br_one 8 (by kernel_rfl) (by rfl) ?_
            have he5 : Ext x3 (x3.alloc (.cells #[.slice none 0 0, .slice none 0 0, .slice none 0 0] 40)) := (Ext.refl _).alloc _
            have E5 := E4.trans he5
            have F8 := Lib.hid (⟨E4.size, Blk.new x3 40 #[.slice none 0 0, .slice none 0 0, .slice none 0 0]⟩ : w2.heap.size ≤ (x3).heap.size ∧ Blk (x3.alloc (.cells #[.slice none 0 0, .slice none 0 0, .slice none 0 0] 40)) (x3).heap.size 40 #[.slice none 0 0, .slice none 0 0, .slice none 0 0])
            go_wp2
            generalize x3.alloc (.cells #[.slice none 0 0, .slice none 0 0, .slice none 0 0] 40) = x5 at *
            have F2 := Lib.hid (F2.out.ext (EHd_ok _) he5)
            have F5 := Lib.hid (F5.out.ext (EIt_ok _) he5)
            have F6 := Lib.hid (And.intro F6.out.1 (F6.out.2.ext he5))
            (try refine ⟨E5, ?_⟩)
            refine br_one 9 (by kernel_rfl) (by rfl) ?_
            have fz0 := F8.out.2.frozen 0; have fz1 := F8.out.2.frozen 1; have fz2 := F8.out.2.frozen 2
            have cz0 := F8.out.2.cell 0; have cz1 := F8.out.2.cell 1; have cz2 := F8.out.2.cell 2
            simp at cz0 cz1 cz2
            obtain ⟨p1, p2, p3, -⟩ := put_three (a := .slice A7 s.length c7) (b := .slice A10 t.length c10) (c := (.slice (some ⟨x2.heap.size, 0, none⟩) 0 0)) F8.out.2
            have P3 := p3 w2 E5 F8.out.1
            go_wp2
            (try refine ⟨P3, ?_⟩)
            refine br_nil (by kernel_rfl) ?_
            refine NoPanic.normal ⟨rfl, (fun e => [undef, undef, undef, .pointer (some ⟨x3.heap.size, 0, none⟩), undef, .pointer (some ⟨w.heap.size, 0, none⟩), .slice A s.length c, .slice A7 s.length c7, .pointer (some ⟨w.heap.size, 1, none⟩), .slice A2 t.length c2, .slice A10 t.length c10, (.slice (some ⟨x2.heap.size, 0, none⟩) 0 0), .agg #[.slice A7 s.length c7, .slice A10 t.length c10, (.slice (some ⟨x2.heap.size, 0, none⟩) 0 0)]].getD e undef), A7, c7, A10, c10, x3.heap.size, x2.heap.size, ?_, rfl, P3, F8.out.1, p1, F2.out.keepT p2 (by decide) fun _ _ _ gg => gg.keepT p2 (by decide), F5.out.keepT p2 (by decide) fun _ _ _ gg => gg.keepT p2 (by decide), sn_lit w2.heap.size _ F6.out.1 (p2 _ _ _ (by decide) F6.out.2)⟩
            simp only [putAll, List.foldl_cons, List.foldl_nil, Act.put, List.setIfInBounds_toArray, List.set_cons_zero, List.set_cons_succ, List.getD_cons_zero, List.getD_cons_succ]
          · refine ⟨_, rfl, ?_⟩
            have he4 : Ext x3 (x3.alloc (.cells #[.slice none 0 0, .slice none 0 0, .slice none 0 0] 40)) := (Ext.refl _).alloc _
            have E4 := E3.trans he4
            have F8 := Lib.hid (⟨E3.size, Blk.new x3 40 #[.slice none 0 0, .slice none 0 0, .slice none 0 0]⟩ : w2.heap.size ≤ (x3).heap.size ∧ Blk (x3.alloc (.cells #[.slice none 0 0, .slice none 0 0, .slice none 0 0] 40)) (x3).heap.size 40 #[.slice none 0 0, .slice none 0 0, .slice none 0 0])
            go_wp2
            generalize x3.alloc (.cells #[.slice none 0 0, .slice none 0 0, .slice none 0 0] 40) = x4 at *
            have F2 := Lib.hid (F2.out.ext (EHd_ok _) he4)
            have F5 := Lib.hid (F5.out.ext (EIt_ok _) he4)
            have F6 := Lib.hid (And.intro F6.out.1 (F6.out.2.ext he4))
            (try refine ⟨E4, ?_⟩)
            refine br_one 7 (by kernel_rfl) (by rfl) ?_
            have E5 := E4
            go_wp2
            (try refine ⟨E5, ?_⟩)
            refine br_one 9 (by kernel_rfl) (by rfl) ?_
            have fz0 := F8.out.2.frozen 0; have fz1 := F8.out.2.frozen 1; have fz2 := F8.out.2.frozen 2
            have cz0 := F8.out.2.cell 0; have cz1 := F8.out.2.cell 1; have cz2 := F8.out.2.cell 2
            simp at cz0 cz1 cz2
            obtain ⟨p1, p2, p3, -⟩ := put_three (a := .slice A7 s.length c7) (b := .slice A10 t.length c10) (c := (.slice (some ⟨x2.heap.size, 0, none⟩) 0 0)) F8.out.2
            have P3 := p3 w2 E5 F8.out.1
            go_wp2
            (try refine ⟨P3, ?_⟩)
            refine br_nil (by kernel_rfl) ?_
            refine NoPanic.normal ⟨rfl, (fun e => [undef, undef, undef, .pointer (some ⟨x3.heap.size, 0, none⟩), undef, .pointer (some ⟨w.heap.size, 0, none⟩), .slice A s.length c, .slice A7 s.length c7, .pointer (some ⟨w.heap.size, 1, none⟩), .slice A2 t.length c2, .slice A10 t.length c10, (.slice (some ⟨x2.heap.size, 0, none⟩) 0 0), .agg #[.slice A7 s.length c7, .slice A10 t.length c10, (.slice (some ⟨x2.heap.size, 0, none⟩) 0 0)]].getD e undef), A7, c7, A10, c10, x3.heap.size, x2.heap.size, ?_, rfl, P3, F8.out.1, p1, F2.out.keepT p2 (by decide) fun _ _ _ gg => gg.keepT p2 (by decide), F5.out.keepT p2 (by decide) fun _ _ _ gg => gg.keepT p2 (by decide), sn_lit w2.heap.size _ F6.out.1 (p2 _ _ _ (by decide) F6.out.2)⟩
            simp only [putAll, List.foldl_cons, List.foldl_nil, Act.put, List.setIfInBounds_toArray, List.set_cons_zero, List.set_cons_succ, List.getD_cons_zero, List.getD_cons_succ]
        · refine ⟨_, rfl, ?_⟩
          have he3 : Ext x2 (x2.alloc (.cells #[.slice none 0 0, .slice none 0 0, .slice none 0 0] 40)) := (Ext.refl _).alloc _
          have E3 := E2.trans he3
          have F8 := Lib.hid (⟨E2.size, Blk.new x2 40 #[.slice none 0 0, .slice none 0 0, .slice none 0 0]⟩ : w2.heap.size ≤ (x2).heap.size ∧ Blk (x2.alloc (.cells #[.slice none 0 0, .slice none 0 0, .slice none 0 0] 40)) (x2).heap.size 40 #[.slice none 0 0, .slice none 0 0, .slice none 0 0])
          go_wp2
          generalize x2.alloc (.cells #[.slice none 0 0, .slice none 0 0, .slice none 0 0] 40) = x3 at *
          have F2 := Lib.hid (F2.out.ext (EHd_ok _) he3)
          have F5 := Lib.hid (F5.out.ext (EIt_ok _) he3)
          (try refine ⟨E3, ?_⟩)
          refine br_one 6 (by kernel_rfl) (by rfl) ?_
          have he4 : Ext x3 (x3.alloc (.cells #[] 49)) := (Ext.refl _).alloc _
          have E4 := E3.trans he4
          have F6 := Lib.hid (⟨E3.size, Blk.new x3 49 #[]⟩ : w2.heap.size ≤ (x3).heap.size ∧ Blk (x3.alloc (.cells #[] 49)) (x3).heap.size 49 #[])
          go_wp2
          generalize x3.alloc (.cells #[] 49) = x4 at *
          have F2 := Lib.hid (F2.out.ext (EHd_ok _) he4)
          have F5 := Lib.hid (F5.out.ext (EIt_ok _) he4)
          have F8 := Lib.hid (And.intro F8.out.1 (F8.out.2.ext he4))
          (try refine ⟨E4, ?_⟩)
          refine br_one 7 (by kernel_rfl) (by rfl) ?_
          have E5 := E4
          go_wp2
          (try refine ⟨E5, ?_⟩)
          refine br_one 9 (by kernel_rfl) (by rfl) ?_
          have fz0 := F8.out.2.frozen 0; have fz1 := F8.out.2.frozen 1; have fz2 := F8.out.2.frozen 2
          have cz0 := F8.out.2.cell 0; have cz1 := F8.out.2.cell 1; have cz2 := F8.out.2.cell 2
          simp at cz0 cz1 cz2
          obtain ⟨p1, p2, p3, -⟩ := put_three (a := .slice A7 s.length c7) (b := .slice A10 t.length c10) (c := (.slice (some ⟨x3.heap.size, 0, none⟩) 0 0)) F8.out.2
          have P3 := p3 w2 E5 F8.out.1
          go_wp2
          (try refine ⟨P3, ?_⟩)
          refine br_nil (by kernel_rfl) ?_
          refine NoPanic.normal ⟨rfl, (fun e => [undef, undef, undef, .pointer (some ⟨x2.heap.size, 0, none⟩), undef, .pointer (some ⟨w.heap.size, 0, none⟩), .slice A s.length c, .slice A7 s.length c7, .pointer (some ⟨w.heap.size, 1, none⟩), .slice A2 t.length c2, .slice A10 t.length c10, (.slice (some ⟨x3.heap.size, 0, none⟩) 0 0), .agg #[.slice A7 s.length c7, .slice A10 t.length c10, (.slice (some ⟨x3.heap.size, 0, none⟩) 0 0)]].getD e undef), A7, c7, A10, c10, x2.heap.size, x3.heap.size, ?_, rfl, P3, F8.out.1, p1, F2.out.keepT p2 (by decide) fun _ _ _ gg => gg.keepT p2 (by decide), F5.out.keepT p2 (by decide) fun _ _ _ gg => gg.keepT p2 (by decide), sn_lit w2.heap.size _ F6.out.1 (p2 _ _ _ (by decide) F6.out.2)⟩
          simp only [putAll, List.foldl_cons, List.foldl_nil, Act.put, List.setIfInBounds_toArray, List.set_cons_zero, List.set_cons_succ, List.getD_cons_zero, List.getD_cons_succ]
      · refine ⟨_, rfl, ?_⟩
        have he2 : Ext x1 (x1.alloc (.cells #[] 49)) := (Ext.refl _).alloc _
        have E2 := E1.trans he2
        have F6 := Lib.hid (⟨E1.size, Blk.new x1 49 #[]⟩ : w2.heap.size ≤ (x1).heap.size ∧ Blk (x1.alloc (.cells #[] 49)) (x1).heap.size 49 #[])
        go_wp2
        generalize x1.alloc (.cells #[] 49) = x2 at *
        have F2 := Lib.hid (F2.out.ext (EHd_ok _) he2)
        (try refine ⟨E2, ?_⟩)
        refine br_step [5, 8] (by kernel_rfl) (by simp) ?_
        intro i hi
        simp only [List.mem_cons, List.mem_nil_iff, or_false] at hi
        rcases hi with rfl | rfl
        · refine ⟨_, rfl, ?_⟩
          go_wp2_with (go_at_call 168; refine (l5All_c _ (HT.out.ext (e0.trans E2))).mono ?_; rintro e x3 ⟨y5, rfl, hO, he3⟩)
          obtain ⟨A10, c10, rfl⟩ := hO.form
          have E3 := E2.trans he3
          have F5 := Lib.hid (hO.weak E2.size fun _ _ _ gg => gg.keep E2.size (fun _ _ _ => rfl))
          clear hO
          have F2 := Lib.hid (F2.out.ext (EHd_ok _) he3)
          have F6 := Lib.hid (And.intro F6.out.1 (F6.out.2.ext he3))
          (try refine ⟨E3, ?_⟩)
          refine br_step [7, 8] (by kernel_rfl) (by simp) ?_
          intro i hi
          simp only [List.mem_cons, List.mem_nil_iff, or_false] at hi
          rcases hi with rfl | rfl
          · refine ⟨_, rfl, ?_⟩
            have E4 := E3
            go_wp2
            (try refine ⟨E4, ?_⟩)
            refine br_one 8 (by kernel_rfl) (by rfl) ?_
            have he5 : Ext x3 (x3.alloc (.cells #[.slice none 0 0, .slice none 0 0, .slice none 0 0] 40)) := (Ext.refl _).alloc _
            have E5 := E4.trans he5
            have F8 := Lib.hid (⟨E4.size, Blk.new x3 40 #[.slice none 0 0, .slice none 0 0, .slice none 0 0]⟩ : w2.heap.size ≤ (x3).heap.size ∧ Blk (x3.alloc (.cells #[.slice none 0 0, .slice none 0 0, .slice none 0 0] 40)) (x3).heap.size 40 #[.slice none 0 0, .slice none 0 0, .slice none 0 0])
            go_wp2
            generalize x3.alloc (.cells #[.slice none 0 0, .slice none 0 0, .slice none 0 0] 40) = x5 at *
            have F2 := Lib.hid (F2.out.ext (EHd_ok _) he5)
            have F6 := Lib.hid (And.intro F6.out.1 (F6.out.2.ext he5))
            have F5 := Lib.hid (F5.out.ext (EIt_ok _) he5)
            (try refine ⟨E5, ?_⟩)
            refine br_one 9 (by kernel_rfl) (by rfl) ?_
            have fz0 := F8.out.2.frozen 0; have fz1 := F8.out.2.frozen 1; have fz2 := F8.out.2.frozen 2
            have cz0 := F8.out.2.cell 0; have cz1 := F8.out.2.cell 1; have cz2 := F8.out.2.cell 2
            simp at cz0 cz1 cz2
            obtain ⟨p1, p2, p3, -⟩ := put_three (a := .slice A7 s.length c7) (b := .slice A10 t.length c10) (c := (.slice (some ⟨x1.heap.size, 0, none⟩) 0 0)) F8.out.2
            have P3 := p3 w2 E5 F8.out.1
            go_wp2
            (try refine ⟨P3, ?_⟩)
            refine br_nil (by kernel_rfl) ?_
            refine NoPanic.normal ⟨rfl, (fun e => [undef, undef, undef, .pointer (some ⟨x3.heap.size, 0, none⟩), undef, .pointer (some ⟨w.heap.size, 0, none⟩), .slice A s.length c, .slice A7 s.length c7, .pointer (some ⟨w.heap.size, 1, none⟩), .slice A2 t.length c2, .slice A10 t.length c10, (.slice (some ⟨x1.heap.size, 0, none⟩) 0 0), .agg #[.slice A7 s.length c7, .slice A10 t.length c10, (.slice (some ⟨x1.heap.size, 0, none⟩) 0 0)]].getD e undef), A7, c7, A10, c10, x3.heap.size, x1.heap.size, ?_, rfl, P3, F8.out.1, p1, F2.out.keepT p2 (by decide) fun _ _ _ gg => gg.keepT p2 (by decide), F5.out.keepT p2 (by decide) fun _ _ _ gg => gg.keepT p2 (by decide), sn_lit w2.heap.size _ F6.out.1 (p2 _ _ _ (by decide) F6.out.2)⟩
            simp only [putAll, List.foldl_cons, List.foldl_nil, Act.put, List.setIfInBounds_toArray, List.set_cons_zero, List.set_cons_succ, List.getD_cons_zero, List.getD_cons_succ]
          · refine ⟨_, rfl, ?_⟩
            have he4 : Ext x3 (x3.alloc (.cells #[.slice none 0 0, .slice none 0 0, .slice none 0 0] 40)) := (Ext.refl _).alloc _
            have E4 := E3.trans he4
            have F8 := Lib.hid (⟨E3.size, Blk.new x3 40 #[.slice none 0 0, .slice none 0 0, .slice none 0 0]⟩ : w2.heap.size ≤ (x3).heap.size ∧ Blk (x3.alloc (.cells #[.slice none 0 0, .slice none 0 0, .slice none 0 0] 40)) (x3).heap.size 40 #[.slice none 0 0, .slice none 0 0, .slice none 0 0])
            go_wp2
            generalize x3.alloc (.cells #[.slice none 0 0, .slice none 0 0, .slice none 0 0] 40) = x4 at *
            have F2 := Lib.hid (F2.out.ext (EHd_ok _) he4)
            have F6 := Lib.hid (And.intro F6.out.1 (F6.out.2.ext he4))
            have F5 := Lib.hid (F5.out.ext (EIt_ok _) he4)
            (try refine ⟨E4, ?_⟩)
            refine br_one 7 (by kernel_rfl) (by rfl) ?_
            have E5 := E4
            go_wp2
            (try refine ⟨E5, ?_⟩)
            refine br_one 9 (by kernel_rfl) (by rfl) ?_
            have fz0 := F8.out.2.frozen 0; have fz1 := F8.out.2.frozen 1; have fz2 := F8.out.2.frozen 2
            have cz0 := F8.out.2.cell 0; have cz1 := F8.out.2.cell 1; have cz2 := F8.out.2.cell 2
            simp at cz0 cz1 cz2
            obtain ⟨p1, p2, p3, -⟩ := put_three (a := .slice A7 s.length c7) (b := .slice A10 t.length c10) (c := (.slice (some ⟨x1.heap.size, 0, none⟩) 0 0)) F8.out.2
            have P3 := p3 w2 E5 F8.out.1
            go_wp2
            (try refine ⟨P3, ?_⟩)
            refine br_nil (by kernel_rfl) ?_
            refine NoPanic.normal ⟨rfl, (fun e => [undef, undef, undef, .pointer (some ⟨x3.heap.size, 0, none⟩), undef, .pointer (some ⟨w.heap.size, 0, none⟩), .slice A s.length c, .slice A7 s.length c7, .pointer (some ⟨w.heap.size, 1, none⟩), .slice A2 t.length c2, .slice A10 t.length c10, (.slice (some ⟨x1.heap.size, 0, none⟩) 0 0), .agg #[.slice A7 s.length c7, .slice A10 t.length c10, (.slice (some ⟨x1.heap.size, 0, none⟩) 0 0)]].getD e undef), A7, c7, A10, c10, x3.heap.size, x1.heap.size, ?_, rfl, P3, F8.out.1, p1, F2.out.keepT p2 (by decide) fun _ _ _ gg => gg.keepT p2 (by decide), F5.out.keepT p2 (by decide) fun _ _ _ gg => gg.keepT p2 (by decide), sn_lit w2.heap.size _ F6.out.1 (p2 _ _ _ (by decide) F6.out.2)⟩
            simp only [putAll, List.foldl_cons, List.foldl_nil, Act.put, List.setIfInBounds_toArray, List.set_cons_zero, List.set_cons_succ, List.getD_cons_zero, List.getD_cons_succ]
        · refine ⟨_, rfl, ?_⟩
          have he3 : Ext x2 (x2.alloc (.cells #[.slice none 0 0, .slice none 0 0, .slice none 0 0] 40)) := (Ext.refl _).alloc _
          have E3 := E2.trans he3
          have F8 := Lib.hid (⟨E2.size, Blk.new x2 40 #[.slice none 0 0, .slice none 0 0, .slice none 0 0]⟩ : w2.heap.size ≤ (x2).heap.size ∧ Blk (x2.alloc (.cells #[.slice none 0 0, .slice none 0 0, .slice none 0 0] 40)) (x2).heap.size 40 #[.slice none 0 0, .slice none 0 0, .slice none 0 0])
          go_wp2
          generalize x2.alloc (.cells #[.slice none 0 0, .slice none 0 0, .slice none 0 0] 40) = x3 at *
          have F2 := Lib.hid (F2.out.ext (EHd_ok _) he3)
          have F6 := Lib.hid (And.intro F6.out.1 (F6.out.2.ext he3))
          (try refine ⟨E3, ?_⟩)
          refine br_one 5 (by kernel_rfl) (by rfl) ?_
          go_wp2_with (go_at_call 168; refine (l5All_c _ (HT.out.ext (e0.trans E3))).mono ?_; rintro e x4 ⟨y5, rfl, hO, he4⟩)
          obtain ⟨A10, c10, rfl⟩ := hO.form
          have E4 := E3.trans he4
          have F5 := Lib.hid (hO.weak E3.size fun _ _ _ gg => gg.keep E3.size (fun _ _ _ => rfl))
          clear hO
          have F2 := Lib.hid (F2.out.ext (EHd_ok _) he4)
          have F6 := Lib.hid (And.intro F6.out.1 (F6.out.2.ext he4))
          have F8 := Lib.hid (And.intro F8.out.1 (F8.out.2.ext he4))
          (try refine ⟨E4, ?_⟩)
          refine br_one 7 (by kernel_rfl) (by rfl) ?_
          have E5 := E4
          go_wp2
          (try refine ⟨E5, ?_⟩)
          refine br_one 9 (by kernel_rfl) (by rfl) ?_
          have fz0 := F8.out.2.frozen 0; have fz1 := F8.out.2.frozen 1; have fz2 := F8.out.2.frozen 2
          have cz0 := F8.out.2.cell 0; have cz1 := F8.out.2.cell 1; have cz2 := F8.out.2.cell 2
          simp at cz0 cz1 cz2
          obtain ⟨p1, p2, p3, -⟩ := put_three (a := .slice A7 s.length c7) (b := .slice A10 t.length c10) (c := (.slice (some ⟨x1.heap.size, 0, none⟩) 0 0)) F8.out.2
          have P3 := p3 w2 E5 F8.out.1
          go_wp2
          (try refine ⟨P3, ?_⟩)
          refine br_nil (by kernel_rfl) ?_
          refine NoPanic.normal ⟨rfl, (fun e => [undef, undef, undef, .pointer (some ⟨x2.heap.size, 0, none⟩), undef, .pointer (some ⟨w.heap.size, 0, none⟩), .slice A s.length c, .slice A7 s.length c7, .pointer (some ⟨w.heap.size, 1, none⟩), .slice A2 t.length c2, .slice A10 t.length c10, (.slice (some ⟨x1.heap.size, 0, none⟩) 0 0), .agg #[.slice A7 s.length c7, .slice A10 t.length c10, (.slice (some ⟨x1.heap.size, 0, none⟩) 0 0)]].getD e undef), A7, c7, A10, c10, x2.heap.size, x1.heap.size, ?_, rfl, P3, F8.out.1, p1, F2.out.keepT p2 (by decide) fun _ _ _ gg => gg.keepT p2 (by decide), F5.out.keepT p2 (by decide) fun _ _ _ gg => gg.keepT p2 (by decide), sn_lit w2.heap.size _ F6.out.1 (p2 _ _ _ (by decide) F6.out.2)⟩
          simp only [putAll, List.foldl_cons, List.foldl_nil, Act.put, List.setIfInBounds_toArray, List.set_cons_zero, List.set_cons_succ, List.getD_cons_zero, List.getD_cons_succ]
      · refine ⟨_, rfl, ?_⟩
        have he2 : Ext x1 (x1.alloc (.cells #[.slice none 0 0, .slice none 0 0, .slice none 0 0] 40)) := (Ext.refl _).alloc _
        have E2 := E1.trans he2
        have F8 := Lib.hid (⟨E1.size, Blk.new x1 40 #[.slice none 0 0, .slice none 0 0, .slice none 0 0]⟩ : w2.heap.size ≤ (x1).heap.size ∧ Blk (x1.alloc (.cells #[.slice none 0 0, .slice none 0 0, .slice none 0 0] 40)) (x1).heap.size 40 #[.slice none 0 0, .slice none 0 0, .slice none 0 0])
        go_wp2
        generalize x1.alloc (.cells #[.slice none 0 0, .slice none 0 0, .slice none 0 0] 40) = x2 at *
        have F2 := Lib.hid (F2.out.ext (EHd_ok _) he2)
        (try refine ⟨E2, ?_⟩)
        refine br_step [5, 6] (by kernel_rfl) (by simp) ?_
        intro i hi
        simp only [List.mem_cons, List.mem_nil_iff, or_false] at hi
        rcases hi with rfl | rfl
        · refine ⟨_, rfl, ?_⟩
          go_wp2_with (go_at_call 168; refine (l5All_c _ (HT.out.ext (e0.trans E2))).mono ?_; rintro e x3 ⟨y5, rfl, hO, he3⟩)
          obtain ⟨A10, c10, rfl⟩ := hO.form
          have E3 := E2.trans he3
          have F5 := Lib.hid (hO.weak E2.size fun _ _ _ gg => gg.keep E2.size (fun _ _ _ => rfl))
          clear hO
          have F2 := Lib.hid (F2.out.ext (EHd_ok _) he3)
          have F8 := Lib.hid (And.intro F8.out.1 (F8.out.2.ext he3))
          (try refine ⟨E3, ?_⟩)
          refine br_one 6 (by kernel_rfl) (by rfl) ?_
          have he4 : Ext x3 (x3.alloc (.cells #[] 49)) := (Ext.refl _).alloc _
          have E4 := E3.trans he4
          have F6 := Lib.hid (⟨E3.size, Blk.new x3 49 #[]⟩ : w2.heap.size ≤ (x3).heap.size ∧ Blk (x3.alloc (.cells #[] 49)) (x3).heap.size 49 #[])
          go_wp2
          generalize x3.alloc (.cells #[] 49) = x4 at *
          have F2 := Lib.hid (F2.out.ext (EHd_ok _) he4)
          have F8 := Lib.hid (And.intro F8.out.1 (F8.out.2.ext he4))
          have F5 := Lib.hid (F5.out.ext (EIt_ok _) he4)
          (try refine ⟨E4, ?_⟩)
          refine br_one 7 (by kernel_rfl) (by rfl) ?_
          have E5 := E4
          go_wp2
          (try refine ⟨E5, ?_⟩)
          refine br_one 9 (by kernel_rfl) (by rfl) ?_
          have fz0 := F8.out.2.frozen 0; have fz1 := F8.out.2.frozen 1; have fz2 := F8.out.2.frozen 2
          have cz0 := F8.out.2.cell 0; have cz1 := F8.out.2.cell 1; have cz2 := F8.out.2.cell 2
          simp at cz0 cz1 cz2
          obtain ⟨p1, p2, p3, -⟩ := put_three (a := .slice A7 s.length c7) (b := .slice A10 t.length c10) (c := (.slice (some ⟨x3.heap.size, 0, none⟩) 0 0)) F8.out.2
          have P3 := p3 w2 E5 F8.out.1
          go_wp2
          (try refine ⟨P3, ?_⟩)
          refine br_nil (by kernel_rfl) ?_
          refine NoPanic.normal ⟨rfl, (fun e => [undef, undef, undef, .pointer (some ⟨x1.heap.size, 0, none⟩), undef, .pointer (some ⟨w.heap.size, 0, none⟩), .slice A s.length c, .slice A7 s.length c7, .pointer (some ⟨w.heap.size, 1, none⟩), .slice A2 t.length c2, .slice A10 t.length c10, (.slice (some ⟨x3.heap.size, 0, none⟩) 0 0), .agg #[.slice A7 s.length c7, .slice A10 t.length c10, (.slice (some ⟨x3.heap.size, 0, none⟩) 0 0)]].getD e undef), A7, c7, A10, c10, x1.heap.size, x3.heap.size, ?_, rfl, P3, F8.out.1, p1, F2.out.keepT p2 (by decide) fun _ _ _ gg => gg.keepT p2 (by decide), F5.out.keepT p2 (by decide) fun _ _ _ gg => gg.keepT p2 (by decide), sn_lit w2.heap.size _ F6.out.1 (p2 _ _ _ (by decide) F6.out.2)⟩
          simp only [putAll, List.foldl_cons, List.foldl_nil, Act.put, List.setIfInBounds_toArray, List.set_cons_zero, List.set_cons_succ, List.getD_cons_zero, List.getD_cons_succ]
        · refine ⟨_, rfl, ?_⟩
          have he3 : Ext x2 (x2.alloc (.cells #[] 49)) := (Ext.refl _).alloc _
          have E3 := E2.trans he3
          have F6 := Lib.hid (⟨E2.size, Blk.new x2 49 #[]⟩ : w2.heap.size ≤ (x2).heap.size ∧ Blk (x2.alloc (.cells #[] 49)) (x2).heap.size 49 #[])
          go_wp2
          generalize x2.alloc (.cells #[] 49) = x3 at *
          have F2 := Lib.hid (F2.out.ext (EHd_ok _) he3)
          have F8 := Lib.hid (And.intro F8.out.1 (F8.out.2.ext he3))
          (try refine ⟨E3, ?_⟩)
          refine br_one 5 (by kernel_rfl) (by rfl) ?_
          go_wp2_with (go_at_call 168; refine (l5All_c _ (HT.out.ext (e0.trans E3))).mono ?_; rintro e x4 ⟨y5, rfl, hO, he4⟩)
          obtain ⟨A10, c10, rfl⟩ := hO.form
          have E4 := E3.trans he4
          have F5 := Lib.hid (hO.weak E3.size fun _ _ _ gg => gg.keep E3.size (fun _ _ _ => rfl))
          clear hO
          have F2 := Lib.hid (F2.out.ext (EHd_ok _) he4)
          have F8 := Lib.hid (And.intro F8.out.1 (F8.out.2.ext he4))
          have F6 := Lib.hid (And.intro F6.out.1 (F6.out.2.ext he4))
          (try refine ⟨E4, ?_⟩)
          refine br_one 7 (by kernel_rfl) (by rfl) ?_
          have E5 := E4
          go_wp2
          (try refine ⟨E5, ?_⟩)
          refine br_one 9 (by kernel_rfl) (by rfl) ?_
          have fz0 := F8.out.2.frozen 0; have fz1 := F8.out.2.frozen 1; have fz2 := F8.out.2.frozen 2
          have cz0 := F8.out.2.cell 0; have cz1 := F8.out.2.cell 1; have cz2 := F8.out.2.cell 2
          simp at cz0 cz1 cz2
          obtain ⟨p1, p2, p3, -⟩ := put_three (a := .slice A7 s.length c7) (b := .slice A10 t.length c10) (c := (.slice (some ⟨x2.heap.size, 0, none⟩) 0 0)) F8.out.2
          have P3 := p3 w2 E5 F8.out.1
          go_wp2
          (try refine ⟨P3, ?_⟩)
          refine br_nil (by kernel_rfl) ?_
          refine NoPanic.normal ⟨rfl, (fun e => [undef, undef, undef, .pointer (some ⟨x1.heap.size, 0, none⟩), undef, .pointer (some ⟨w.heap.size, 0, none⟩), .slice A s.length c, .slice A7 s.length c7, .pointer (some ⟨w.heap.size, 1, none⟩), .slice A2 t.length c2, .slice A10 t.length c10, (.slice (some ⟨x2.heap.size, 0, none⟩) 0 0), .agg #[.slice A7 s.length c7, .slice A10 t.length c10, (.slice (some ⟨x2.heap.size, 0, none⟩) 0 0)]].getD e undef), A7, c7, A10, c10, x1.heap.size, x2.heap.size, ?_, rfl, P3, F8.out.1, p1, F2.out.keepT p2 (by decide) fun _ _ _ gg => gg.keepT p2 (by decide), F5.out.keepT p2 (by decide) fun _ _ _ gg => gg.keepT p2 (by decide), sn_lit w2.heap.size _ F6.out.1 (p2 _ _ _ (by decide) F6.out.2)⟩
          simp only [putAll, List.foldl_cons, List.foldl_nil, Act.put, List.setIfInBounds_toArray, List.set_cons_zero, List.set_cons_succ, List.getD_cons_zero, List.getD_cons_succ]
    · refine ⟨_, rfl, ?_⟩
      have he1 : Ext x0 (x0.alloc (.cells #[] 49)) := (Ext.refl _).alloc _
      have E1 := E0.trans he1
      have F6 := Lib.hid (⟨E0.size, Blk.new x0 49 #[]⟩ : w2.heap.size ≤ (x0).heap.size ∧ Blk (x0.alloc (.cells #[] 49)) (x0).heap.size 49 #[])
      go_wp2
      generalize x0.alloc (.cells #[] 49) = x1 at *
      (try refine ⟨E1, ?_⟩)
      refine br_step [2, 8] (by kernel_rfl) (by simp) ?_
      intro i hi
      simp only [List.mem_cons, List.mem_nil_iff, or_false] at hi
      rcases hi with rfl | rfl
      · refine ⟨_, rfl, ?_⟩
        go_wp2_with (go_at_call 56; refine (l3Copy_c _ (HS.out.ext (e0.trans E1))).mono ?_; rintro e x2 ⟨y2, rfl, hO, he2⟩)
        obtain ⟨A7, c7, rfl⟩ := hO.form
        have E2 := E1.trans he2
        have F2 := Lib.hid (hO.weak E1.size fun _ _ _ gg => gg.keep E1.size (fun _ _ _ => rfl))
        clear hO
        have F6 := Lib.hid (And.intro F6.out.1 (F6.out.2.ext he2))
        (try refine ⟨E2, ?_⟩)
        refine br_step [5, 8] (by kernel_rfl) (by simp) ?_
        intro i hi
        simp only [List.mem_cons, List.mem_nil_iff, or_false] at hi
        rcases hi with rfl | rfl
        · refine ⟨_, rfl, ?_⟩
          go_wp2_with (go_at_call 168; refine (l5All_c _ (HT.out.ext (e0.trans E2))).mono ?_; rintro e x3 ⟨y5, rfl, hO, he3⟩)
          obtain ⟨A10, c10, rfl⟩ := hO.form
          have E3 := E2.trans he3
          have F5 := Lib.hid (hO.weak E2.size fun _ _ _ gg => gg.keep E2.size (fun _ _ _ => rfl))
          clear hO
          have F6 := Lib.hid (And.intro F6.out.1 (F6.out.2.ext he3))
          have F2 := Lib.hid (F2.out.ext (EHd_ok _) he3)
          (try refine ⟨E3, ?_⟩)
          refine br_step [7, 8] (by kernel_rfl) (by simp) ?_
          intro i hi
          simp only [List.mem_cons, List.mem_nil_iff, or_false] at hi
          rcases hi with rfl | rfl
          · refine ⟨_, rfl, ?_⟩
            have E4 := E3
            go_wp2
            (try refine ⟨E4, ?_⟩)
            refine br_one 8 (by kernel_rfl) (by rfl) ?_
            have he5 : Ext x3 (x3.alloc (.cells #[.slice none 0 0, .slice none 0 0, .slice none 0 0] 40)) := (Ext.refl _).alloc _
            have E5 := E4.trans he5
            have F8 := Lib.hid (⟨E4.size, Blk.new x3 40 #[.slice none 0 0, .slice none 0 0, .slice none 0 0]⟩ : w2.heap.size ≤ (x3).heap.size ∧ Blk (x3.alloc (.cells #[.slice none 0 0, .slice none 0 0, .slice none 0 0] 40)) (x3).heap.size 40 #[.slice none 0 0, .slice none 0 0, .slice none 0 0])
            go_wp2
            generalize x3.alloc (.cells #[.slice none 0 0, .slice none 0 0, .slice none 0 0] 40) = x5 at *
            have F6 := Lib.hid (And.intro F6.out.1 (F6.out.2.ext he5))
            have F2 := Lib.hid (F2.out.ext (EHd_ok _) he5)
            have F5 := Lib.hid (F5.out.ext (EIt_ok _) he5)
            (try refine ⟨E5, ?_⟩)
            refine br_one 9 (by kernel_rfl) (by rfl) ?_
            have fz0 := F8.out.2.frozen 0; have fz1 := F8.out.2.frozen 1; have fz2 := F8.out.2.frozen 2
            have cz0 := F8.out.2.cell 0; have cz1 := F8.out.2.cell 1; have cz2 := F8.out.2.cell 2
            simp at cz0 cz1 cz2
            obtain ⟨p1, p2, p3, -⟩ := put_three (a := .slice A7 s.length c7) (b := .slice A10 t.length c10) (c := (.slice (some ⟨x0.heap.size, 0, none⟩) 0 0)) F8.out.2
            have P3 := p3 w2 E5 F8.out.1
            go_wp2
            (try refine ⟨P3, ?_⟩)
            refine br_nil (by kernel_rfl) ?_
            refine NoPanic.normal ⟨rfl, (fun e => [undef, undef, undef, .pointer (some ⟨x3.heap.size, 0, none⟩), undef, .pointer (some ⟨w.heap.size, 0, none⟩), .slice A s.length c, .slice A7 s.length c7, .pointer (some ⟨w.heap.size, 1, none⟩), .slice A2 t.length c2, .slice A10 t.length c10, (.slice (some ⟨x0.heap.size, 0, none⟩) 0 0), .agg #[.slice A7 s.length c7, .slice A10 t.length c10, (.slice (some ⟨x0.heap.size, 0, none⟩) 0 0)]].getD e undef), A7, c7, A10, c10, x3.heap.size, x0.heap.size, ?_, rfl, P3, F8.out.1, p1, F2.out.keepT p2 (by decide) fun _ _ _ gg => gg.keepT p2 (by decide), F5.out.keepT p2 (by decide) fun _ _ _ gg => gg.keepT p2 (by decide), sn_lit w2.heap.size _ F6.out.1 (p2 _ _ _ (by decide) F6.out.2)⟩
            simp only [putAll, List.foldl_cons, List.foldl_nil, Act.put, List.setIfInBounds_toArray, List.set_cons_zero, List.set_cons_succ, List.getD_cons_zero, List.getD_cons_succ]
          · refine ⟨_, rfl, ?_⟩
            have he4 : Ext x3 (x3.alloc (.cells #[.slice none 0 0, .slice none 0 0, .slice none 0 0] 40)) := (Ext.refl _).alloc _
            have E4 := E3.trans he4
            have F8 := Lib.hid (⟨E3.size, Blk.new x3 40 #[.slice none 0 0, .slice none 0 0, .slice none 0 0]⟩ : w2.heap.size ≤ (x3).heap.size ∧ Blk (x3.alloc (.cells #[.slice none 0 0, .slice none 0 0, .slice none 0 0] 40)) (x3).heap.size 40 #[.slice none 0 0, .slice none 0 0, .slice none 0 0])
            go_wp2
            generalize x3.alloc (.cells #[.slice none 0 0, .slice none 0 0, .slice none 0 0] 40) = x4 at *
            have F6 := Lib.hid (And.intro F6.out.1 (F6.out.2.ext he4))
            have F2 := Lib.hid (F2.out.ext (EHd_ok _) he4)
            have F5 := Lib.hid (F5.out.ext (EIt_ok _) he4)
            (try refine ⟨E4, ?_⟩)
            refine br_one 7 (by kernel_rfl) (by rfl) ?_
            have E5 := E4
            go_wp2
            (try refine ⟨E5, ?_⟩)
            refine br_one 9 (by kernel_rfl) (by rfl) ?_
            have fz0 := F8.out.2.frozen 0; have fz1 := F8.out.2.frozen 1; have fz2 := F8.out.2.frozen 2
            have cz0 := F8.out.2.cell 0; have cz1 := F8.out.2.cell 1; have cz2 := F8.out.2.cell 2
            simp at cz0 cz1 cz2
            obtain ⟨p1, p2, p3, -⟩ := put_three (a := .slice A7 s.length c7) (b := .slice A10 t.length c10) (c := (.slice (some ⟨x0.heap.size, 0, none⟩) 0 0)) F8.out.2
            have P3 := p3 w2 E5 F8.out.1
            go_wp2
            (try refine ⟨P3, ?_⟩)
            refine br_nil (by kernel_rfl) ?_
            refine NoPanic.normal ⟨rfl, (fun e => [undef, undef, undef, .pointer (some ⟨x3.heap.size, 0, none⟩), undef, .pointer (some ⟨w.heap.size, 0, none⟩), .slice A s.length c, .slice A7 s.length c7, .pointer (some ⟨w.heap.size, 1, none⟩), .slice A2 t.length c2, .slice A10 t.length c10, (.slice (some ⟨x0.heap.size, 0, none⟩) 0 0), .agg #[.slice A7 s.length c7, .slice A10 t.length c10, (.slice (some ⟨x0.heap.size, 0, none⟩) 0 0)]].getD e undef), A7, c7, A10, c10, x3.heap.size, x0.heap.size, ?_, rfl, P3, F8.out.1, p1, F2.out.keepT p2 (by decide) fun _ _ _ gg => gg.keepT p2 (by decide), F5.out.keepT p2 (by decide) fun _ _ _ gg => gg.keepT p2 (by decide), sn_lit w2.heap.size _ F6.out.1 (p2 _ _ _ (by decide) F6.out.2)⟩
            simp only [putAll, List.foldl_cons, List.foldl_nil, Act.put, List.setIfInBounds_toArray, List.set_cons_zero, List.set_cons_succ, List.getD_cons_zero, List.getD_cons_succ]
        · refine ⟨_, rfl, ?_⟩
          have he3 : Ext x2 (x2.alloc (.cells #[.slice none 0 0, .slice none 0 0, .slice none 0 0] 40)) := (Ext.refl _).alloc _
          have E3 := E2.trans he3
          have F8 := Lib.hid (⟨E2.size, Blk.new x2 40 #[.slice none 0 0, .slice none 0 0, .slice none 0 0]⟩ : w2.heap.size ≤ (x2).heap.size ∧ Blk (x2.alloc (.cells #[.slice none 0 0, .slice none 0 0, .slice none 0 0] 40)) (x2).heap.size 40 #[.slice none 0 0, .slice none 0 0, .slice none 0 0])
          go_wp2
          generalize x2.alloc (.cells #[.slice none 0 0, .slice none 0 0, .slice none 0 0] 40) = x3 at *
          have F6 := Lib.hid (And.intro F6.out.1 (F6.out.2.ext he3))
          have F2 := Lib.hid (F2.out.ext (EHd_ok _) he3)
          (try refine ⟨E3, ?_⟩)
          refine br_one 5 (by kernel_rfl) (by rfl) ?_
          go_wp2_with (go_at_call 168; refine (l5All_c _ (HT.out.ext (e0.trans E3))).mono ?_; rintro e x4 ⟨y5, rfl, hO, he4⟩)
          obtain ⟨A10, c10, rfl⟩ := hO.form
          have E4 := E3.trans he4
          have F5 := Lib.hid (hO.weak E3.size fun _ _ _ gg => gg.keep E3.size (fun _ _ _ => rfl))
          clear hO
          have F6 := Lib.hid (And.intro F6.out.1 (F6.out.2.ext he4))
          have F2 := Lib.hid (F2.out.ext (EHd_ok _) he4)
          have F8 := Lib.hid (And.intro F8.out.1 (F8.out.2.ext he4))
          (try refine ⟨E4, ?_⟩)
          refine br_one 7 (by kernel_rfl) (by rfl) ?_
          have E5 := E4
          go_wp2
          (try refine ⟨E5, ?_⟩)
          refine br_one 9 (by kernel_rfl) (by rfl) ?_
          have fz0 := F8.out.2.frozen 0; have fz1 := F8.out.2.frozen 1; have fz2 := F8.out.2.frozen 2
          have cz0 := F8.out.2.cell 0; have cz1 := F8.out.2.cell 1; have cz2 := F8.out.2.cell 2
          simp at cz0 cz1 cz2
          obtain ⟨p1, p2, p3, -⟩ := put_three (a := .slice A7 s.length c7) (b := .slice A10 t.length c10) (c := (.slice (some ⟨x0.heap.size, 0, none⟩) 0 0)) F8.out.2
          have P3 := p3 w2 E5 F8.out.1
          go_wp2
          (try refine ⟨P3, ?_⟩)
          refine br_nil (by kernel_rfl) ?_
          refine NoPanic.normal ⟨rfl, (fun e => [undef, undef, undef, .pointer (some ⟨x2.heap.size, 0, none⟩), undef, .pointer (some ⟨w.heap.size, 0, none⟩), .slice A s.length c, .slice A7 s.length c7, .pointer (some ⟨w.heap.size, 1, none⟩), .slice A2 t.length c2, .slice A10 t.length c10, (.slice (some ⟨x0.heap.size, 0, none⟩) 0 0), .agg #[.slice A7 s.length c7, .slice A10 t.length c10, (.slice (some ⟨x0.heap.size, 0, none⟩) 0 0)]].getD e undef), A7, c7, A10, c10, x2.heap.size, x0.heap.size, ?_, rfl, P3, F8.out.1, p1, F2.out.keepT p2 (by decide) fun _ _ _ gg => gg.keepT p2 (by decide), F5.out.keepT p2 (by decide) fun _ _ _ gg => gg.keepT p2 (by decide), sn_lit w2.heap.size _ F6.out.1 (p2 _ _ _ (by decide) F6.out.2)⟩
          simp only [putAll, List.foldl_cons, List.foldl_nil, Act.put, List.setIfInBounds_toArray, List.set_cons_zero, List.set_cons_succ, List.getD_cons_zero, List.getD_cons_succ]
      · refine ⟨_, rfl, ?_⟩
        have he2 : Ext x1 (x1.alloc (.cells #[.slice none 0 0, .slice none 0 0, .slice none 0 0] 40)) := (Ext.refl _).alloc _
        have E2 := E1.trans he2
        have F8 := Lib.hid (⟨E1.size, Blk.new x1 40 #[.slice none 0 0, .slice none 0 0, .slice none 0 0]⟩ : w2.heap.size ≤ (x1).heap.size ∧ Blk (x1.alloc (.cells #[.slice none 0 0, .slice none 0 0, .slice none 0 0] 40)) (x1).heap.size 40 #[.slice none 0 0, .slice none 0 0, .slice none 0 0])
        go_wp2
        generalize x1.alloc (.cells #[.slice none 0 0, .slice none 0 0, .slice none 0 0] 40) = x2 at *
        have F6 := Lib.hid (And.intro F6.out.1 (F6.out.2.ext he2))
        (try refine ⟨E2, ?_⟩)
        refine br_one 2 (by kernel_rfl) (by rfl) ?_
        go_wp2_with (go_at_call 56; refine (l3Copy_c _ (HS.out.ext (e0.trans E2))).mono ?_; rintro e x3 ⟨y2, rfl, hO, he3⟩)
        obtain ⟨A7, c7, rfl⟩ := hO.form
        have E3 := E2.trans he3
        have F2 := Lib.hid (hO.weak E2.size fun _ _ _ gg => gg.keep E2.size (fun _ _ _ => rfl))
        clear hO
        have F6 := Lib.hid (And.intro F6.out.1 (F6.out.2.ext he3))
        have F8 := Lib.hid (And.intro F8.out.1 (F8.out.2.ext he3))
        (try refine ⟨E3, ?_⟩)
        refine br_one 5 (by kernel_rfl) (by rfl) ?_
        go_wp2_with (go_at_call 168; refine (l5All_c _ (HT.out.ext (e0.trans E3))).mono ?_; rintro e x4 ⟨y5, rfl, hO, he4⟩)
        obtain ⟨A10, c10, rfl⟩ := hO.form
        have E4 := E3.trans he4
        have F5 := Lib.hid (hO.weak E3.size fun _ _ _ gg => gg.keep E3.size (fun _ _ _ => rfl))
        clear hO
        have F6 := Lib.hid (And.intro F6.out.1 (F6.out.2.ext he4))
        have F8 := Lib.hid (And.intro F8.out.1 (F8.out.2.ext he4))
        have F2 := Lib.hid (F2.out.ext (EHd_ok _) he4)
        (try refine ⟨E4, ?_⟩)
        refine br_one 7 (by kernel_rfl) (by rfl) ?_
        have E5 := E4
        go_wp2
        (try refine ⟨E5, ?_⟩)
        refine br_one 9 (by kernel_rfl) (by rfl) ?_
        have fz0 := F8.out.2.frozen 0; have fz1 := F8.out.2.frozen 1; have fz2 := F8.out.2.frozen 2
        have cz0 := F8.out.2.cell 0; have cz1 := F8.out.2.cell 1; have cz2 := F8.out.2.cell 2
        simp at cz0 cz1 cz2
        obtain ⟨p1, p2, p3, -⟩ := put_three (a := .slice A7 s.length c7) (b := .slice A10 t.length c10) (c := (.slice (some ⟨x0.heap.size, 0, none⟩) 0 0)) F8.out.2
        have P3 := p3 w2 E5 F8.out.1
        go_wp2
        (try refine ⟨P3, ?_⟩)
        refine br_nil (by kernel_rfl) ?_
        refine NoPanic.normal ⟨rfl, (fun e => [undef, undef, undef, .pointer (some ⟨x1.heap.size, 0, none⟩), undef, .pointer (some ⟨w.heap.size, 0, none⟩), .slice A s.length c, .slice A7 s.length c7, .pointer (some ⟨w.heap.size, 1, none⟩), .slice A2 t.length c2, .slice A10 t.length c10, (.slice (some ⟨x0.heap.size, 0, none⟩) 0 0), .agg #[.slice A7 s.length c7, .slice A10 t.length c10, (.slice (some ⟨x0.heap.size, 0, none⟩) 0 0)]].getD e undef), A7, c7, A10, c10, x1.heap.size, x0.heap.size, ?_, rfl, P3, F8.out.1, p1, F2.out.keepT p2 (by decide) fun _ _ _ gg => gg.keepT p2 (by decide), F5.out.keepT p2 (by decide) fun _ _ _ gg => gg.keepT p2 (by decide), sn_lit w2.heap.size _ F6.out.1 (p2 _ _ _ (by decide) F6.out.2)⟩
        simp only [putAll, List.foldl_cons, List.foldl_nil, Act.put, List.setIfInBounds_toArray, List.set_cons_zero, List.set_cons_succ, List.getD_cons_zero, List.getD_cons_succ]
    · refine ⟨_, rfl, ?_⟩
      have he1 : Ext x0 (x0.alloc (.cells #[.slice none 0 0, .slice none 0 0, .slice none 0 0] 40)) := (Ext.refl _).alloc _
      have E1 := E0.trans he1
      have F8 := Lib.hid (⟨E0.size, Blk.new x0 40 #[.slice none 0 0, .slice none 0 0, .slice none 0 0]⟩ : w2.heap.size ≤ (x0).heap.size ∧ Blk (x0.alloc (.cells #[.slice none 0 0, .slice none 0 0, .slice none 0 0] 40)) (x0).heap.size 40 #[.slice none 0 0, .slice none 0 0, .slice none 0 0])
      go_wp2
      generalize x0.alloc (.cells #[.slice none 0 0, .slice none 0 0, .slice none 0 0] 40) = x1 at *
      (try refine ⟨E1, ?_⟩)
      refine br_step [2, 6] (by kernel_rfl) (by simp) ?_
      intro i hi
      simp only [List.mem_cons, List.mem_nil_iff, or_false] at hi
      rcases hi with rfl | rfl
      · refine ⟨_, rfl, ?_⟩
        go_wp2_with (go_at_call 56; refine (l3Copy_c _ (HS.out.ext (e0.trans E1))).mono ?_; rintro e x2 ⟨y2, rfl, hO, he2⟩)
        obtain ⟨A7, c7, rfl⟩ := hO.form
        have E2 := E1.trans he2
        have F2 := Lib.hid (hO.weak E1.size fun _ _ _ gg => gg.keep E1.size (fun _ _ _ => rfl))
        clear hO
        have F8 := Lib.hid (And.intro F8.out.1 (F8.out.2.ext he2))
        (try refine ⟨E2, ?_⟩)
        refine br_step [5, 6] (by kernel_rfl) (by simp) ?_
        intro i hi
        simp only [List.mem_cons, List.mem_nil_iff, or_false] at hi
        rcases hi with rfl | rfl
        · refine ⟨_, rfl, ?_⟩
          go_wp2_with (go_at_call 168; refine (l5All_c _ (HT.out.ext (e0.trans E2))).mono ?_; rintro e x3 ⟨y5, rfl, hO, he3⟩)
          obtain ⟨A10, c10, rfl⟩ := hO.form
          have E3 := E2.trans he3
          have F5 := Lib.hid (hO.weak E2.size fun _ _ _ gg => gg.keep E2.size (fun _ _ _ => rfl))
          clear hO
          have F8 := Lib.hid (And.intro F8.out.1 (F8.out.2.ext he3))
          have F2 := Lib.hid (F2.out.ext (EHd_ok _) he3)
          (try refine ⟨E3, ?_⟩)
          refine br_one 6 (by kernel_rfl) (by rfl) ?_
          have he4 : Ext x3 (x3.alloc (.cells #[] 49)) := (Ext.refl _).alloc _
          have E4 := E3.trans he4
          have F6 := Lib.hid (⟨E3.size, Blk.new x3 49 #[]⟩ : w2.heap.size ≤ (x3).heap.size ∧ Blk (x3.alloc (.cells #[] 49)) (x3).heap.size 49 #[])
          go_wp2
          generalize x3.alloc (.cells #[] 49) = x4 at *
          have F8 := Lib.hid (And.intro F8.out.1 (F8.out.2.ext he4))
          have F2 := Lib.hid (F2.out.ext (EHd_ok _) he4)
          have F5 := Lib.hid (F5.out.ext (EIt_ok _) he4)
          (try refine ⟨E4, ?_⟩)
          refine br_one 7 (by kernel_rfl) (by rfl) ?_
          have E5 := E4
          go_wp2
          (try refine ⟨E5, ?_⟩)
          refine br_one 9 (by kernel_rfl) (by rfl) ?_
          have fz0 := F8.out.2.frozen 0; have fz1 := F8.out.2.frozen 1; have fz2 := F8.out.2.frozen 2
          have cz0 := F8.out.2.cell 0; have cz1 := F8.out.2.cell 1; have cz2 := F8.out.2.cell 2
          simp at cz0 cz1 cz2
          obtain ⟨p1, p2, p3, -⟩ := put_three (a := .slice A7 s.length c7) (b := .slice A10 t.length c10) (c := (.slice (some ⟨x3.heap.size, 0, none⟩) 0 0)) F8.out.2
          have P3 := p3 w2 E5 F8.out.1
          go_wp2
          (try refine ⟨P3, ?_⟩)
          refine br_nil (by kernel_rfl) ?_
          refine NoPanic.normal ⟨rfl, (fun e => [undef, undef, undef, .pointer (some ⟨x0.heap.size, 0, none⟩), undef, .pointer (some ⟨w.heap.size, 0, none⟩), .slice A s.length c, .slice A7 s.length c7, .pointer (some ⟨w.heap.size, 1, none⟩), .slice A2 t.length c2, .slice A10 t.length c10, (.slice (some ⟨x3.heap.size, 0, none⟩) 0 0), .agg #[.slice A7 s.length c7, .slice A10 t.length c10, (.slice (some ⟨x3.heap.size, 0, none⟩) 0 0)]].getD e undef), A7, c7, A10, c10, x0.heap.size, x3.heap.size, ?_, rfl, P3, F8.out.1, p1, F2.out.keepT p2 (by decide) fun _ _ _ gg => gg.keepT p2 (by decide), F5.out.keepT p2 (by decide) fun _ _ _ gg => gg.keepT p2 (by decide), sn_lit w2.heap.size _ F6.out.1 (p2 _ _ _ (by decide) F6.out.2)⟩
          simp only [putAll, List.foldl_cons, List.foldl_nil, Act.put, List.setIfInBounds_toArray, List.set_cons_zero, List.set_cons_succ, List.getD_cons_zero, List.getD_cons_succ]
        · refine ⟨_, rfl, ?_⟩
          have he3 : Ext x2 (x2.alloc (.cells #[] 49)) := (Ext.refl _).alloc _
          have E3 := E2.trans he3
          have F6 := Lib.hid (⟨E2.size, Blk.new x2 49 #[]⟩ : w2.heap.size ≤ (x2).heap.size ∧ Blk (x2.alloc (.cells #[] 49)) (x2).heap.size 49 #[])
          go_wp2
          generalize x2.alloc (.cells #[] 49) = x3 at *
          have F8 := Lib.hid (And.intro F8.out.1 (F8.out.2.ext he3))
          have F2 := Lib.hid (F2.out.ext (EHd_ok _) he3)
          (try refine ⟨E3, ?_⟩)
          refine br_one 5 (by kernel_rfl) (by rfl) ?_
          go_wp2_with (go_at_call 168; refine (l5All_c _ (HT.out.ext (e0.trans E3))).mono ?_; rintro e x4 ⟨y5, rfl, hO, he4⟩)
          obtain ⟨A10, c10, rfl⟩ := hO.form
          have E4 := E3.trans he4
          have F5 := Lib.hid (hO.weak E3.size fun _ _ _ gg => gg.keep E3.size (fun _ _ _ => rfl))
          clear hO
          have F8 := Lib.hid (And.intro F8.out.1 (F8.out.2.ext he4))
          have F2 := Lib.hid (F2.out.ext (EHd_ok _) he4)
          have F6 := Lib.hid (And.intro F6.out.1 (F6.out.2.ext he4))
          (try refine ⟨E4, ?_⟩)
          refine br_one 7 (by kernel_rfl) (by rfl) ?_
          have E5 := E4
          go_wp2
          (try refine ⟨E5, ?_⟩)
          refine br_one 9 (by kernel_rfl) (by rfl) ?_
          have fz0 := F8.out.2.frozen 0; have fz1 := F8.out.2.frozen 1; have fz2 := F8.out.2.frozen 2
          have cz0 := F8.out.2.cell 0; have cz1 := F8.out.2.cell 1; have cz2 := F8.out.2.cell 2
          simp at cz0 cz1 cz2
          obtain ⟨p1, p2, p3, -⟩ := put_three (a := .slice A7 s.length c7) (b := .slice A10 t.length c10) (c := (.slice (some ⟨x2.heap.size, 0, none⟩) 0 0)) F8.out.2
          have P3 := p3 w2 E5 F8.out.1
          go_wp2
          (try refine ⟨P3, ?_⟩)
          refine br_nil (by kernel_rfl) ?_
          refine NoPanic.normal ⟨rfl, (fun e => [undef, undef, undef, .pointer (some ⟨x0.heap.size, 0, none⟩), undef, .pointer (some ⟨w.heap.size, 0, none⟩), .slice A s.length c, .slice A7 s.length c7, .pointer (some ⟨w.heap.size, 1, none⟩), .slice A2 t.length c2, .slice A10 t.length c10, (.slice (some ⟨x2.heap.size, 0, none⟩) 0 0), .agg #[.slice A7 s.length c7, .slice A10 t.length c10, (.slice (some ⟨x2.heap.size, 0, none⟩) 0 0)]].getD e undef), A7, c7, A10, c10, x0.heap.size, x2.heap.size, ?_, rfl, P3, F8.out.1, p1, F2.out.keepT p2 (by decide) fun _ _ _ gg => gg.keepT p2 (by decide), F5.out.keepT p2 (by decide) fun _ _ _ gg => gg.keepT p2 (by decide), sn_lit w2.heap.size _ F6.out.1 (p2 _ _ _ (by decide) F6.out.2)⟩
          simp only [putAll, List.foldl_cons, List.foldl_nil, Act.put, List.setIfInBounds_toArray, List.set_cons_zero, List.set_cons_succ, List.getD_cons_zero, List.getD_cons_succ]
      · refine ⟨_, rfl, ?_⟩
        have he2 : Ext x1 (x1.alloc (.cells #[] 49)) := (Ext.refl _).alloc _
        have E2 := E1.trans he2
        have F6 := Lib.hid (⟨E1.size, Blk.new x1 49 #[]⟩ : w2.heap.size ≤ (x1).heap.size ∧ Blk (x1.alloc (.cells #[] 49)) (x1).heap.size 49 #[])
        go_wp2
        generalize x1.alloc (.cells #[] 49) = x2 at *
        have F8 := Lib.hid (And.intro F8.out.1 (F8.out.2.ext he2))
        (try refine ⟨E2, ?_⟩)
        refine br_one 2 (by kernel_rfl) (by rfl) ?_
        go_wp2_with (go_at_call 56; refine (l3Copy_c _ (HS.out.ext (e0.trans E2))).mono ?_; rintro e x3 ⟨y2, rfl, hO, he3⟩)
        obtain ⟨A7, c7, rfl⟩ := hO.form
        have E3 := E2.trans he3
        have F2 := Lib.hid (hO.weak E2.size fun _ _ _ gg => gg.keep E2.size (fun _ _ _ => rfl))
        clear hO
        have F8 := Lib.hid (And.intro F8.out.1 (F8.out.2.ext he3))
        have F6 := Lib.hid (And.intro F6.out.1 (F6.out.2.ext he3))
        (try refine ⟨E3, ?_⟩)
        refine br_one 5 (by kernel_rfl) (by rfl) ?_
        go_wp2_with (go_at_call 168; refine (l5All_c _ (HT.out.ext (e0.trans E3))).mono ?_; rintro e x4 ⟨y5, rfl, hO, he4⟩)
        obtain ⟨A10, c10, rfl⟩ := hO.form
        have E4 := E3.trans he4
        have F5 := Lib.hid (hO.weak E3.size fun _ _ _ gg => gg.keep E3.size (fun _ _ _ => rfl))
        clear hO
        have F8 := Lib.hid (And.intro F8.out.1 (F8.out.2.ext he4))
        have F6 := Lib.hid (And.intro F6.out.1 (F6.out.2.ext he4))
        have F2 := Lib.hid (F2.out.ext (EHd_ok _) he4)
        (try refine ⟨E4, ?_⟩)
        refine br_one 7 (by kernel_rfl) (by rfl) ?_
        have E5 := E4
        go_wp2
        (try refine ⟨E5, ?_⟩)
        refine br_one 9 (by kernel_rfl) (by rfl) ?_
        have fz0 := F8.out.2.frozen 0; have fz1 := F8.out.2.frozen 1; have fz2 := F8.out.2.frozen 2
        have cz0 := F8.out.2.cell 0; have cz1 := F8.out.2.cell 1; have cz2 := F8.out.2.cell 2
        simp at cz0 cz1 cz2
        obtain ⟨p1, p2, p3, -⟩ := put_three (a := .slice A7 s.length c7) (b := .slice A10 t.length c10) (c := (.slice (some ⟨x1.heap.size, 0, none⟩) 0 0)) F8.out.2
        have P3 := p3 w2 E5 F8.out.1
        go_wp2
        (try refine ⟨P3, ?_⟩)
        refine br_nil (by kernel_rfl) ?_
        refine NoPanic.normal ⟨rfl, (fun e => [undef, undef, undef, .pointer (some ⟨x0.heap.size, 0, none⟩), undef, .pointer (some ⟨w.heap.size, 0, none⟩), .slice A s.length c, .slice A7 s.length c7, .pointer (some ⟨w.heap.size, 1, none⟩), .slice A2 t.length c2, .slice A10 t.length c10, (.slice (some ⟨x1.heap.size, 0, none⟩) 0 0), .agg #[.slice A7 s.length c7, .slice A10 t.length c10, (.slice (some ⟨x1.heap.size, 0, none⟩) 0 0)]].getD e undef), A7, c7, A10, c10, x0.heap.size, x1.heap.size, ?_, rfl, P3, F8.out.1, p1, F2.out.keepT p2 (by decide) fun _ _ _ gg => gg.keepT p2 (by decide), F5.out.keepT p2 (by decide) fun _ _ _ gg => gg.keepT p2 (by decide), sn_lit w2.heap.size _ F6.out.1 (p2 _ _ _ (by decide) F6.out.2)⟩
        simp only [putAll, List.foldl_cons, List.foldl_nil, Act.put, List.setIfInBounds_toArray, List.set_cons_zero, List.set_cons_succ, List.getD_cons_zero, List.getD_cons_succ]
  · rintro a6 w6 ⟨us, A7, c7, A10, c10, g, g11, rfl, h3, HP3, hg, HB, HS6, HT6, HN6⟩
    simp only [putAll, List.foldl]
    (try simp only [Act.put, List.setIfInBounds_toArray, List.set_cons_zero, List.set_cons_succ])
    rw [h3]
    have P1 := Lib.hid HB; have P3 := Lib.hid HP3; have PS := Lib.hid HS6; have PT := Lib.hid HT6; have PN := Lib.hid HN6
    clear HB HP3 HS6 HT6 HN6 h3
    have hex : ∃ n, l.length = n := ⟨_, rfl⟩
    obtain ⟨n, hn⟩ := hex
    rw [hn] at hl d2 ⊢
    have Hn := Lib.hid hn
    clear hn
    have hs2 := e0.size
    go_wp2
    go_loopw [4] (fun i wr => ∃ (k : Nat) (un' : Value), k ≤ n ∧ i = .int .i64 k ∧ Ext w2 wr ∧ Hid (Blk wr g 40 #[.slice A7 s.length c7, .slice A10 t.length c10, un']) ∧ OwnS w2.heap.size 45 3 (EHd w2.heap.size) wr (.slice A7 s.length c7) s ∧
        OwnS w2.heap.size 47 3 (EIt w2.heap.size) wr (.slice A10 t.length c10) t ∧ OwnS w2.heap.size 49 2 (ESn w2.heap.size) wr un' (l.take k)) (fun i _ => n - (RowKit.intOf i).toNat)
    case atStart => exact ⟨0, _, by omega, rfl, P3.out, P1, PS.out, PT.out, PN.out⟩
    case round =>
      obtain ⟨k, un', hk, rfl, he, hB, hS, hT, hN⟩ := hrel
      have HSr := Lib.hid hS; have HTr := Lib.hid hT; have HNr := Lib.hid hN
      have y2 := fun W (e : Ext wr W) => d2 W (he.trans e)
      obtain ⟨Au, cu, hAu⟩ := hN.form
      have hkl : (l.take k).length = k := by rw [List.length_take, Hn.out]; omega
      rw [hkl] at hAu
      subst hAu
      clear hS hT hN
      by_cases hlt : k < n
      · obtain ⟨x, hx⟩ := get_of_lt (l := l) (k := k) (by rw [Hn.out]; exact hlt)
        obtain ⟨b, o, u, rfl, -, -, hps, hu, hc0, hc1⟩ := Sns.at_ HA3.out hx
        have HU := Lib.hid hu
        obtain ⟨Ax, cx, rfl, -⟩ := hu
        have e02 := e0.trans he
        have a0 := fun W (e : Ext wr W) => hc0 W (e02.trans e)
        have a1 := fun W (e : Ext wr W) => hc1 W (e02.trans e)
        have g2 := fun W (e : Ext wr W) => hB.out.at_ (i := 2) (u := .slice Au k cu) rfl W e
        have Hx := Lib.hid (take_succ_get hx)
        have z2 := y2 _ (Ext.refl _)
        have hts := HU.out.len
        clear hc0 hc1 hx
        go_wp2
        refine wp_region_hold (fun W => Ext wr W) 17 [(0, true), (1, true), (2, true), (3, true), (4, true), (5, true), (6, true), (7, true), (8, true), (9, true), (10, true), (11, true), (12, true), (13, true), (14, false), (15, true), (16, false)] (by kernel_rfl) (by kernel_rfl) ?_ ?_
        · exact (Ext.refl wr).drew
        (repeat (first | (apply hw_read (by rfl) (by rfl); (· (intro W hW; (try dsimp only at hW); go_simp; (first | done | rfl | (rw [if_pos] <;> first | omega | rfl)))); (try simp only [Act.put, List.setIfInBounds_toArray, List.set_cons_zero, List.set_cons_succ])) | (refine hw_skip (by rfl) (by rfl) ?_; (try simp only [Act.put, List.setIfInBounds_toArray, List.set_cons_zero, List.set_cons_succ]))))
        refine hw_step (by rfl) ?_
        go_wp2_with (go_at_call 168; refine (l5All_c _ (HU.out.ext (e02.trans (Ext.refl wr).drew))).mono ?_; rintro e w7 ⟨v7, rfl, hT7, he7⟩)
        have e7 : Ext wr w7 := (Ext.refl wr).drew.trans he7
        (try refine ⟨e7, ?_⟩)
        obtain ⟨Aq, cq, rfl⟩ := hT7.form
        have HT7 : Hid (Its w2.heap.size w7 (.slice Aq x.tree.length cq) x.tree) := Lib.hid (Its.keep (hT7.sl (EIt_ok _) (Nat.le_refl _) hts) ((he.trans (Ext.refl wr).drew).size) (fun _ _ _ => rfl))
        have HB7 := Lib.hid (hB.out.ext e7)
        have HN7 := Lib.hid (HNr.out.ext (ESn_ok _) e7)
        have HS7 := Lib.hid (HSr.out.ext (EHd_ok _) e7)
        have HTt7 := Lib.hid (HTr.out.ext (EIt_ok _) e7)
        have E7 := he.trans e7
        clear hT7 he7
        (repeat (first | (apply hw_read (by rfl) (by rfl); (· (intro W hW; (try dsimp only at hW); go_simp; (first | done | rfl | (rw [if_pos] <;> first | omega | rfl)))); (try simp only [Act.put, List.setIfInBounds_toArray, List.set_cons_zero, List.set_cons_succ])) | (refine hw_skip (by rfl) (by rfl) ?_; (try simp only [Act.put, List.setIfInBounds_toArray, List.set_cons_zero, List.set_cons_succ]))))
        refine hw_step (by rfl) ?_
        go_wp2
        (try refine ⟨e7.alloc _, ?_⟩)
        clear a0 a1 g2 y2 z2
        (refine hw_nil ?_; (try simp only [List.drop_succ_cons, List.drop_zero]))
        go_wp2_with (at_builtin; go_must (refine wp_ap1 (w0 := w2) (by rfl) _ _ (by rfl) el_Sn (ESn_ok _) E7 _ (l.take k) [x] (by rfl) HN7.out 1 1 rfl #[.string x.name, .slice Aq x.tree.length cq] _ (by rfl) (by first | rfl | simp) rfl (one_cells rfl) (one_E ⟨rfl, hps, _, rfl, HT7.out⟩) ?_ ?_))
        · rw [hkl]; simp; unfold lim; omega
        · intro v8 w8 hO8 he8 hk8
          obtain ⟨A8, c8, hA8⟩ := hO8.form
          rw [List.length_append, hkl, List.length_singleton] at hA8
          subst hA8
          have HB8 := hk8 _ _ _ (by decide) (HB7.out)
          have hf := HB8.frozen 2
          have hc := HB8.cell 2
          simp at hc
          have k8 := KeepsT.set (i := 2) HB8 (.slice A8 (k + 1) c8) rfl
          have hb9 := HB8.set_ 2 (.slice A8 (k + 1) c8)
          have HB9 : Hid (Blk (w8.setCell ⟨g, 2, none⟩ (.slice A8 (k + 1) c8)) g 40 #[.slice A7 s.length c7, .slice A10 t.length c10, .slice A8 (k + 1) c8]) := Lib.hid (by simpa using hb9)
          have E9 : Ext w2 (w8.setCell ⟨g, 2, none⟩ (.slice A8 (k + 1) c8)) := he8.setCell (p := ⟨g, 2, none⟩) hg _
          have HO9 := Lib.hid (hO8.keepT k8 (by decide) fun _ _ _ gg => gg.keepT k8 (by decide) (by decide))
          have HS9 := Lib.hid ((HS7.out.keepT hk8 (by decide) fun _ _ _ gg => gg.keepT hk8 (by decide)).keepT k8 (by decide) fun _ _ _ gg => gg.keepT k8 (by decide))
          have HT9 := Lib.hid ((HTt7.out.keepT hk8 (by decide) fun _ _ _ gg => gg.keepT hk8 (by decide)).keepT k8 (by decide) fun _ _ _ gg => gg.keepT k8 (by decide))
          clear hO8 he8 hk8 k8 hb9
          go_wp2
          refine NoPanic.normal ?_
          (try dsimp only [Exit.then])
          go_wp2
          go_roundw
          case rel => exact ⟨k + 1, _, by omega, by go_num, E9, HB9, HS9.out, HT9.out, by rw [Hx.out]; exact HO9.out⟩
          case measure => simp [RowKit.intOf]; omega
      · have hks : k = n := by omega
        subst hks
        have hB' := hB.out
        have c0 := hB'.cell 0; have c1 := hB'.cell 1; have c2' := hB'.cell 2
        simp at c0 c1 c2'
        have hbr2 := hbr.out.ext he
        have q0 := hbr2.cell 0; have q1 := hbr2.cell 1; have q2 := hbr2.cell 2
        have f0 := hbr2.frozen 0; have f1 := hbr2.frozen 1; have f2 := hbr2.frozen 2
        simp at q0 q1 q2
        have hHN := HNr.out
        rw [List.take_of_length_le (by rw [Hn.out]; exact Nat.le_refl _)] at hHN
        have HN2 := Lib.hid hHN
        clear hB' hHN
        go_wp2
        obtain ⟨p1, p2, p3, -⟩ := put_three (a := .slice A7 s.length c7) (b := .slice A10 t.length c10) (c := .slice Au k cu) hbr2
        have z0 := p1.cell 0; have z1 := p1.cell 1; have z2 := p1.cell 2
        simp at z0 z1 z2
        refine bodyPost_ret (v := .agg #[.slice A7 s.length c7, .slice A10 t.length c10, .slice Au k cu]) (by simp [results, Tryz.results167, go_sem, z0, z1, z2]) rfl ⟨_, rfl, ⟨_, _, _, rfl, ?_, ?_, ?_⟩, p3 w (e0.trans he) (by omega)⟩
        · exact (HSr.out.keepT p2 (by decide) fun _ _ _ gg => gg.keepT p2 (by decide)).weak hs2 fun _ _ _ gg => gg.keep hs2 (fun _ _ _ => rfl)
        · exact (HTr.out.keepT p2 (by decide) fun _ _ _ gg => gg.keepT p2 (by decide)).weak hs2 fun _ _ _ gg => gg.keep hs2 (fun _ _ _ => rfl)
        · exact (HN2.out.keepT p2 (by decide) fun _ _ _ gg => gg.keepT p2 (by decide) (by decide)).weak hs2 fun _ _ _ gg => gg.keep hs2 (fun _ _ _ => rfl)
end Go.Sf
