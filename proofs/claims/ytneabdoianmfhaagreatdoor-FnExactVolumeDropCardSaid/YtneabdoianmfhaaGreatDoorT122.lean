/- The reference makes a directory of a volume. -/
import Derived.Test.YtneabdoianmfhaaGreatDoorT120
import Derived.Test.YtneabdoianmfhaaGreatDoorT121
import Derived.Test.YtneabdoianmfhaaGreatDoorP22
namespace Go.Sf
open Go Go.RowKit Go.Proofs
/-- two cells of a block are written -/
theorem put_two {w : World} {t : TypeId} {g : Nat} {a b c d : Value} (h : Blk w g t #[c, d]) :
    Blk ((w.setCell ⟨g, 0, none⟩ a).setCell ⟨g, 1, none⟩ b) g t #[a, b] ∧ KeepsT t w ((w.setCell ⟨g, 0, none⟩ a).setCell ⟨g, 1, none⟩ b) ∧
    (∀ w0, Ext w0 w → w0.heap.size ≤ g → Ext w0 ((w.setCell ⟨g, 0, none⟩ a).setCell ⟨g, 1, none⟩ b)) ∧ ∀ k, k ≠ g → ((w.setCell ⟨g, 0, none⟩ a).setCell ⟨g, 1, none⟩ b).heap[k]? = w.heap[k]? := by
  have h1 := h.set_ 0 a
  have h2 := h1.set_ 1 b
  refine ⟨by simpa using h2, (KeepsT.set (i := 0) h a rfl).trans (KeepsT.set (i := 1) h1 b rfl), fun w0 e hg => (e.setCell (p := ⟨g, 0, none⟩) hg a).setCell (p := ⟨g, 1, none⟩) hg b, fun k hk => ?_⟩
  rw [RowKit.Below.heap_setCell _ _ _ _ hk, RowKit.Below.heap_setCell _ _ _ _ hk]
theorem OwnS.weak {α : Type} {base base' : Nat} {t : TypeId} {sz : Nat} {E E' : World → Array Value → Nat → α → Prop} {w : World} {v : Value} {l : List α} (h : OwnS base t sz E w v l) (hb : base' ≤ base) (hE : ∀ cs p x, E w cs p x → E' w cs p x) : OwnS base' t sz E' w v l := by
  obtain ⟨xs, h1, h2⟩ := h.mono hb
  exact ⟨xs, h1, fun k x hx => hE _ _ _ (h2 k x hx)⟩
theorem OwnS.hd {B B' : Nat} {w w' : World} {v : Value} {l : List Hd} {t : TypeId} (h : OwnS B 84 3 (EHd B) w v l) (hb : B' ≤ B) (hk : KeepsT t w w') (h1 : 84 ≠ t) (h2 : 3 ≠ t) : OwnS B' 84 3 (EHd B') w' v l :=
  (h.weak hb fun _ _ _ g => g.keep hb (fun _ _ _ => rfl)).keepT hk h1 fun _ _ _ g => g.keepT hk h2
theorem OwnS.isHds {B : Nat} {w : World} {v : Value} {l : List Hd} (h : OwnS B 84 3 (EHd B) w v l) (hl : l.length ≤ lim) : Hds B w v l := h.sl (EHd_ok _) (Nat.le_refl _) hl
/-- a volume and whether there is one -/
def OptVol (B : Nat) (o : Option (List Hd × List It)) (r : Value) (w : World) : Prop :=
  ∃ us ut, r = .tuple #[.agg #[us, ut], .bool o.isSome] ∧ OwnS B 84 3 (EHd B) w us (o.elim [] (·.1)) ∧ Its B w ut (o.elim [] (·.2))
theorem OptVol.none_ {B : Nat} {w : World} {o : Option (List Hd × List It)} (h : o = none) : OptVol B o (.tuple #[.agg #[.slice none 0 0, .slice none 0 0], .bool false]) w := by
  subst h; exact ⟨_, _, rfl, ⟨[], ⟨by simp, .inl ⟨rfl, rfl⟩⟩, fun k x h => by simp at h⟩, SlOf.nil _ _ _ _ _⟩
/-- a volume with a directory more -/
noncomputable def volPut (s : List Hd) (t : List It) (x : It) : Option (List Hd × List It) := if volOk s t = true then (treePut t x).map fun t' => (s, t') else none
theorem itV_dir (B : Nat) (w : World) {p : ByteArray} (hp : p.size < lim) : ItV B w (.agg #[.string p, .bool true, .slice none 0 0]) (dirIt p) := ⟨_, rfl, hp, SlOf.nil _ _ _ _ _⟩
set_option maxRecDepth 4000 in
set_option maxHeartbeats 2000000 in
theorem specVolumeDir_c {B B' : Nat} {vs vt : Value} {s : List Hd} {t : List It} {p : ByteArray} (w : World) (hs : Hds B w vs s) (ht : Its B' w vt t) (hp : p.size < lim) :
    Calls Tryz.prog 39 #[.agg #[vs, vt], .string p] w (RetP (OptVol w.heap.size (volPut s t (dirIt p))) w) := by
  have HS := Lib.hid hs; have HT := Lib.hid ht
  obtain ⟨A, c, rfl, -⟩ := hs
  obtain ⟨A2, c2, rfl, -⟩ := ht
  have hbk := Lib.hid ((Blk.new w 66 #[.slice A s.length c, .slice A2 t.length c2]).alloc (.cells #[.slice none 0 0, .slice none 0 0] 66))
  have hbr : Hid (Blk ((w.alloc (.cells #[.slice A s.length c, .slice A2 t.length c2] 66)).alloc (.cells #[.slice none 0 0, .slice none 0 0] 66)) (w.heap.size + 1) 66 #[.slice none 0 0, .slice none 0 0]) := Lib.hid (by
    have := Blk.new (w.alloc (.cells #[.slice A s.length c, .slice A2 t.length c2] 66)) 66 #[.slice none 0 0, .slice none 0 0]
    simpa using this)
  have e0 : Ext w ((w.alloc (.cells #[.slice A s.length c, .slice A2 t.length c2] 66)).alloc (.cells #[.slice none 0 0, .slice none 0 0] 66)) := ((Ext.refl w).alloc _).alloc _
  have d0 := hbk.out.cell 0; have d1 := hbk.out.cell 1
  simp at d0 d1
  have C1 := specTreePut_c (x := dirIt p) _ (HT.out.ext e0) (itV_dir 0 _ hp)
  go_enter Tryz.func39, Tryz.ntmps39
  go_wp2_with fail
  refine C1.mono ?_
  rintro e w1 ⟨u1, rfl, ⟨vt', rfl, hI⟩, he1⟩
  have E1 := e0.trans he1
  have C2 := specVolumeValid_c w1 (HS.out.ext E1) (HT.out.ext E1)
  have b1 := hbk.out.ext he1; have b2 := hbr.out.ext he1
  have HI := Lib.hid hI
  clear d0 d1 C1 hI
  have d0 := b1.cell 0; have d1 := b1.cell 1
  simp at d0 d1
  have Hb1 := Lib.hid b1; have Hb2 := Lib.hid b2
  clear b1 b2
  cases hv : volOk s t with
  | false =>
    rw [hv] at C2
    have Hr : Hid (volPut s t (dirIt p) = none) := Lib.hid (by unfold volPut; rw [hv]; rfl)
    clear hv
    go_wp2_with (go_at_call 97; refine C2.mono ?_; rintro e w2 ⟨rfl, he2⟩; have b3 := Hb2.out.ext he2; have c0 := b3.cell 0; have c1 := b3.cell 1; have f0 := b3.frozen 0; have f1 := b3.frozen 1; simp at c0 c1)
    obtain ⟨p1, -, p3, -⟩ := put_two (a := .slice none 0 0) (b := .slice none 0 0) b3
    have z0 := p1.cell 0; have z1 := p1.cell 1
    simp at z0 z1
    exact bodyPost_ret (v := .tuple #[.agg #[.slice none 0 0, .slice none 0 0], .bool false]) (by simp [results, Tryz.results39, go_sem, z0, z1]) rfl ⟨_, rfl, OptVol.none_ Hr.out, p3 w (E1.trans he2) (by omega)⟩
  | true =>
    rw [hv] at C2
    cases ho : treePut t (dirIt p) with
    | none =>
      have Hr : Hid (volPut s t (dirIt p) = none) := Lib.hid (by unfold volPut; rw [hv, ho]; rfl)
      clear hv ho
      simp only [Option.isSome_none] at *
      go_wp2_with (go_at_call 97; refine C2.mono ?_; rintro e w2 ⟨rfl, he2⟩; have b3 := Hb2.out.ext he2; have c0 := b3.cell 0; have c1 := b3.cell 1; have f0 := b3.frozen 0; have f1 := b3.frozen 1; simp at c0 c1)
      obtain ⟨p1, -, p3, -⟩ := put_two (a := .slice none 0 0) (b := .slice none 0 0) b3
      have z0 := p1.cell 0; have z1 := p1.cell 1
      simp at z0 z1
      exact bodyPost_ret (v := .tuple #[.agg #[.slice none 0 0, .slice none 0 0], .bool false]) (by simp [results, Tryz.results39, go_sem, z0, z1]) rfl ⟨_, rfl, OptVol.none_ Hr.out, p3 w (E1.trans he2) (by omega)⟩
    | some t' =>
      rw [ho] at HI
      have Hr : Hid (volPut s t (dirIt p) = some (s, t')) := Lib.hid (by unfold volPut; rw [hv, ho]; rfl)
      clear hv ho
      simp only [Option.isSome_some, Option.getD_some] at *
      obtain ⟨A5, c5, e5, -⟩ := id HI.out
      subst e5
      have C3 := fun W (e : Ext w1 W) => l3Copy_c W (HS.out.ext (E1.trans e))
      go_wp2_with (first | (go_at_call 97; refine C2.mono ?_; rintro e w2 ⟨rfl, he2⟩; have b3 := Hb1.out.ext he2; have q0 := b3.cell 0; have q1 := b3.cell 1; simp at q0 q1) | (go_at_call 98; refine (C3 _ he2).mono ?_; rintro e w3 ⟨us, rfl, hO, he3⟩; obtain ⟨A6, c6, rfl⟩ := hO.form; have he4 := he2.trans he3; have b4 := Hb2.out.ext he4; have c0 := b4.cell 0; have c1 := b4.cell 1; have f0 := b4.frozen 0; have f1 := b4.frozen 1; simp at c0 c1))
      obtain ⟨p1, p2, p3, -⟩ := put_two (a := .slice A6 s.length c6) (b := .slice A5 t'.length c5) b4
      have z0 := p1.cell 0; have z1 := p1.cell 1
      simp at z0 z1
      have hw1 : w.heap.size ≤ w1.heap.size := E1.size
      have hw2 := (E1.trans he2).size
      refine bodyPost_ret (v := .tuple #[.agg #[.slice A6 s.length c6, .slice A5 t'.length c5], .bool true]) (by simp [results, Tryz.results39, go_sem, z0, z1]) rfl ⟨_, rfl, ?_, p3 w (E1.trans he4) (by omega)⟩
      rw [Hr.out]
      refine ⟨_, _, rfl, ?_, ?_⟩
      · exact hO.hd hw2 p2 (by decide) (by decide)
      · exact Its.keepT ((HI.out.ext he4).keep e0.size (fun _ _ _ => rfl)) p2 (by decide) (by decide)
end Go.Sf
