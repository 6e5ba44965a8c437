/- Laws of drawn volumes: what was dropped can not be read. -/
import Derived.Test.YtoljibhdakacjaaGreatDoorHB
import Derived.Test.YtoljibhdakacjaaGreatDoorHC
import Derived.Test.YtoljibhdakacjaaGreatDoorGS
namespace Go.Sf
open Go Go.RowKit Go.Proofs
set_option maxRecDepth 4000 in
set_option maxHeartbeats 1000000 in
theorem sameVolume_c {B1 B2 B3 B4 : Nat} {a1 a2 b1 b2 : Value} {s : List Hd} {t : List It} (w : World) (h1 : Hds B1 w a1 s) (h2 : Its B2 w a2 t) (h3 : Hds B3 w b1 s) (h4 : Its B4 w b2 t) :
    Calls Tryz.prog 35 #[.agg #[a1, a2], .agg #[b1, b2]] w (Ret (.bool true) w) := by
  have H1 := Lib.hid h1; have H2 := Lib.hid h2; have H3 := Lib.hid h3; have H4 := Lib.hid h4
  obtain ⟨A1, c1, rfl, -⟩ := h1
  obtain ⟨A2, c2, rfl, -⟩ := h2
  obtain ⟨A3, c3, rfl, -⟩ := h3
  obtain ⟨A4, c4, rfl, -⟩ := h4
  have e0 : Ext w ((w.alloc (.cells #[.slice A1 s.length c1, .slice A2 t.length c2] 61)).alloc (.cells #[.slice A3 s.length c3, .slice A4 t.length c4] 61)) := ((Ext.refl w).alloc _).alloc _
  have hbk := (Blk.new w 61 #[.slice A1 s.length c1, .slice A2 t.length c2]).alloc (.cells #[.slice A3 s.length c3, .slice A4 t.length c4] 61)
  have hbl := Blk.new (w.alloc (.cells #[.slice A1 s.length c1, .slice A2 t.length c2] 61)) 61 #[.slice A3 s.length c3, .slice A4 t.length c4]
  simp only [World.size_alloc] at hbl
  have d1 := fun W (e : Ext _ W) => hbk.at_ (i := 1) (u := .slice A2 t.length c2) rfl W e
  have k1 := fun W (e : Ext _ W) => hbl.at_ (i := 1) (u := .slice A4 t.length c4) rfl W e
  have Ch := laws_sameStore_c _ (H1.out.ext e0) (H3.out.ext e0)
  rw [show eqb s s = true from eqb_true.2 rfl] at Ch
  have Ci : ∀ W, Ext w W → Calls Tryz.prog 84 #[.slice A2 t.length c2, .slice A4 t.length c4] W (Ret (.bool true) W) := fun W e => by
    have := laws_sameTree_c W (H2.out.ext e) (H4.out.ext e)
    rwa [show eqb t t = true from eqb_true.2 rfl] at this
  clear hbk hbl
  go_enter Tryz.func35, Tryz.ntmps35
  go_wp2_with (first | (go_at_call 83; refine Ch.mono ?_; rintro e w1 ⟨rfl, he1⟩; have q1 := d1 w1 he1; have q2 := k1 w1 he1) | (go_at_call 84; refine (Ci _ (e0.trans he1)).mono ?_; rintro e w2 ⟨rfl, he2⟩))
  go_ret
  exact ⟨rfl, (e0.trans he1).trans he2⟩
end Go.Sf
