/- The phase, part 9: Add and Wait, walked for the starter, whoever else runs -/
import Derived.Test.YtphgnbjikgglmaaKA
import Derived.Conc.WgGenN3
import Derived.Conc.CompanyDraw
set_option linter.all false
/-! The phase, part 9: Add and Wait, walked for the starter, whoever else runs -/
namespace Go.Sf
open Go Go.Conc Go.Conc.Lib
open Go.ConcN (ShN WgLive PayAt Has)
open Go.RowKit Go.ConcR.Gen Go.ConcN.Gen
open Go.ConcR (KK WgAt stA smA rd wr mk Payload DC0)
variable [Payload] {L : WgLink}
/-- a step that does nothing to the world, and says at most a word on the group -/
def D0 (Wg : Nat) (w w' : World) (es : Array Event) : Prop := w' = w ∧ ∀ e ∈ es, ∃ a : Addr, a.block = Wg ∧ (e = ⟨.mark (.read a), false, true⟩ ∨ e = ⟨.mark (.write a), false, true⟩)
omit [Payload] in
theorem d0_none {Wg : Nat} {w : World} {es : Array Event} (h : ∀ e ∈ es, False) : D0 Wg w w es := ⟨rfl, fun e he => (h e he).elim⟩
theorem d0_go {Wg C n : Nat} {s : OSt} {w w' : World} {es : Array Event} (h : D0 Wg w w' es) : GO Wg C n none s s w w' es := by
  obtain ⟨rfl, h⟩ := h
  refine GO.idle fun e he => ?_
  obtain ⟨a, ha, rfl | rfl⟩ := h e he <;> exact ⟨ha, rfl⟩
section
variable {P : Program} {ty : TypeId} {Wg C n : Nat} {s : OSt} {Stop : OSt → Goroutine → World → Prop}
theorem GoesO.of {m : Nat} {g : Goroutine} {w : World} (h : Goes P true (RO ty Wg C n none s.o) (D0 Wg) (Stop s) m g w) : GoesO ty Wg C n P true none Stop m s g w := by
  induction m generalizing g w with
  | zero => exact h
  | succ m ih =>
    rcases h with h | ⟨hs, h⟩
    · exact .inl h
    · refine .inr ⟨hs, fun w₁ h₁ => ?_⟩
      have := h w₁ h₁
      revert this
      cases stepG P true g w₁ <;> simp only [GStep.goes, imp_self]
      exact fun ⟨d, x⟩ => ⟨s, d0_go d, ih x⟩
theorem GoesO.of_then {m m' : Nat} {T : Goroutine} {F : World → Prop} {g : Goroutine} {w : World} (hT : ∀ w, F w → GoesO ty Wg C n P true none Stop m' s T w) (h : Goes P true (RO ty Wg C n none s.o) (D0 Wg) (fun g w => g = T ∧ F w) m g w) : GoesO ty Wg C n P true none Stop (m + m') s g w :=
  GoesO.of_goes (D := D0 Wg) (fun _ _ _ h => d0_go h) (fun g w ⟨h1, h2⟩ => by subst h1; exact hT w h2) m g w h
end
section
variable {Wg C n : Nat} {val : Nat → Value} {j : Nat} {Next FinP : OSt → Goroutine → World → Prop} {s : OSt} {F : World → Prop}
  {b₀ : Frame} {a₀ : Act} {ops₀ : Array Oper} {i₀ : Nat} {rest₀ : List Nat} {k₀ : List Item} {cs : List Frame} {mT : Nat}
set_option maxRecDepth 100000 in
set_option maxHeartbeats 16000000 in
/-- from Add's entry to the go statement that follows -/
theorem addPosO {P : Program} (H : WgLib P L) (hR : ∀ w w₁, F w → RO L.tWg Wg C n none s.o w w₁ → F w₁) (hl : ∀ w, F w → WgLive L.tWg Wg w) (hS : ∀ w v, F w → WgLive L.tWg Wg (w.setCell (stA Wg) (.int .u64 v)) → F (w.setCell (stA Wg) (.int .u64 v)))
    (hT : ∀ w, F w → GoesO L.tWg Wg C n P true none (AtGoS P L.tWg Wg C n val j Next) mT s (G (b₀.at (a₀.put ((ops₀[i₀]?).bind (·.dst)) (.tuple #[])) (.inRegion ops₀ rest₀ :: k₀)) cs) w) (w : World) (hF : F w) :
    GoesO L.tWg Wg C n P true none (AtKdS P L.tWg Wg C n val j Next) 12 s
      (G ((base L.add).at ⟨#[.pointer (some ⟨Wg, 0, none⟩), .int .i64 1, undef, undef, undef, undef, undef, undef, undef, undef, undef, undef, undef, undef, undef, undef, undef, undef, undef, undef, undef, undef, undef, undef, undef, undef, undef, undef, undef, undef, undef, undef, undef, undef, undef, undef, undef, undef, undef, undef, undef, undef, undef, undef, undef, undef, undef, undef, undef, undef, undef, undef, undef, undef, undef, undef, undef, undef, undef, undef, undef, undef, undef, undef, undef, undef, undef, undef, undef, undef, undef, undef, undef, undef, undef, undef, undef, undef, undef, undef, undef, undef, undef, undef, undef, undef, undef, undef, undef, undef, undef, undef, undef, undef, undef, undef, undef, undef, undef, undef, undef, undef, undef, undef, undef, undef, undef, undef, undef, undef, undef, undef, undef, undef, undef, undef, undef], []⟩ [.code (body_add L)]) (b₀.at a₀ (.inRegion ops₀ (i₀ :: rest₀) :: k₀) :: cs)) w := by
  lib_facts
  refine GoesO.of ?_
  simp only [body_add, addFn, Option.getD_some]
  refine Goes.step rfl (fun _ h₁ => ?_)
  replace hF := hR _ _ hF h₁
  clear h₁
  rw [stepG_seq]
  simp only [goes_go]
  refine ⟨d0_none (by intro e he; simp at he), ?_⟩
  refine Goes.step rfl (fun _ h₁ => ?_)
  replace hF := hR _ _ hF h₁
  clear h₁
  rw [stepG_cond (t := true) rfl]
  simp only [goes_go, if_true, if_false, Bool.false_eq_true, ↓reduceIte]
  refine ⟨d0_none (by intro e he; simp at he), ?_⟩
  refine Goes.step rfl (fun _ h₁ => ?_)
  replace hF := hR _ _ hF h₁
  clear h₁
  rw [stepG_seq]
  simp only [goes_go]
  refine ⟨d0_none (by intro e he; simp at he), ?_⟩
  refine Goes.step rfl (fun _ h₁ => ?_)
  replace hF := hR _ _ hF h₁
  clear h₁
  rw [stepG_seq]
  simp only [goes_go]
  refine ⟨d0_none (by intro e he; simp at he), ?_⟩
  refine Goes.step rfl (fun _ h₁ => ?_)
  replace hF := hR _ _ hF h₁
  clear h₁
  rw [stepG_region]
  simp only [goes_go, List.size_toArray, List.length_cons, List.length_nil, Nat.reduceAdd, Nat.zero_add, List.range, List.range.loop]
  refine ⟨d0_none (by intro e he; simp at he), ?_⟩
  refine Goes.step rfl (fun _ h₁ => ?_)
  replace hF := hR _ _ hF h₁
  clear h₁
  refine goes_oper_k rfl rfl (by k_ne) (fun K hK => ?_)
  go_simp
  refine hK _ _ ⟨?_, ?_⟩
  · refine d0_none ?_
    intro e he
    have hm := mem_listed he
    simp [go_sem, *] at hm
  clear hK K
  try w_num
  refine Goes.step rfl (fun _ h₁ => ?_)
  replace hF := hR _ _ hF h₁
  clear h₁
  refine goes_oper_k rfl rfl (by k_ne) (fun K hK => ?_)
  go_simp
  refine hK _ _ ⟨?_, ?_⟩
  · refine d0_none ?_
    intro e he
    have hm := mem_listed he
    simp [go_sem, *] at hm
  clear hK K
  try w_num
  refine Goes.step rfl (fun _ h₁ => ?_)
  replace hF := hR _ _ hF h₁
  clear h₁
  rw [stepG_region_end]
  simp only [goes_go]
  refine ⟨d0_none (by intro e he; simp at he), ?_⟩
  refine Goes.step rfl (fun _ h₁ => ?_)
  replace hF := hR _ _ hF h₁
  clear h₁
  rw [stepG_cond (t := false) rfl]
  simp only [goes_go, if_true, if_false, Bool.false_eq_true, ↓reduceIte]
  refine ⟨d0_none (by intro e he; simp at he), ?_⟩
  refine Goes.step rfl (fun _ h₁ => ?_)
  replace hF := hR _ _ hF h₁
  clear h₁
  rw [stepG_skip]
  simp only [goes_go]
  refine ⟨d0_none (by intro e he; simp at he), ?_⟩
  refine Goes.step rfl (fun _ h₁ => ?_)
  replace hF := hR _ _ hF h₁
  clear h₁
  rw [stepG_seq]
  simp only [goes_go]
  refine ⟨d0_none (by intro e he; simp at he), ?_⟩
  refine Goes.step rfl (fun _ h₁ => ?_)
  replace hF := hR _ _ hF h₁
  clear h₁
  rw [stepG_region]
  simp only [goes_go, List.size_toArray, List.length_cons, List.length_nil, Nat.reduceAdd, Nat.zero_add, List.range, List.range.loop]
  refine ⟨d0_none (by intro e he; simp at he), ?_⟩
  refine Goes.stop (fun w₁ h₁ => ?_)
  replace hF := hR _ _ hF h₁
  clear h₁
  refine ⟨rfl, _, stepG_mark0 .disable (by simp) rfl rfl (by k_ne) rfl H.f_disable (x_disable_n L) (x_disable_b L) (x_disable_x L) (x_disable_f L), 40, GoesO.of ?_⟩
  walk_nrm
  refine Goes.step rfl (fun _ h₁ => ?_)
  replace hF := hR _ _ hF h₁
  clear h₁
  rw [stepG_region_end]
  simp only [goes_go]
  refine ⟨d0_none (by intro e he; simp at he), ?_⟩
  refine Goes.step rfl (fun _ h₁ => ?_)
  replace hF := hR _ _ hF h₁
  clear h₁
  rw [stepG_region]
  simp only [goes_go, List.size_toArray, List.length_cons, List.length_nil, Nat.reduceAdd, Nat.zero_add, List.range, List.range.loop]
  refine ⟨d0_none (by intro e he; simp at he), ?_⟩
  refine Goes.step rfl (fun _ h₁ => ?_)
  replace hF := hR _ _ hF h₁
  clear h₁
  rw [stepG_defer rfl rfl (by k_ne) rfl]
  simp only [goes_go]
  refine ⟨d0_none (by intro e he; simp at he), ?_⟩
  walk_nrm
  refine Goes.step rfl (fun _ h₁ => ?_)
  replace hF := hR _ _ hF h₁
  clear h₁
  rw [stepG_region_end]
  simp only [goes_go]
  refine ⟨d0_none (by intro e he; simp at he), ?_⟩
  refine Goes.step rfl (fun _ h₁ => ?_)
  replace hF := hR _ _ hF h₁
  clear h₁
  rw [stepG_seq]
  simp only [goes_go]
  refine ⟨d0_none (by intro e he; simp at he), ?_⟩
  refine Goes.step rfl (fun _ h₁ => ?_)
  replace hF := hR _ _ hF h₁
  clear h₁
  rw [stepG_region]
  simp only [goes_go, List.size_toArray, List.length_cons, List.length_nil, Nat.reduceAdd, Nat.zero_add, List.range, List.range.loop]
  refine ⟨d0_none (by intro e he; simp at he), ?_⟩
  refine Goes.step rfl (fun _ h₁ => ?_)
  replace hF := hR _ _ hF h₁
  clear h₁
  refine goes_oper_k rfl rfl (by k_ne) (fun K hK => ?_)
  go_simp
  refine hK _ _ ⟨?_, ?_⟩
  · refine d0_none ?_
    intro e he
    have hm := mem_listed he
    simp [go_sem, *] at hm
  clear hK K
  try w_num
  refine Goes.step rfl (fun _ h₁ => ?_)
  replace hF := hR _ _ hF h₁
  clear h₁
  rw [stepG_region_end]
  simp only [goes_go]
  refine ⟨d0_none (by intro e he; simp at he), ?_⟩
  refine Goes.step rfl (fun _ h₁ => ?_)
  replace hF := hR _ _ hF h₁
  clear h₁
  rw [stepG_seq]
  simp only [goes_go]
  refine ⟨d0_none (by intro e he; simp at he), ?_⟩
  refine Goes.step rfl (fun _ h₁ => ?_)
  replace hF := hR _ _ hF h₁
  clear h₁
  rw [stepG_seq]
  simp only [goes_go]
  refine ⟨d0_none (by intro e he; simp at he), ?_⟩
  refine Goes.step rfl (fun _ h₁ => ?_)
  replace hF := hR _ _ hF h₁
  clear h₁
  rw [stepG_region]
  simp only [goes_go, List.size_toArray, List.length_cons, List.length_nil, Nat.reduceAdd, Nat.zero_add, List.range, List.range.loop]
  refine ⟨d0_none (by intro e he; simp at he), ?_⟩
  refine Goes.step rfl (fun _ h₁ => ?_)
  replace hF := hR _ _ hF h₁
  clear h₁
  rw [stepG_entry_pure (.bool false) rfl rfl (by k_ne) rfl H.f_inBubble (x_inBubble_n L) (x_inBubble_b L) (x_inBubble_x L) (x_inBubble_f L)]
  simp only [goes_go]
  refine ⟨d0_none (by intro e he; simp at he), ?_⟩
  walk_nrm
  refine Goes.step rfl (fun _ h₁ => ?_)
  replace hF := hR _ _ hF h₁
  clear h₁
  rw [stepG_region_end]
  simp only [goes_go]
  refine ⟨d0_none (by intro e he; simp at he), ?_⟩
  refine Goes.step rfl (fun _ h₁ => ?_)
  replace hF := hR _ _ hF h₁
  clear h₁
  rw [stepG_cond (t := false) rfl]
  simp only [goes_go, if_true, if_false, Bool.false_eq_true, ↓reduceIte]
  refine ⟨d0_none (by intro e he; simp at he), ?_⟩
  refine Goes.step rfl (fun _ h₁ => ?_)
  replace hF := hR _ _ hF h₁
  clear h₁
  rw [stepG_skip]
  simp only [goes_go]
  refine ⟨d0_none (by intro e he; simp at he), ?_⟩
  refine Goes.step rfl (fun _ h₁ => ?_)
  replace hF := hR _ _ hF h₁
  clear h₁
  rw [stepG_seq]
  simp only [goes_go]
  refine ⟨d0_none (by intro e he; simp at he), ?_⟩
  refine Goes.step rfl (fun _ h₁ => ?_)
  replace hF := hR _ _ hF h₁
  clear h₁
  rw [stepG_region]
  simp only [goes_go, List.size_toArray, List.length_cons, List.length_nil, Nat.reduceAdd, Nat.zero_add, List.range, List.range.loop]
  refine ⟨d0_none (by intro e he; simp at he), ?_⟩
  refine Goes.step rfl (fun _ h₁ => ?_)
  replace hF := hR _ _ hF h₁
  clear h₁
  refine goes_oper_k rfl rfl (by k_ne) (fun K hK => ?_)
  go_simp
  refine hK _ _ ⟨?_, ?_⟩
  · refine d0_none ?_
    intro e he
    have hm := mem_listed he
    simp [go_sem, *] at hm
  clear hK K
  try w_num
  refine Goes.step rfl (fun _ h₁ => ?_)
  replace hF := hR _ _ hF h₁
  clear h₁
  refine goes_oper_k rfl rfl (by k_ne) (fun K hK => ?_)
  go_simp
  refine hK _ _ ⟨?_, ?_⟩
  · refine d0_none ?_
    intro e he
    have hm := mem_listed he
    simp [go_sem, *] at hm
  clear hK K
  try w_num
  refine Goes.step rfl (fun _ h₁ => ?_)
  replace hF := hR _ _ hF h₁
  clear h₁
  refine goes_oper_k rfl rfl (by k_ne) (fun K hK => ?_)
  go_simp
  refine hK _ _ ⟨?_, ?_⟩
  · refine d0_none ?_
    intro e he
    have hm := mem_listed he
    simp [go_sem, *] at hm
  clear hK K
  try w_num
  refine Goes.step rfl (fun _ h₁ => ?_)
  replace hF := hR _ _ hF h₁
  clear h₁
  refine goes_oper_k rfl rfl (by k_ne) (fun K hK => ?_)
  go_simp
  refine hK _ _ ⟨?_, ?_⟩
  · refine d0_none ?_
    intro e he
    have hm := mem_listed he
    simp [go_sem, *] at hm
  clear hK K
  try w_num
  refine Goes.step rfl (fun _ h₁ => ?_)
  replace hF := hR _ _ hF h₁
  clear h₁
  refine goes_oper_k rfl rfl (by k_ne) (fun K hK => ?_)
  go_simp
  refine hK _ _ ⟨?_, ?_⟩
  · refine d0_none ?_
    intro e he
    have hm := mem_listed he
    simp [go_sem, *] at hm
  clear hK K
  try w_num
  refine Goes.step rfl (fun _ h₁ => ?_)
  replace hF := hR _ _ hF h₁
  clear h₁
  refine goes_oper_k rfl rfl (by k_ne) (fun K hK => ?_)
  go_simp
  refine hK _ _ ⟨?_, ?_⟩
  · refine d0_none ?_
    intro e he
    have hm := mem_listed he
    simp [go_sem, *] at hm
  clear hK K
  try w_num
  refine Goes.step rfl (fun _ h₁ => ?_)
  replace hF := hR _ _ hF h₁
  clear h₁
  refine goes_call rfl rfl (by k_ne) rfl H.f_uAdd (nm_uAdd L) rfl ⟨d0_none (by intro e he; simp at he), ?_⟩
  walk_nrmf uAddFn
  refine Goes.step rfl (fun _ h₁ => ?_)
  replace hF := hR _ _ hF h₁
  clear h₁
  rw [stepG_seq]
  simp only [goes_go]
  refine ⟨d0_none (by intro e he; simp at he), ?_⟩
  refine Goes.step rfl (fun _ h₁ => ?_)
  replace hF := hR _ _ hF h₁
  clear h₁
  rw [stepG_region]
  simp only [goes_go, List.size_toArray, List.length_cons, List.length_nil, Nat.reduceAdd, Nat.zero_add, List.range, List.range.loop]
  refine ⟨d0_none (by intro e he; simp at he), ?_⟩
  refine Goes.step rfl (fun _ h₁ => ?_)
  replace hF := hR _ _ hF h₁
  clear h₁
  refine goes_oper_k rfl rfl (by k_ne) (fun K hK => ?_)
  go_simp
  refine hK _ _ ⟨?_, ?_⟩
  · refine d0_none ?_
    intro e he
    have hm := mem_listed he
    simp [go_sem, *] at hm
  clear hK K
  try w_num
  refine Goes.step rfl (fun _ h₁ => ?_)
  replace hF := hR _ _ hF h₁
  clear h₁
  rw [stepG_region_end]
  simp only [goes_go]
  refine ⟨d0_none (by intro e he; simp at he), ?_⟩
  refine Goes.step rfl (fun _ h₁ => ?_)
  replace hF := hR _ _ hF h₁
  clear h₁
  rw [stepG_seq]
  simp only [goes_go]
  refine ⟨d0_none (by intro e he; simp at he), ?_⟩
  refine Goes.step rfl (fun _ h₁ => ?_)
  replace hF := hR _ _ hF h₁
  clear h₁
  rw [stepG_region]
  simp only [goes_go, List.size_toArray, List.length_cons, List.length_nil, Nat.reduceAdd, Nat.zero_add, List.range, List.range.loop]
  refine ⟨d0_none (by intro e he; simp at he), ?_⟩
  refine Goes.step rfl (fun _ h₁ => ?_)
  replace hF := hR _ _ hF h₁
  clear h₁
  refine goes_oper_k rfl rfl (by k_ne) (fun K hK => ?_)
  go_simp
  refine hK _ _ ⟨?_, ?_⟩
  · refine d0_none ?_
    intro e he
    have hm := mem_listed he
    simp [go_sem, *] at hm
  clear hK K
  try w_num
  refine Goes.step rfl (fun _ h₁ => ?_)
  replace hF := hR _ _ hF h₁
  clear h₁
  refine goes_oper_k rfl rfl (by k_ne) (fun K hK => ?_)
  go_simp
  refine hK _ _ ⟨?_, ?_⟩
  · refine d0_none ?_
    intro e he
    have hm := mem_listed he
    simp [go_sem, *] at hm
  clear hK K
  try w_num
  refine Goes.step rfl (fun _ h₁ => ?_)
  replace hF := hR _ _ hF h₁
  clear h₁
  refine goes_oper_k rfl rfl (by k_ne) (fun K hK => ?_)
  go_simp
  refine hK _ _ ⟨?_, ?_⟩
  · refine d0_none ?_
    intro e he
    have hm := mem_listed he
    simp [go_sem, *] at hm
  clear hK K
  try w_num
  refine Goes.step rfl (fun _ h₁ => ?_)
  replace hF := hR _ _ hF h₁
  clear h₁
  refine goes_oper_k rfl rfl (by k_ne) (fun K hK => ?_)
  go_simp
  refine hK _ _ ⟨?_, ?_⟩
  · refine d0_none ?_
    intro e he
    have hm := mem_listed he
    simp [go_sem, *] at hm
  clear hK K
  try w_num
  refine Goes.stop (fun w₂ h₂ => ?_)
  replace hF := hR _ _ hF h₂
  clear h₂
  refine ⟨rfl, fun v hv hw => ?_⟩
  rcases Nat.eq_zero_or_pos v with rfl | hvp
  · replace hw : WgAt L.tWg Wg w₂ 0 0 := by simpa using hw
    have z : (((0 : Nat) : Int) + 1) * KK = KK := by simp
    rw [z]
    have e0 : IntKind.u64.wrap (0 + 4294967296) = KK := by decide
    refine ⟨_, (stepG_add_atomic rfl rfl (by k_ne) rfl H.f_addU64 (x_addU64_n L) (x_addU64_b L) (x_addU64_x L) .u64 (x_addU64_f L) rfl rfl hw.cellSt (hw.thaw 0)).trans (by rw [e0]; rfl), 110, GoesO.of ?_⟩
    replace hF : F (w₂.setCell (stA Wg) (.int .u64 KK)) := hS _ _ hF ⟨_, _, hw.setSt _⟩
    clear hw
    simp only [KK] at hF ⊢
    walk_nrm
    refine Goes.step rfl (fun _ h₁ => ?_)
    replace hF := hR _ _ hF h₁
    clear h₁
    refine goes_oper_k rfl rfl (by k_ne) (fun K hK => ?_)
    go_simp
    refine hK _ _ ⟨?_, ?_⟩
    · refine d0_none ?_
      intro e he
      have hm := mem_listed he
      simp [go_sem, *] at hm
    clear hK K
    try w_num
    refine Goes.step rfl (fun _ h₁ => ?_)
    replace hF := hR _ _ hF h₁
    clear h₁
    rw [stepG_region_end]
    simp only [goes_go]
    refine ⟨d0_none (by intro e he; simp at he), ?_⟩
    refine Goes.step rfl (fun _ h₁ => ?_)
    replace hF := hR _ _ hF h₁
    clear h₁
    rw [stepG_ret']
    simp only [goes_go]
    refine ⟨d0_none (by intro e he; simp at he), ?_⟩
    refine Goes.step rfl (fun _ h₁ => ?_)
    replace hF := hR _ _ hF h₁
    clear h₁
    refine goes_leave1 rfl rfl H.f_uAdd rfl ⟨d0_none (by intro e he; simp at he), ?_⟩
    walk_nrm
    refine Goes.step rfl (fun _ h₁ => ?_)
    replace hF := hR _ _ hF h₁
    clear h₁
    refine goes_oper_k rfl rfl (by k_ne) (fun K hK => ?_)
    go_simp
    refine hK _ _ ⟨?_, ?_⟩
    · refine d0_none ?_
      intro e he
      have hm := mem_listed he
      simp [go_sem, *] at hm
    clear hK K
    try w_num
    refine Goes.step rfl (fun _ h₁ => ?_)
    replace hF := hR _ _ hF h₁
    clear h₁
    rw [stepG_region_end]
    simp only [goes_go]
    refine ⟨d0_none (by intro e he; simp at he), ?_⟩
    refine Goes.step rfl (fun _ h₁ => ?_)
    replace hF := hR _ _ hF h₁
    clear h₁
    rw [stepG_seq]
    simp only [goes_go]
    refine ⟨d0_none (by intro e he; simp at he), ?_⟩
    refine Goes.step rfl (fun _ h₁ => ?_)
    replace hF := hR _ _ hF h₁
    clear h₁
    rw [stepG_seq]
    simp only [goes_go]
    refine ⟨d0_none (by intro e he; simp at he), ?_⟩
    refine Goes.step rfl (fun _ h₁ => ?_)
    replace hF := hR _ _ hF h₁
    clear h₁
    rw [stepG_region]
    simp only [goes_go, List.size_toArray, List.length_cons, List.length_nil, Nat.reduceAdd, Nat.zero_add, List.range, List.range.loop]
    refine ⟨d0_none (by intro e he; simp at he), ?_⟩
    refine Goes.step rfl (fun _ h₁ => ?_)
    replace hF := hR _ _ hF h₁
    clear h₁
    refine goes_oper_k rfl rfl (by k_ne) (fun K hK => ?_)
    go_simp
    refine hK _ _ ⟨?_, ?_⟩
    · refine d0_none ?_
      intro e he
      have hm := mem_listed he
      simp [go_sem, *] at hm
    clear hK K
    try w_num
    refine Goes.step rfl (fun _ h₁ => ?_)
    replace hF := hR _ _ hF h₁
    clear h₁
    refine goes_oper_k rfl rfl (by k_ne) (fun K hK => ?_)
    go_simp
    refine hK _ _ ⟨?_, ?_⟩
    · refine d0_none ?_
      intro e he
      have hm := mem_listed he
      simp [go_sem, *] at hm
    clear hK K
    try w_num
    refine Goes.step rfl (fun _ h₁ => ?_)
    replace hF := hR _ _ hF h₁
    clear h₁
    refine goes_oper_k rfl rfl (by k_ne) (fun K hK => ?_)
    go_simp
    refine hK _ _ ⟨?_, ?_⟩
    · refine d0_none ?_
      intro e he
      have hm := mem_listed he
      simp [go_sem, *] at hm
    clear hK K
    try w_num
    refine Goes.step rfl (fun _ h₁ => ?_)
    replace hF := hR _ _ hF h₁
    clear h₁
    refine goes_oper_k rfl rfl (by k_ne) (fun K hK => ?_)
    go_simp
    refine hK _ _ ⟨?_, ?_⟩
    · refine d0_none ?_
      intro e he
      have hm := mem_listed he
      simp [go_sem, *] at hm
    clear hK K
    try w_num
    refine Goes.step rfl (fun _ h₁ => ?_)
    replace hF := hR _ _ hF h₁
    clear h₁
    rw [stepG_unwanted rfl rfl]
    simp only [goes_go]
    refine ⟨d0_none (by intro e he; simp at he), ?_⟩
    walk_nrm
    refine Goes.step rfl (fun _ h₁ => ?_)
    replace hF := hR _ _ hF h₁
    clear h₁
    rw [stepG_unwanted rfl rfl]
    simp only [goes_go]
    refine ⟨d0_none (by intro e he; simp at he), ?_⟩
    walk_nrm
    refine Goes.step rfl (fun _ h₁ => ?_)
    replace hF := hR _ _ hF h₁
    clear h₁
    refine goes_oper_k rfl rfl (by k_ne) (fun K hK => ?_)
    go_simp
    refine hK _ _ ⟨?_, ?_⟩
    · refine d0_none ?_
      intro e he
      have hm := mem_listed he
      simp [go_sem, *] at hm
    clear hK K
    try w_num
    refine Goes.step rfl (fun _ h₁ => ?_)
    replace hF := hR _ _ hF h₁
    clear h₁
    rw [stepG_region_end]
    simp only [goes_go]
    refine ⟨d0_none (by intro e he; simp at he), ?_⟩
    refine Goes.step rfl (fun _ h₁ => ?_)
    replace hF := hR _ _ hF h₁
    clear h₁
    rw [stepG_cond (t := false) rfl]
    simp only [goes_go, if_true, if_false, Bool.false_eq_true, ↓reduceIte]
    refine ⟨d0_none (by intro e he; simp at he), ?_⟩
    refine Goes.step rfl (fun _ h₁ => ?_)
    replace hF := hR _ _ hF h₁
    clear h₁
    rw [stepG_skip]
    simp only [goes_go]
    refine ⟨d0_none (by intro e he; simp at he), ?_⟩
    refine Goes.step rfl (fun _ h₁ => ?_)
    replace hF := hR _ _ hF h₁
    clear h₁
    rw [stepG_seq]
    simp only [goes_go]
    refine ⟨d0_none (by intro e he; simp at he), ?_⟩
    refine Goes.step rfl (fun _ h₁ => ?_)
    replace hF := hR _ _ hF h₁
    clear h₁
    rw [stepG_region]
    simp only [goes_go, List.size_toArray, List.length_cons, List.length_nil, Nat.reduceAdd, Nat.zero_add, List.range, List.range.loop]
    refine ⟨d0_none (by intro e he; simp at he), ?_⟩
    refine Goes.step rfl (fun _ h₁ => ?_)
    replace hF := hR _ _ hF h₁
    clear h₁
    refine goes_oper_k rfl rfl (by k_ne) (fun K hK => ?_)
    go_simp
    refine hK _ _ ⟨?_, ?_⟩
    · refine d0_none ?_
      intro e he
      have hm := mem_listed he
      simp [go_sem, *] at hm
    clear hK K
    try w_num
    refine Goes.step rfl (fun _ h₁ => ?_)
    replace hF := hR _ _ hF h₁
    clear h₁
    refine goes_oper_k rfl rfl (by k_ne) (fun K hK => ?_)
    go_simp
    refine hK _ _ ⟨?_, ?_⟩
    · refine d0_none ?_
      intro e he
      have hm := mem_listed he
      simp [go_sem, *] at hm
    clear hK K
    try w_num
    refine Goes.step rfl (fun _ h₁ => ?_)
    replace hF := hR _ _ hF h₁
    clear h₁
    refine goes_oper_k rfl rfl (by k_ne) (fun K hK => ?_)
    go_simp
    refine hK _ _ ⟨?_, ?_⟩
    · refine d0_none ?_
      intro e he
      have hm := mem_listed he
      simp [go_sem, *] at hm
    clear hK K
    try w_num
    refine Goes.step rfl (fun _ h₁ => ?_)
    replace hF := hR _ _ hF h₁
    clear h₁
    refine goes_oper_k rfl rfl (by k_ne) (fun K hK => ?_)
    go_simp
    refine hK _ _ ⟨?_, ?_⟩
    · refine d0_none ?_
      intro e he
      have hm := mem_listed he
      simp [go_sem, *] at hm
    clear hK K
    try w_num
    refine Goes.step rfl (fun _ h₁ => ?_)
    replace hF := hR _ _ hF h₁
    clear h₁
    rw [stepG_region_end]
    simp only [goes_go]
    refine ⟨d0_none (by intro e he; simp at he), ?_⟩
    refine Goes.step rfl (fun _ h₁ => ?_)
    replace hF := hR _ _ hF h₁
    clear h₁
    rw [stepG_seq]
    simp only [goes_go]
    refine ⟨d0_none (by intro e he; simp at he), ?_⟩
    refine Goes.step rfl (fun _ h₁ => ?_)
    replace hF := hR _ _ hF h₁
    clear h₁
    rw [stepG_region]
    simp only [goes_go, List.size_toArray, List.length_cons, List.length_nil, Nat.reduceAdd, Nat.zero_add, List.range, List.range.loop]
    refine ⟨d0_none (by intro e he; simp at he), ?_⟩
    refine Goes.step rfl (fun _ h₁ => ?_)
    replace hF := hR _ _ hF h₁
    clear h₁
    refine goes_oper_k rfl rfl (by k_ne) (fun K hK => ?_)
    go_simp
    refine hK _ _ ⟨?_, ?_⟩
    · refine d0_none ?_
      intro e he
      have hm := mem_listed he
      simp [go_sem, *] at hm
    clear hK K
    try w_num
    refine Goes.step rfl (fun _ h₁ => ?_)
    replace hF := hR _ _ hF h₁
    clear h₁
    refine goes_oper_k rfl rfl (by k_ne) (fun K hK => ?_)
    go_simp
    refine hK _ _ ⟨?_, ?_⟩
    · refine d0_none ?_
      intro e he
      have hm := mem_listed he
      simp [go_sem, *] at hm
    clear hK K
    try w_num
    refine Goes.step rfl (fun _ h₁ => ?_)
    replace hF := hR _ _ hF h₁
    clear h₁
    refine goes_oper_k rfl rfl (by k_ne) (fun K hK => ?_)
    go_simp
    refine hK _ _ ⟨?_, ?_⟩
    · refine d0_none ?_
      intro e he
      have hm := mem_listed he
      simp [go_sem, *] at hm
    clear hK K
    try w_num
    refine Goes.step rfl (fun _ h₁ => ?_)
    replace hF := hR _ _ hF h₁
    clear h₁
    refine goes_oper_k rfl rfl (by k_ne) (fun K hK => ?_)
    go_simp
    refine hK _ _ ⟨?_, ?_⟩
    · refine d0_none ?_
      intro e he
      have hm := mem_listed he
      simp [go_sem, *] at hm
    clear hK K
    try w_num
    refine Goes.step rfl (fun _ h₁ => ?_)
    replace hF := hR _ _ hF h₁
    clear h₁
    rw [stepG_region_end]
    simp only [goes_go]
    refine ⟨d0_none (by intro e he; simp at he), ?_⟩
    refine Goes.step rfl (fun _ h₁ => ?_)
    replace hF := hR _ _ hF h₁
    clear h₁
    rw [stepG_seq]
    simp only [goes_go]
    refine ⟨d0_none (by intro e he; simp at he), ?_⟩
    refine Goes.step rfl (fun _ h₁ => ?_)
    replace hF := hR _ _ hF h₁
    clear h₁
    rw [stepG_seq]
    simp only [goes_go]
    refine ⟨d0_none (by intro e he; simp at he), ?_⟩
    refine Goes.step rfl (fun _ h₁ => ?_)
    replace hF := hR _ _ hF h₁
    clear h₁
    rw [stepG_region]
    simp only [goes_go, List.size_toArray, List.length_cons, List.length_nil, Nat.reduceAdd, Nat.zero_add, List.range, List.range.loop]
    refine ⟨d0_none (by intro e he; simp at he), ?_⟩
    refine Goes.step rfl (fun _ h₁ => ?_)
    replace hF := hR _ _ hF h₁
    clear h₁
    refine goes_oper_k rfl rfl (by k_ne) (fun K hK => ?_)
    go_simp
    refine hK _ _ ⟨?_, ?_⟩
    · refine d0_none ?_
      intro e he
      have hm := mem_listed he
      simp [go_sem, *] at hm
    clear hK K
    try w_num
    refine Goes.step rfl (fun _ h₁ => ?_)
    replace hF := hR _ _ hF h₁
    clear h₁
    refine goes_oper_k rfl rfl (by k_ne) (fun K hK => ?_)
    go_simp
    refine hK _ _ ⟨?_, ?_⟩
    · refine d0_none ?_
      intro e he
      have hm := mem_listed he
      simp [go_sem, *] at hm
    clear hK K
    try w_num
    refine Goes.step rfl (fun _ h₁ => ?_)
    replace hF := hR _ _ hF h₁
    clear h₁
    refine goes_oper_k rfl rfl (by k_ne) (fun K hK => ?_)
    go_simp
    refine hK _ _ ⟨?_, ?_⟩
    · refine d0_none ?_
      intro e he
      have hm := mem_listed he
      simp [go_sem, *] at hm
    clear hK K
    try w_num
    refine Goes.step rfl (fun _ h₁ => ?_)
    replace hF := hR _ _ hF h₁
    clear h₁
    refine goes_oper_k rfl rfl (by k_ne) (fun K hK => ?_)
    go_simp
    refine hK _ _ ⟨?_, ?_⟩
    · refine d0_none ?_
      intro e he
      have hm := mem_listed he
      simp [go_sem, *] at hm
    clear hK K
    try w_num
    refine Goes.step rfl (fun _ h₁ => ?_)
    replace hF := hR _ _ hF h₁
    clear h₁
    refine goes_oper_k rfl rfl (by k_ne) (fun K hK => ?_)
    go_simp
    refine hK _ _ ⟨?_, ?_⟩
    · refine d0_none ?_
      intro e he
      have hm := mem_listed he
      simp [go_sem, *] at hm
    clear hK K
    try w_num
    refine Goes.step rfl (fun _ h₁ => ?_)
    replace hF := hR _ _ hF h₁
    clear h₁
    refine goes_oper_k rfl rfl (by k_ne) (fun K hK => ?_)
    go_simp
    refine hK _ _ ⟨?_, ?_⟩
    · refine d0_none ?_
      intro e he
      have hm := mem_listed he
      simp [go_sem, *] at hm
    clear hK K
    try w_num
    refine Goes.step rfl (fun _ h₁ => ?_)
    replace hF := hR _ _ hF h₁
    clear h₁
    refine goes_oper_k rfl rfl (by k_ne) (fun K hK => ?_)
    go_simp
    refine hK _ _ ⟨?_, ?_⟩
    · refine d0_none ?_
      intro e he
      have hm := mem_listed he
      simp [go_sem, *] at hm
    clear hK K
    try w_num
    refine Goes.step rfl (fun _ h₁ => ?_)
    replace hF := hR _ _ hF h₁
    clear h₁
    refine goes_oper_k rfl rfl (by k_ne) (fun K hK => ?_)
    go_simp
    refine hK _ _ ⟨?_, ?_⟩
    · refine d0_none ?_
      intro e he
      have hm := mem_listed he
      simp [go_sem, *] at hm
    clear hK K
    try w_num
    refine Goes.step rfl (fun _ h₁ => ?_)
    replace hF := hR _ _ hF h₁
    clear h₁
    refine goes_oper_k rfl rfl (by k_ne) (fun K hK => ?_)
    go_simp
    refine hK _ _ ⟨?_, ?_⟩
    · refine d0_none ?_
      intro e he
      have hm := mem_listed he
      simp [go_sem, *] at hm
    clear hK K
    try w_num
    refine Goes.step rfl (fun _ h₁ => ?_)
    replace hF := hR _ _ hF h₁
    clear h₁
    refine goes_oper_k rfl rfl (by k_ne) (fun K hK => ?_)
    go_simp
    refine hK _ _ ⟨?_, ?_⟩
    · refine d0_none ?_
      intro e he
      have hm := mem_listed he
      simp [go_sem, *] at hm
    clear hK K
    try w_num
    refine Goes.step rfl (fun _ h₁ => ?_)
    replace hF := hR _ _ hF h₁
    clear h₁
    rw [stepG_region_end]
    simp only [goes_go]
    refine ⟨d0_none (by intro e he; simp at he), ?_⟩
    refine Goes.step rfl (fun _ h₁ => ?_)
    replace hF := hR _ _ hF h₁
    clear h₁
    rw [stepG_cond (t := true) rfl]
    simp only [goes_go, if_true, if_false, Bool.false_eq_true, ↓reduceIte]
    refine ⟨d0_none (by intro e he; simp at he), ?_⟩
    refine Goes.step rfl (fun _ h₁ => ?_)
    replace hF := hR _ _ hF h₁
    clear h₁
    rw [stepG_region]
    simp only [goes_go, List.size_toArray, List.length_cons, List.length_nil, Nat.reduceAdd, Nat.zero_add, List.range, List.range.loop]
    refine ⟨d0_none (by intro e he; simp at he), ?_⟩
    refine Goes.step rfl (fun _ h₁ => ?_)
    replace hF := hR _ _ hF h₁
    clear h₁
    refine goes_oper_k rfl rfl (by k_ne) (fun K hK => ?_)
    go_simp
    refine hK _ _ ⟨?_, ?_⟩
    · refine d0_none ?_
      intro e he
      have hm := mem_listed he
      simp [go_sem, *] at hm
    clear hK K
    try w_num
    refine Goes.step rfl (fun _ h₁ => ?_)
    replace hF := hR _ _ hF h₁
    clear h₁
    refine goes_oper_k rfl rfl (by k_ne) (fun K hK => ?_)
    go_simp
    refine hK _ _ ⟨?_, ?_⟩
    · refine d0_none ?_
      intro e he
      have hm := mem_listed he
      simp [go_sem, *] at hm
    clear hK K
    try w_num
    refine Goes.step rfl (fun _ h₁ => ?_)
    replace hF := hR _ _ hF h₁
    clear h₁
    refine goes_oper_k rfl rfl (by k_ne) (fun K hK => ?_)
    go_simp
    refine hK _ _ ⟨?_, ?_⟩
    · refine d0_none ?_
      intro e he
      have hm := mem_listed he
      simp [go_sem, *] at hm
    clear hK K
    try w_num
    refine Goes.step rfl (fun _ h₁ => ?_)
    replace hF := hR _ _ hF h₁
    clear h₁
    refine goes_oper_k rfl rfl (by k_ne) (fun Kx hKx => ?_)
    have hcv := run_convert_to_unsafe (P := P) H.underlying_tPU32 H.underlying_tUP H.room_tU32 (WgLive.cell1 (hl _ hF)).choose_spec
    have hce := fun es => events_convert_to_unsafe (P := P) H.underlying_tPU32 H.underlying_tUP H.room_tU32 (WgLive.cell1 (hl _ hF)).choose_spec es
    go_simp
    refine hKx _ _ ⟨?_, ?_⟩
    · refine d0_none ?_
      intro ex hex
      have hmx := mem_listed hex
      simp [go_sem, hce] at hmx
    clear hKx Kx hcv hce
    refine Goes.step rfl (fun _ h₁ => ?_)
    replace hF := hR _ _ hF h₁
    clear h₁
    rw [stepG_markAt .read (by simp) rfl rfl (by k_ne) rfl H.f_raceRead (x_raceRead_n L) (x_raceRead_b L) (x_raceRead_x L) (x_raceRead_f L) (ad := ⟨Wg, 1, none⟩) (by simp [Act.eval])]
    simp only [goes_go]
    refine ⟨⟨rfl, fun ex hex => ?_⟩, ?_⟩
    · rw [Array.mem_singleton] at hex
      subst hex
      exact ⟨⟨Wg, 1, none⟩, rfl, .inl rfl⟩
    walk_nrm
    refine Goes.step rfl (fun _ h₁ => ?_)
    replace hF := hR _ _ hF h₁
    clear h₁
    rw [stepG_region_end]
    simp only [goes_go]
    refine ⟨d0_none (by intro e he; simp at he), ?_⟩
    refine Goes.step rfl (fun _ h₁ => ?_)
    replace hF := hR _ _ hF h₁
    clear h₁
    rw [stepG_seq]
    simp only [goes_go]
    refine ⟨d0_none (by intro e he; simp at he), ?_⟩
    refine Goes.step rfl (fun _ h₁ => ?_)
    replace hF := hR _ _ hF h₁
    clear h₁
    rw [stepG_seq]
    simp only [goes_go]
    refine ⟨d0_none (by intro e he; simp at he), ?_⟩
    refine Goes.step rfl (fun _ h₁ => ?_)
    replace hF := hR _ _ hF h₁
    clear h₁
    rw [stepG_region]
    simp only [goes_go, List.size_toArray, List.length_cons, List.length_nil, Nat.reduceAdd, Nat.zero_add, List.range, List.range.loop]
    refine ⟨d0_none (by intro e he; simp at he), ?_⟩
    refine Goes.step rfl (fun _ h₁ => ?_)
    replace hF := hR _ _ hF h₁
    clear h₁
    refine goes_oper_k rfl rfl (by k_ne) (fun K hK => ?_)
    go_simp
    refine hK _ _ ⟨?_, ?_⟩
    · refine d0_none ?_
      intro e he
      have hm := mem_listed he
      simp [go_sem, *] at hm
    clear hK K
    try w_num
    refine Goes.step rfl (fun _ h₁ => ?_)
    replace hF := hR _ _ hF h₁
    clear h₁
    refine goes_oper_k rfl rfl (by k_ne) (fun K hK => ?_)
    go_simp
    refine hK _ _ ⟨?_, ?_⟩
    · refine d0_none ?_
      intro e he
      have hm := mem_listed he
      simp [go_sem, *] at hm
    clear hK K
    try w_num
    refine Goes.step rfl (fun _ h₁ => ?_)
    replace hF := hR _ _ hF h₁
    clear h₁
    rw [stepG_region_end]
    simp only [goes_go]
    refine ⟨d0_none (by intro e he; simp at he), ?_⟩
    refine Goes.step rfl (fun _ h₁ => ?_)
    replace hF := hR _ _ hF h₁
    clear h₁
    rw [stepG_cond (t := false) rfl]
    simp only [goes_go, if_true, if_false, Bool.false_eq_true, ↓reduceIte]
    refine ⟨d0_none (by intro e he; simp at he), ?_⟩
    refine Goes.step rfl (fun _ h₁ => ?_)
    replace hF := hR _ _ hF h₁
    clear h₁
    rw [stepG_skip]
    simp only [goes_go]
    refine ⟨d0_none (by intro e he; simp at he), ?_⟩
    refine Goes.step rfl (fun _ h₁ => ?_)
    replace hF := hR _ _ hF h₁
    clear h₁
    rw [stepG_seq]
    simp only [goes_go]
    refine ⟨d0_none (by intro e he; simp at he), ?_⟩
    refine Goes.step rfl (fun _ h₁ => ?_)
    replace hF := hR _ _ hF h₁
    clear h₁
    rw [stepG_seq]
    simp only [goes_go]
    refine ⟨d0_none (by intro e he; simp at he), ?_⟩
    refine Goes.step rfl (fun _ h₁ => ?_)
    replace hF := hR _ _ hF h₁
    clear h₁
    rw [stepG_region]
    simp only [goes_go, List.size_toArray, List.length_cons, List.length_nil, Nat.reduceAdd, Nat.zero_add, List.range, List.range.loop]
    refine ⟨d0_none (by intro e he; simp at he), ?_⟩
    refine Goes.step rfl (fun _ h₁ => ?_)
    replace hF := hR _ _ hF h₁
    clear h₁
    refine goes_oper_k rfl rfl (by k_ne) (fun K hK => ?_)
    go_simp
    refine hK _ _ ⟨?_, ?_⟩
    · refine d0_none ?_
      intro e he
      have hm := mem_listed he
      simp [go_sem, *] at hm
    clear hK K
    try w_num
    refine Goes.step rfl (fun _ h₁ => ?_)
    replace hF := hR _ _ hF h₁
    clear h₁
    refine goes_oper_k rfl rfl (by k_ne) (fun K hK => ?_)
    go_simp
    refine hK _ _ ⟨?_, ?_⟩
    · refine d0_none ?_
      intro e he
      have hm := mem_listed he
      simp [go_sem, *] at hm
    clear hK K
    try w_num
    refine Goes.step rfl (fun _ h₁ => ?_)
    replace hF := hR _ _ hF h₁
    clear h₁
    refine goes_oper_k rfl rfl (by k_ne) (fun K hK => ?_)
    go_simp
    refine hK _ _ ⟨?_, ?_⟩
    · refine d0_none ?_
      intro e he
      have hm := mem_listed he
      simp [go_sem, *] at hm
    clear hK K
    try w_num
    refine Goes.step rfl (fun _ h₁ => ?_)
    replace hF := hR _ _ hF h₁
    clear h₁
    rw [stepG_unwanted rfl rfl]
    simp only [goes_go]
    refine ⟨d0_none (by intro e he; simp at he), ?_⟩
    walk_nrm
    refine Goes.step rfl (fun _ h₁ => ?_)
    replace hF := hR _ _ hF h₁
    clear h₁
    rw [stepG_unwanted rfl rfl]
    simp only [goes_go]
    refine ⟨d0_none (by intro e he; simp at he), ?_⟩
    walk_nrm
    refine Goes.step rfl (fun _ h₁ => ?_)
    replace hF := hR _ _ hF h₁
    clear h₁
    refine goes_oper_k rfl rfl (by k_ne) (fun K hK => ?_)
    go_simp
    refine hK _ _ ⟨?_, ?_⟩
    · refine d0_none ?_
      intro e he
      have hm := mem_listed he
      simp [go_sem, *] at hm
    clear hK K
    try w_num
    refine Goes.step rfl (fun _ h₁ => ?_)
    replace hF := hR _ _ hF h₁
    clear h₁
    refine goes_oper_k rfl rfl (by k_ne) (fun K hK => ?_)
    go_simp
    refine hK _ _ ⟨?_, ?_⟩
    · refine d0_none ?_
      intro e he
      have hm := mem_listed he
      simp [go_sem, *] at hm
    clear hK K
    try w_num
    refine Goes.step rfl (fun _ h₁ => ?_)
    replace hF := hR _ _ hF h₁
    clear h₁
    rw [stepG_unwanted rfl rfl]
    simp only [goes_go]
    refine ⟨d0_none (by intro e he; simp at he), ?_⟩
    walk_nrm
    refine Goes.step rfl (fun _ h₁ => ?_)
    replace hF := hR _ _ hF h₁
    clear h₁
    rw [stepG_unwanted rfl rfl]
    simp only [goes_go]
    refine ⟨d0_none (by intro e he; simp at he), ?_⟩
    walk_nrm
    refine Goes.step rfl (fun _ h₁ => ?_)
    replace hF := hR _ _ hF h₁
    clear h₁
    rw [stepG_unwanted rfl rfl]
    simp only [goes_go]
    refine ⟨d0_none (by intro e he; simp at he), ?_⟩
    walk_nrm
    refine Goes.step rfl (fun _ h₁ => ?_)
    replace hF := hR _ _ hF h₁
    clear h₁
    rw [stepG_unwanted rfl rfl]
    simp only [goes_go]
    refine ⟨d0_none (by intro e he; simp at he), ?_⟩
    walk_nrm
    refine Goes.step rfl (fun _ h₁ => ?_)
    replace hF := hR _ _ hF h₁
    clear h₁
    refine goes_oper_k rfl rfl (by k_ne) (fun K hK => ?_)
    go_simp
    refine hK _ _ ⟨?_, ?_⟩
    · refine d0_none ?_
      intro e he
      have hm := mem_listed he
      simp [go_sem, *] at hm
    clear hK K
    try w_num
    refine Goes.step rfl (fun _ h₁ => ?_)
    replace hF := hR _ _ hF h₁
    clear h₁
    rw [stepG_region_end]
    simp only [goes_go]
    refine ⟨d0_none (by intro e he; simp at he), ?_⟩
    refine Goes.step rfl (fun _ h₁ => ?_)
    replace hF := hR _ _ hF h₁
    clear h₁
    rw [stepG_cond (t := false) rfl]
    simp only [goes_go, if_true, if_false, Bool.false_eq_true, ↓reduceIte]
    refine ⟨d0_none (by intro e he; simp at he), ?_⟩
    refine Goes.step rfl (fun _ h₁ => ?_)
    replace hF := hR _ _ hF h₁
    clear h₁
    rw [stepG_skip]
    simp only [goes_go]
    refine ⟨d0_none (by intro e he; simp at he), ?_⟩
    refine Goes.step rfl (fun _ h₁ => ?_)
    replace hF := hR _ _ hF h₁
    clear h₁
    rw [stepG_seq]
    simp only [goes_go]
    refine ⟨d0_none (by intro e he; simp at he), ?_⟩
    refine Goes.step rfl (fun _ h₁ => ?_)
    replace hF := hR _ _ hF h₁
    clear h₁
    rw [stepG_seq]
    simp only [goes_go]
    refine ⟨d0_none (by intro e he; simp at he), ?_⟩
    refine Goes.step rfl (fun _ h₁ => ?_)
    replace hF := hR _ _ hF h₁
    clear h₁
    rw [stepG_region]
    simp only [goes_go, List.size_toArray, List.length_cons, List.length_nil, Nat.reduceAdd, Nat.zero_add, List.range, List.range.loop]
    refine ⟨d0_none (by intro e he; simp at he), ?_⟩
    refine Goes.step rfl (fun _ h₁ => ?_)
    replace hF := hR _ _ hF h₁
    clear h₁
    refine goes_oper_k rfl rfl (by k_ne) (fun K hK => ?_)
    go_simp
    refine hK _ _ ⟨?_, ?_⟩
    · refine d0_none ?_
      intro e he
      have hm := mem_listed he
      simp [go_sem, *] at hm
    clear hK K
    try w_num
    refine Goes.step rfl (fun _ h₁ => ?_)
    replace hF := hR _ _ hF h₁
    clear h₁
    refine goes_oper_k rfl rfl (by k_ne) (fun K hK => ?_)
    go_simp
    refine hK _ _ ⟨?_, ?_⟩
    · refine d0_none ?_
      intro e he
      have hm := mem_listed he
      simp [go_sem, *] at hm
    clear hK K
    try w_num
    refine Goes.step rfl (fun _ h₁ => ?_)
    replace hF := hR _ _ hF h₁
    clear h₁
    refine goes_oper_k rfl rfl (by k_ne) (fun K hK => ?_)
    go_simp
    refine hK _ _ ⟨?_, ?_⟩
    · refine d0_none ?_
      intro e he
      have hm := mem_listed he
      simp [go_sem, *] at hm
    clear hK K
    try w_num
    refine Goes.step rfl (fun _ h₁ => ?_)
    replace hF := hR _ _ hF h₁
    clear h₁
    rw [stepG_unwanted rfl rfl]
    simp only [goes_go]
    refine ⟨d0_none (by intro e he; simp at he), ?_⟩
    walk_nrm
    refine Goes.step rfl (fun _ h₁ => ?_)
    replace hF := hR _ _ hF h₁
    clear h₁
    rw [stepG_unwanted rfl rfl]
    simp only [goes_go]
    refine ⟨d0_none (by intro e he; simp at he), ?_⟩
    walk_nrm
    refine Goes.step rfl (fun _ h₁ => ?_)
    replace hF := hR _ _ hF h₁
    clear h₁
    refine goes_oper_k rfl rfl (by k_ne) (fun K hK => ?_)
    go_simp
    refine hK _ _ ⟨?_, ?_⟩
    · refine d0_none ?_
      intro e he
      have hm := mem_listed he
      simp [go_sem, *] at hm
    clear hK K
    try w_num
    refine Goes.step rfl (fun _ h₁ => ?_)
    replace hF := hR _ _ hF h₁
    clear h₁
    rw [stepG_region_end]
    simp only [goes_go]
    refine ⟨d0_none (by intro e he; simp at he), ?_⟩
    refine Goes.step rfl (fun _ h₁ => ?_)
    replace hF := hR _ _ hF h₁
    clear h₁
    rw [stepG_cond (t := true) rfl]
    simp only [goes_go, if_true, if_false, Bool.false_eq_true, ↓reduceIte]
    refine ⟨d0_none (by intro e he; simp at he), ?_⟩
    refine Goes.step rfl (fun _ h₁ => ?_)
    replace hF := hR _ _ hF h₁
    clear h₁
    rw [stepG_ret']
    simp only [goes_go]
    refine ⟨d0_none (by intro e he; simp at he), ?_⟩
    refine Goes.stop (fun w₃ h₃ => ?_)
    replace hF := hR _ _ hF h₃
    clear h₃
    refine ⟨rfl, _, stepG_unwind_entry (v := .tuple #[]) (evs := #[mk .enable]) rfl H.f_enable (x_enable_n L) (x_enable_b L) (x_enable_x L) (x_enable_f L) (by simp [Extern.Race.none_]) (by simp [mk]) (by simp [mk]), 1 + mT, GoesO.of_then (F := F) hT ?_⟩
    refine Goes.step rfl (fun _ h₁ => ?_)
    replace hF := hR _ _ hF h₁
    clear h₁
    refine goes_leave0 rfl rfl H.f_add rfl ⟨d0_none (by intro e he; simp at he), ?_⟩
    walk_nrm
    exact Goes.stop fun w₄ h₄ => ⟨rfl, hR _ _ hF h₄⟩
  · obtain ⟨V, hV⟩ : ∃ V : Int, V = (v : Int) + 1 := ⟨_, rfl⟩
    obtain ⟨T, hT2⟩ : ∃ T : Int, T = V * KK := ⟨_, rfl⟩
    have eS : IntKind.u64.wrap ((v : Int) * KK + 4294967296) = T := by rw [IntKind.wrap_u64, hT2, hV]; simp only [KK]; omega
    rw [← hV, ← hT2]
    have a1 : T / 4294967296 = V := by rw [hT2]; simp only [KK]; omega
    have b1 : bits .and .u64 T 2147483648 = 0 := by rw [hT2, hV]; have := Go.ConcN.st_flag (v + 1) 0 (by omega) (by omega); simpa [KK] using this
    have b2 : bits .and .u64 T 2147483647 = 0 := by rw [hT2, hV]; have := Go.ConcN.st_waiters (v + 1) 0 (by omega) (by omega); simpa [KK] using this
    have c1 : IntKind.i32.wrap V = V := by rw [IntKind.wrap_i32]; omega
    have hV1 : 1 < V := by omega
    have hV2 : V < 2147483648 := by omega
    have q1 : (V == 1) = false := by simp; omega
    have q2 : decide (V = 1) = false := decide_eq_false (by omega)
    have q3 : decide (V < 0) = false := decide_eq_false (by omega)
    have q4 : decide (0 < V) = true := decide_eq_true (by omega)
    have q5 : (V == 0) = false := by simp; omega
    have q6 : decide (V = 0) = false := decide_eq_false (by omega)
    refine ⟨_, (stepG_add_atomic rfl rfl (by k_ne) rfl H.f_addU64 (x_addU64_n L) (x_addU64_b L) (x_addU64_x L) .u64 (x_addU64_f L) rfl rfl hw.cellSt (hw.thaw 0)).trans (by rw [eS]; rfl), 110, GoesO.of ?_⟩
    replace hF : F (w₂.setCell (stA Wg) (.int .u64 T)) := hS _ _ hF ⟨_, _, hw.setSt _⟩
    clear hw hT2 hV eS
    walk_nrm
    refine Goes.step rfl (fun _ h₁ => ?_)
    replace hF := hR _ _ hF h₁
    clear h₁
    refine goes_oper_k rfl rfl (by k_ne) (fun K hK => ?_)
    go_simp
    refine hK _ _ ⟨?_, ?_⟩
    · refine d0_none ?_
      intro e he
      have hm := mem_listed he
      simp [go_sem, *] at hm
    clear hK K
    try w_num
    refine Goes.step rfl (fun _ h₁ => ?_)
    replace hF := hR _ _ hF h₁
    clear h₁
    rw [stepG_region_end]
    simp only [goes_go]
    refine ⟨d0_none (by intro e he; simp at he), ?_⟩
    refine Goes.step rfl (fun _ h₁ => ?_)
    replace hF := hR _ _ hF h₁
    clear h₁
    rw [stepG_ret']
    simp only [goes_go]
    refine ⟨d0_none (by intro e he; simp at he), ?_⟩
    refine Goes.step rfl (fun _ h₁ => ?_)
    replace hF := hR _ _ hF h₁
    clear h₁
    refine goes_leave1 rfl rfl H.f_uAdd rfl ⟨d0_none (by intro e he; simp at he), ?_⟩
    walk_nrm
    refine Goes.step rfl (fun _ h₁ => ?_)
    replace hF := hR _ _ hF h₁
    clear h₁
    refine goes_oper_k rfl rfl (by k_ne) (fun K hK => ?_)
    go_simp
    refine hK _ _ ⟨?_, ?_⟩
    · refine d0_none ?_
      intro e he
      have hm := mem_listed he
      simp [go_sem, *] at hm
    clear hK K
    try w_num
    refine Goes.step rfl (fun _ h₁ => ?_)
    replace hF := hR _ _ hF h₁
    clear h₁
    rw [stepG_region_end]
    simp only [goes_go]
    refine ⟨d0_none (by intro e he; simp at he), ?_⟩
    refine Goes.step rfl (fun _ h₁ => ?_)
    replace hF := hR _ _ hF h₁
    clear h₁
    rw [stepG_seq]
    simp only [goes_go]
    refine ⟨d0_none (by intro e he; simp at he), ?_⟩
    refine Goes.step rfl (fun _ h₁ => ?_)
    replace hF := hR _ _ hF h₁
    clear h₁
    rw [stepG_seq]
    simp only [goes_go]
    refine ⟨d0_none (by intro e he; simp at he), ?_⟩
    refine Goes.step rfl (fun _ h₁ => ?_)
    replace hF := hR _ _ hF h₁
    clear h₁
    rw [stepG_region]
    simp only [goes_go, List.size_toArray, List.length_cons, List.length_nil, Nat.reduceAdd, Nat.zero_add, List.range, List.range.loop]
    refine ⟨d0_none (by intro e he; simp at he), ?_⟩
    refine Goes.step rfl (fun _ h₁ => ?_)
    replace hF := hR _ _ hF h₁
    clear h₁
    refine goes_oper_k rfl rfl (by k_ne) (fun K hK => ?_)
    go_simp
    refine hK _ _ ⟨?_, ?_⟩
    · refine d0_none ?_
      intro e he
      have hm := mem_listed he
      simp [go_sem, *] at hm
    clear hK K
    try w_num
    refine Goes.step rfl (fun _ h₁ => ?_)
    replace hF := hR _ _ hF h₁
    clear h₁
    refine goes_oper_k rfl rfl (by k_ne) (fun K hK => ?_)
    go_simp
    refine hK _ _ ⟨?_, ?_⟩
    · refine d0_none ?_
      intro e he
      have hm := mem_listed he
      simp [go_sem, *] at hm
    clear hK K
    try w_num
    refine Goes.step rfl (fun _ h₁ => ?_)
    replace hF := hR _ _ hF h₁
    clear h₁
    refine goes_oper_k rfl rfl (by k_ne) (fun K hK => ?_)
    go_simp
    refine hK _ _ ⟨?_, ?_⟩
    · refine d0_none ?_
      intro e he
      have hm := mem_listed he
      simp [go_sem, *] at hm
    clear hK K
    try w_num
    refine Goes.step rfl (fun _ h₁ => ?_)
    replace hF := hR _ _ hF h₁
    clear h₁
    refine goes_oper_k rfl rfl (by k_ne) (fun K hK => ?_)
    go_simp
    refine hK _ _ ⟨?_, ?_⟩
    · refine d0_none ?_
      intro e he
      have hm := mem_listed he
      simp [go_sem, *] at hm
    clear hK K
    try w_num
    refine Goes.step rfl (fun _ h₁ => ?_)
    replace hF := hR _ _ hF h₁
    clear h₁
    rw [stepG_unwanted rfl rfl]
    simp only [goes_go]
    refine ⟨d0_none (by intro e he; simp at he), ?_⟩
    walk_nrm
    refine Goes.step rfl (fun _ h₁ => ?_)
    replace hF := hR _ _ hF h₁
    clear h₁
    rw [stepG_unwanted rfl rfl]
    simp only [goes_go]
    refine ⟨d0_none (by intro e he; simp at he), ?_⟩
    walk_nrm
    refine Goes.step rfl (fun _ h₁ => ?_)
    replace hF := hR _ _ hF h₁
    clear h₁
    refine goes_oper_k rfl rfl (by k_ne) (fun K hK => ?_)
    go_simp
    refine hK _ _ ⟨?_, ?_⟩
    · refine d0_none ?_
      intro e he
      have hm := mem_listed he
      simp [go_sem, *] at hm
    clear hK K
    try w_num
    refine Goes.step rfl (fun _ h₁ => ?_)
    replace hF := hR _ _ hF h₁
    clear h₁
    rw [stepG_region_end]
    simp only [goes_go]
    refine ⟨d0_none (by intro e he; simp at he), ?_⟩
    refine Goes.step rfl (fun _ h₁ => ?_)
    replace hF := hR _ _ hF h₁
    clear h₁
    rw [stepG_cond (t := false) (by first | rfl | (simp [Act.eval]; omega))]
    simp only [goes_go, if_true, if_false, Bool.false_eq_true, ↓reduceIte]
    refine ⟨d0_none (by intro e he; simp at he), ?_⟩
    refine Goes.step rfl (fun _ h₁ => ?_)
    replace hF := hR _ _ hF h₁
    clear h₁
    rw [stepG_skip]
    simp only [goes_go]
    refine ⟨d0_none (by intro e he; simp at he), ?_⟩
    refine Goes.step rfl (fun _ h₁ => ?_)
    replace hF := hR _ _ hF h₁
    clear h₁
    rw [stepG_seq]
    simp only [goes_go]
    refine ⟨d0_none (by intro e he; simp at he), ?_⟩
    refine Goes.step rfl (fun _ h₁ => ?_)
    replace hF := hR _ _ hF h₁
    clear h₁
    rw [stepG_region]
    simp only [goes_go, List.size_toArray, List.length_cons, List.length_nil, Nat.reduceAdd, Nat.zero_add, List.range, List.range.loop]
    refine ⟨d0_none (by intro e he; simp at he), ?_⟩
    refine Goes.step rfl (fun _ h₁ => ?_)
    replace hF := hR _ _ hF h₁
    clear h₁
    refine goes_oper_k rfl rfl (by k_ne) (fun K hK => ?_)
    go_simp
    refine hK _ _ ⟨?_, ?_⟩
    · refine d0_none ?_
      intro e he
      have hm := mem_listed he
      simp [go_sem, *] at hm
    clear hK K
    try w_num
    refine Goes.step rfl (fun _ h₁ => ?_)
    replace hF := hR _ _ hF h₁
    clear h₁
    refine goes_oper_k rfl rfl (by k_ne) (fun K hK => ?_)
    go_simp
    refine hK _ _ ⟨?_, ?_⟩
    · refine d0_none ?_
      intro e he
      have hm := mem_listed he
      simp [go_sem, *] at hm
    clear hK K
    try w_num
    refine Goes.step rfl (fun _ h₁ => ?_)
    replace hF := hR _ _ hF h₁
    clear h₁
    refine goes_oper_k rfl rfl (by k_ne) (fun K hK => ?_)
    go_simp
    refine hK _ _ ⟨?_, ?_⟩
    · refine d0_none ?_
      intro e he
      have hm := mem_listed he
      simp [go_sem, *] at hm
    clear hK K
    try w_num
    refine Goes.step rfl (fun _ h₁ => ?_)
    replace hF := hR _ _ hF h₁
    clear h₁
    refine goes_oper_k rfl rfl (by k_ne) (fun K hK => ?_)
    go_simp
    refine hK _ _ ⟨?_, ?_⟩
    · refine d0_none ?_
      intro e he
      have hm := mem_listed he
      simp [go_sem, *] at hm
    clear hK K
    try w_num
    refine Goes.step rfl (fun _ h₁ => ?_)
    replace hF := hR _ _ hF h₁
    clear h₁
    rw [stepG_region_end]
    simp only [goes_go]
    refine ⟨d0_none (by intro e he; simp at he), ?_⟩
    refine Goes.step rfl (fun _ h₁ => ?_)
    replace hF := hR _ _ hF h₁
    clear h₁
    rw [stepG_seq]
    simp only [goes_go]
    refine ⟨d0_none (by intro e he; simp at he), ?_⟩
    refine Goes.step rfl (fun _ h₁ => ?_)
    replace hF := hR _ _ hF h₁
    clear h₁
    rw [stepG_region]
    simp only [goes_go, List.size_toArray, List.length_cons, List.length_nil, Nat.reduceAdd, Nat.zero_add, List.range, List.range.loop]
    refine ⟨d0_none (by intro e he; simp at he), ?_⟩
    refine Goes.step rfl (fun _ h₁ => ?_)
    replace hF := hR _ _ hF h₁
    clear h₁
    refine goes_oper_k rfl rfl (by k_ne) (fun K hK => ?_)
    go_simp
    refine hK _ _ ⟨?_, ?_⟩
    · refine d0_none ?_
      intro e he
      have hm := mem_listed he
      simp [go_sem, *] at hm
    clear hK K
    try w_num
    refine Goes.step rfl (fun _ h₁ => ?_)
    replace hF := hR _ _ hF h₁
    clear h₁
    refine goes_oper_k rfl rfl (by k_ne) (fun K hK => ?_)
    go_simp
    refine hK _ _ ⟨?_, ?_⟩
    · refine d0_none ?_
      intro e he
      have hm := mem_listed he
      simp [go_sem, *] at hm
    clear hK K
    try w_num
    refine Goes.step rfl (fun _ h₁ => ?_)
    replace hF := hR _ _ hF h₁
    clear h₁
    refine goes_oper_k rfl rfl (by k_ne) (fun K hK => ?_)
    go_simp
    refine hK _ _ ⟨?_, ?_⟩
    · refine d0_none ?_
      intro e he
      have hm := mem_listed he
      simp [go_sem, *] at hm
    clear hK K
    try w_num
    refine Goes.step rfl (fun _ h₁ => ?_)
    replace hF := hR _ _ hF h₁
    clear h₁
    refine goes_oper_k rfl rfl (by k_ne) (fun K hK => ?_)
    go_simp
    refine hK _ _ ⟨?_, ?_⟩
    · refine d0_none ?_
      intro e he
      have hm := mem_listed he
      simp [go_sem, *] at hm
    clear hK K
    try w_num
    refine Goes.step rfl (fun _ h₁ => ?_)
    replace hF := hR _ _ hF h₁
    clear h₁
    rw [stepG_region_end]
    simp only [goes_go]
    refine ⟨d0_none (by intro e he; simp at he), ?_⟩
    refine Goes.step rfl (fun _ h₁ => ?_)
    replace hF := hR _ _ hF h₁
    clear h₁
    rw [stepG_seq]
    simp only [goes_go]
    refine ⟨d0_none (by intro e he; simp at he), ?_⟩
    refine Goes.step rfl (fun _ h₁ => ?_)
    replace hF := hR _ _ hF h₁
    clear h₁
    rw [stepG_seq]
    simp only [goes_go]
    refine ⟨d0_none (by intro e he; simp at he), ?_⟩
    refine Goes.step rfl (fun _ h₁ => ?_)
    replace hF := hR _ _ hF h₁
    clear h₁
    rw [stepG_region]
    simp only [goes_go, List.size_toArray, List.length_cons, List.length_nil, Nat.reduceAdd, Nat.zero_add, List.range, List.range.loop]
    refine ⟨d0_none (by intro e he; simp at he), ?_⟩
    refine Goes.step rfl (fun _ h₁ => ?_)
    replace hF := hR _ _ hF h₁
    clear h₁
    refine goes_oper_k rfl rfl (by k_ne) (fun K hK => ?_)
    go_simp
    refine hK _ _ ⟨?_, ?_⟩
    · refine d0_none ?_
      intro e he
      have hm := mem_listed he
      simp [go_sem, *] at hm
    clear hK K
    try w_num
    refine Goes.step rfl (fun _ h₁ => ?_)
    replace hF := hR _ _ hF h₁
    clear h₁
    refine goes_oper_k rfl rfl (by k_ne) (fun K hK => ?_)
    go_simp
    refine hK _ _ ⟨?_, ?_⟩
    · refine d0_none ?_
      intro e he
      have hm := mem_listed he
      simp [go_sem, *] at hm
    clear hK K
    try w_num
    refine Goes.step rfl (fun _ h₁ => ?_)
    replace hF := hR _ _ hF h₁
    clear h₁
    refine goes_oper_k rfl rfl (by k_ne) (fun K hK => ?_)
    go_simp
    refine hK _ _ ⟨?_, ?_⟩
    · refine d0_none ?_
      intro e he
      have hm := mem_listed he
      simp [go_sem, *] at hm
    clear hK K
    try w_num
    refine Goes.step rfl (fun _ h₁ => ?_)
    replace hF := hR _ _ hF h₁
    clear h₁
    refine goes_oper_k rfl rfl (by k_ne) (fun K hK => ?_)
    go_simp
    refine hK _ _ ⟨?_, ?_⟩
    · refine d0_none ?_
      intro e he
      have hm := mem_listed he
      simp [go_sem, *] at hm
    clear hK K
    try w_num
    refine Goes.step rfl (fun _ h₁ => ?_)
    replace hF := hR _ _ hF h₁
    clear h₁
    refine goes_oper_k rfl rfl (by k_ne) (fun K hK => ?_)
    go_simp
    refine hK _ _ ⟨?_, ?_⟩
    · refine d0_none ?_
      intro e he
      have hm := mem_listed he
      simp [go_sem, *] at hm
    clear hK K
    try w_num
    refine Goes.step rfl (fun _ h₁ => ?_)
    replace hF := hR _ _ hF h₁
    clear h₁
    refine goes_oper_k rfl rfl (by k_ne) (fun K hK => ?_)
    go_simp
    refine hK _ _ ⟨?_, ?_⟩
    · refine d0_none ?_
      intro e he
      have hm := mem_listed he
      simp [go_sem, *] at hm
    clear hK K
    try w_num
    refine Goes.step rfl (fun _ h₁ => ?_)
    replace hF := hR _ _ hF h₁
    clear h₁
    refine goes_oper_k rfl rfl (by k_ne) (fun K hK => ?_)
    go_simp
    refine hK _ _ ⟨?_, ?_⟩
    · refine d0_none ?_
      intro e he
      have hm := mem_listed he
      simp [go_sem, *] at hm
    clear hK K
    try w_num
    refine Goes.step rfl (fun _ h₁ => ?_)
    replace hF := hR _ _ hF h₁
    clear h₁
    refine goes_oper_k rfl rfl (by k_ne) (fun K hK => ?_)
    go_simp
    refine hK _ _ ⟨?_, ?_⟩
    · refine d0_none ?_
      intro e he
      have hm := mem_listed he
      simp [go_sem, *] at hm
    clear hK K
    try w_num
    refine Goes.step rfl (fun _ h₁ => ?_)
    replace hF := hR _ _ hF h₁
    clear h₁
    refine goes_oper_k rfl rfl (by k_ne) (fun K hK => ?_)
    go_simp
    refine hK _ _ ⟨?_, ?_⟩
    · refine d0_none ?_
      intro e he
      have hm := mem_listed he
      simp [go_sem, *] at hm
    clear hK K
    try w_num
    refine Goes.step rfl (fun _ h₁ => ?_)
    replace hF := hR _ _ hF h₁
    clear h₁
    refine goes_oper_k rfl rfl (by k_ne) (fun K hK => ?_)
    go_simp
    refine hK _ _ ⟨?_, ?_⟩
    · refine d0_none ?_
      intro e he
      have hm := mem_listed he
      simp [go_sem, *] at hm
    clear hK K
    try w_num
    refine Goes.step rfl (fun _ h₁ => ?_)
    replace hF := hR _ _ hF h₁
    clear h₁
    rw [stepG_region_end]
    simp only [goes_go]
    refine ⟨d0_none (by intro e he; simp at he), ?_⟩
    refine Goes.step rfl (fun _ h₁ => ?_)
    replace hF := hR _ _ hF h₁
    clear h₁
    rw [stepG_cond (t := false) (by first | rfl | (simp [Act.eval]; omega))]
    simp only [goes_go, if_true, if_false, Bool.false_eq_true, ↓reduceIte]
    refine ⟨d0_none (by intro e he; simp at he), ?_⟩
    refine Goes.step rfl (fun _ h₁ => ?_)
    replace hF := hR _ _ hF h₁
    clear h₁
    rw [stepG_skip]
    simp only [goes_go]
    refine ⟨d0_none (by intro e he; simp at he), ?_⟩
    refine Goes.step rfl (fun _ h₁ => ?_)
    replace hF := hR _ _ hF h₁
    clear h₁
    rw [stepG_seq]
    simp only [goes_go]
    refine ⟨d0_none (by intro e he; simp at he), ?_⟩
    refine Goes.step rfl (fun _ h₁ => ?_)
    replace hF := hR _ _ hF h₁
    clear h₁
    rw [stepG_seq]
    simp only [goes_go]
    refine ⟨d0_none (by intro e he; simp at he), ?_⟩
    refine Goes.step rfl (fun _ h₁ => ?_)
    replace hF := hR _ _ hF h₁
    clear h₁
    rw [stepG_region]
    simp only [goes_go, List.size_toArray, List.length_cons, List.length_nil, Nat.reduceAdd, Nat.zero_add, List.range, List.range.loop]
    refine ⟨d0_none (by intro e he; simp at he), ?_⟩
    refine Goes.step rfl (fun _ h₁ => ?_)
    replace hF := hR _ _ hF h₁
    clear h₁
    refine goes_oper_k rfl rfl (by k_ne) (fun K hK => ?_)
    go_simp
    refine hK _ _ ⟨?_, ?_⟩
    · refine d0_none ?_
      intro e he
      have hm := mem_listed he
      simp [go_sem, *] at hm
    clear hK K
    try w_num
    refine Goes.step rfl (fun _ h₁ => ?_)
    replace hF := hR _ _ hF h₁
    clear h₁
    refine goes_oper_k rfl rfl (by k_ne) (fun K hK => ?_)
    go_simp
    refine hK _ _ ⟨?_, ?_⟩
    · refine d0_none ?_
      intro e he
      have hm := mem_listed he
      simp [go_sem, *] at hm
    clear hK K
    try w_num
    refine Goes.step rfl (fun _ h₁ => ?_)
    replace hF := hR _ _ hF h₁
    clear h₁
    rw [stepG_region_end]
    simp only [goes_go]
    refine ⟨d0_none (by intro e he; simp at he), ?_⟩
    refine Goes.step rfl (fun _ h₁ => ?_)
    replace hF := hR _ _ hF h₁
    clear h₁
    rw [stepG_cond (t := false) (by first | rfl | (simp [Act.eval]; omega))]
    simp only [goes_go, if_true, if_false, Bool.false_eq_true, ↓reduceIte]
    refine ⟨d0_none (by intro e he; simp at he), ?_⟩
    refine Goes.step rfl (fun _ h₁ => ?_)
    replace hF := hR _ _ hF h₁
    clear h₁
    rw [stepG_skip]
    simp only [goes_go]
    refine ⟨d0_none (by intro e he; simp at he), ?_⟩
    refine Goes.step rfl (fun _ h₁ => ?_)
    replace hF := hR _ _ hF h₁
    clear h₁
    rw [stepG_seq]
    simp only [goes_go]
    refine ⟨d0_none (by intro e he; simp at he), ?_⟩
    refine Goes.step rfl (fun _ h₁ => ?_)
    replace hF := hR _ _ hF h₁
    clear h₁
    rw [stepG_seq]
    simp only [goes_go]
    refine ⟨d0_none (by intro e he; simp at he), ?_⟩
    refine Goes.step rfl (fun _ h₁ => ?_)
    replace hF := hR _ _ hF h₁
    clear h₁
    rw [stepG_region]
    simp only [goes_go, List.size_toArray, List.length_cons, List.length_nil, Nat.reduceAdd, Nat.zero_add, List.range, List.range.loop]
    refine ⟨d0_none (by intro e he; simp at he), ?_⟩
    refine Goes.step rfl (fun _ h₁ => ?_)
    replace hF := hR _ _ hF h₁
    clear h₁
    refine goes_oper_k rfl rfl (by k_ne) (fun K hK => ?_)
    go_simp
    refine hK _ _ ⟨?_, ?_⟩
    · refine d0_none ?_
      intro e he
      have hm := mem_listed he
      simp [go_sem, *] at hm
    clear hK K
    try w_num
    refine Goes.step rfl (fun _ h₁ => ?_)
    replace hF := hR _ _ hF h₁
    clear h₁
    refine goes_oper_k rfl rfl (by k_ne) (fun K hK => ?_)
    go_simp
    refine hK _ _ ⟨?_, ?_⟩
    · refine d0_none ?_
      intro e he
      have hm := mem_listed he
      simp [go_sem, *] at hm
    clear hK K
    try w_num
    refine Goes.step rfl (fun _ h₁ => ?_)
    replace hF := hR _ _ hF h₁
    clear h₁
    refine goes_oper_k rfl rfl (by k_ne) (fun K hK => ?_)
    go_simp
    refine hK _ _ ⟨?_, ?_⟩
    · refine d0_none ?_
      intro e he
      have hm := mem_listed he
      simp [go_sem, *] at hm
    clear hK K
    try w_num
    refine Goes.step rfl (fun _ h₁ => ?_)
    replace hF := hR _ _ hF h₁
    clear h₁
    rw [stepG_unwanted rfl rfl]
    simp only [goes_go]
    refine ⟨d0_none (by intro e he; simp at he), ?_⟩
    walk_nrm
    refine Goes.step rfl (fun _ h₁ => ?_)
    replace hF := hR _ _ hF h₁
    clear h₁
    rw [stepG_unwanted rfl rfl]
    simp only [goes_go]
    refine ⟨d0_none (by intro e he; simp at he), ?_⟩
    walk_nrm
    refine Goes.step rfl (fun _ h₁ => ?_)
    replace hF := hR _ _ hF h₁
    clear h₁
    refine goes_oper_k rfl rfl (by k_ne) (fun K hK => ?_)
    go_simp
    refine hK _ _ ⟨?_, ?_⟩
    · refine d0_none ?_
      intro e he
      have hm := mem_listed he
      simp [go_sem, *] at hm
    clear hK K
    try w_num
    refine Goes.step rfl (fun _ h₁ => ?_)
    replace hF := hR _ _ hF h₁
    clear h₁
    refine goes_oper_k rfl rfl (by k_ne) (fun K hK => ?_)
    go_simp
    refine hK _ _ ⟨?_, ?_⟩
    · refine d0_none ?_
      intro e he
      have hm := mem_listed he
      simp [go_sem, *] at hm
    clear hK K
    try w_num
    refine Goes.step rfl (fun _ h₁ => ?_)
    replace hF := hR _ _ hF h₁
    clear h₁
    rw [stepG_unwanted rfl rfl]
    simp only [goes_go]
    refine ⟨d0_none (by intro e he; simp at he), ?_⟩
    walk_nrm
    refine Goes.step rfl (fun _ h₁ => ?_)
    replace hF := hR _ _ hF h₁
    clear h₁
    rw [stepG_unwanted rfl rfl]
    simp only [goes_go]
    refine ⟨d0_none (by intro e he; simp at he), ?_⟩
    walk_nrm
    refine Goes.step rfl (fun _ h₁ => ?_)
    replace hF := hR _ _ hF h₁
    clear h₁
    rw [stepG_unwanted rfl rfl]
    simp only [goes_go]
    refine ⟨d0_none (by intro e he; simp at he), ?_⟩
    walk_nrm
    refine Goes.step rfl (fun _ h₁ => ?_)
    replace hF := hR _ _ hF h₁
    clear h₁
    rw [stepG_unwanted rfl rfl]
    simp only [goes_go]
    refine ⟨d0_none (by intro e he; simp at he), ?_⟩
    walk_nrm
    refine Goes.step rfl (fun _ h₁ => ?_)
    replace hF := hR _ _ hF h₁
    clear h₁
    refine goes_oper_k rfl rfl (by k_ne) (fun K hK => ?_)
    go_simp
    refine hK _ _ ⟨?_, ?_⟩
    · refine d0_none ?_
      intro e he
      have hm := mem_listed he
      simp [go_sem, *] at hm
    clear hK K
    try w_num
    refine Goes.step rfl (fun _ h₁ => ?_)
    replace hF := hR _ _ hF h₁
    clear h₁
    rw [stepG_region_end]
    simp only [goes_go]
    refine ⟨d0_none (by intro e he; simp at he), ?_⟩
    refine Goes.step rfl (fun _ h₁ => ?_)
    replace hF := hR _ _ hF h₁
    clear h₁
    rw [stepG_cond (t := false) (by first | rfl | (simp [Act.eval]; omega))]
    simp only [goes_go, if_true, if_false, Bool.false_eq_true, ↓reduceIte]
    refine ⟨d0_none (by intro e he; simp at he), ?_⟩
    refine Goes.step rfl (fun _ h₁ => ?_)
    replace hF := hR _ _ hF h₁
    clear h₁
    rw [stepG_skip]
    simp only [goes_go]
    refine ⟨d0_none (by intro e he; simp at he), ?_⟩
    refine Goes.step rfl (fun _ h₁ => ?_)
    replace hF := hR _ _ hF h₁
    clear h₁
    rw [stepG_seq]
    simp only [goes_go]
    refine ⟨d0_none (by intro e he; simp at he), ?_⟩
    refine Goes.step rfl (fun _ h₁ => ?_)
    replace hF := hR _ _ hF h₁
    clear h₁
    rw [stepG_seq]
    simp only [goes_go]
    refine ⟨d0_none (by intro e he; simp at he), ?_⟩
    refine Goes.step rfl (fun _ h₁ => ?_)
    replace hF := hR _ _ hF h₁
    clear h₁
    rw [stepG_region]
    simp only [goes_go, List.size_toArray, List.length_cons, List.length_nil, Nat.reduceAdd, Nat.zero_add, List.range, List.range.loop]
    refine ⟨d0_none (by intro e he; simp at he), ?_⟩
    refine Goes.step rfl (fun _ h₁ => ?_)
    replace hF := hR _ _ hF h₁
    clear h₁
    refine goes_oper_k rfl rfl (by k_ne) (fun K hK => ?_)
    go_simp
    refine hK _ _ ⟨?_, ?_⟩
    · refine d0_none ?_
      intro e he
      have hm := mem_listed he
      simp [go_sem, *] at hm
    clear hK K
    try w_num
    refine Goes.step rfl (fun _ h₁ => ?_)
    replace hF := hR _ _ hF h₁
    clear h₁
    refine goes_oper_k rfl rfl (by k_ne) (fun K hK => ?_)
    go_simp
    refine hK _ _ ⟨?_, ?_⟩
    · refine d0_none ?_
      intro e he
      have hm := mem_listed he
      simp [go_sem, *] at hm
    clear hK K
    try w_num
    refine Goes.step rfl (fun _ h₁ => ?_)
    replace hF := hR _ _ hF h₁
    clear h₁
    refine goes_oper_k rfl rfl (by k_ne) (fun K hK => ?_)
    go_simp
    refine hK _ _ ⟨?_, ?_⟩
    · refine d0_none ?_
      intro e he
      have hm := mem_listed he
      simp [go_sem, *] at hm
    clear hK K
    try w_num
    refine Goes.step rfl (fun _ h₁ => ?_)
    replace hF := hR _ _ hF h₁
    clear h₁
    rw [stepG_unwanted rfl rfl]
    simp only [goes_go]
    refine ⟨d0_none (by intro e he; simp at he), ?_⟩
    walk_nrm
    refine Goes.step rfl (fun _ h₁ => ?_)
    replace hF := hR _ _ hF h₁
    clear h₁
    rw [stepG_unwanted rfl rfl]
    simp only [goes_go]
    refine ⟨d0_none (by intro e he; simp at he), ?_⟩
    walk_nrm
    refine Goes.step rfl (fun _ h₁ => ?_)
    replace hF := hR _ _ hF h₁
    clear h₁
    refine goes_oper_k rfl rfl (by k_ne) (fun K hK => ?_)
    go_simp
    refine hK _ _ ⟨?_, ?_⟩
    · refine d0_none ?_
      intro e he
      have hm := mem_listed he
      simp [go_sem, *] at hm
    clear hK K
    try w_num
    refine Goes.step rfl (fun _ h₁ => ?_)
    replace hF := hR _ _ hF h₁
    clear h₁
    rw [stepG_region_end]
    simp only [goes_go]
    refine ⟨d0_none (by intro e he; simp at he), ?_⟩
    refine Goes.step rfl (fun _ h₁ => ?_)
    replace hF := hR _ _ hF h₁
    clear h₁
    rw [stepG_cond (t := true) (by first | rfl | (simp [Act.eval]; omega))]
    simp only [goes_go, if_true, if_false, Bool.false_eq_true, ↓reduceIte]
    refine ⟨d0_none (by intro e he; simp at he), ?_⟩
    refine Goes.step rfl (fun _ h₁ => ?_)
    replace hF := hR _ _ hF h₁
    clear h₁
    rw [stepG_ret']
    simp only [goes_go]
    refine ⟨d0_none (by intro e he; simp at he), ?_⟩
    refine Goes.stop (fun w₃ h₃ => ?_)
    replace hF := hR _ _ hF h₃
    clear h₃
    refine ⟨rfl, _, stepG_unwind_entry (v := .tuple #[]) (evs := #[mk .enable]) rfl H.f_enable (x_enable_n L) (x_enable_b L) (x_enable_x L) (x_enable_f L) (by simp [Extern.Race.none_]) (by simp [mk]) (by simp [mk]), 1 + mT, GoesO.of_then (F := F) hT ?_⟩
    refine Goes.step rfl (fun _ h₁ => ?_)
    replace hF := hR _ _ hF h₁
    clear h₁
    refine goes_leave0 rfl rfl H.f_add rfl ⟨d0_none (by intro e he; simp at he), ?_⟩
    walk_nrm
    exact Goes.stop fun w₄ h₄ => ⟨rfl, hR _ _ hF h₄⟩
end
end Go.Sf

/-! The phase, part 10: Wait, walked for the starter, whoever else runs -/
namespace Go.Sf
open Go Go.Conc Go.Conc.Lib
open Go.ConcN (ShN WgLive PayAt Has)
open Go.RowKit Go.ConcR.Gen Go.ConcN.Gen
open Go.ConcR (KK WgAt stA smA rd wr mk Payload DC0)
variable [Payload] {L : WgLink}
section
variable {Wg C n : Nat} {s : OSt} {F : World → Prop} {b₀ : Frame} {a₀ : Act} {ops₀ : Array Oper} {i₀ : Nat} {rest₀ : List Nat} {k₀ : List Item} {cs : List Frame}
/-- the anchor: at the head of Wait's loop -/
def AnchO (L : WgLink) (F : World → Prop) (s₀ : OSt) (Wg : Nat) (c : Frame) (cs : List Frame) (s : OSt) (g : Goroutine) (w : World) : Prop :=
  s = s₀ ∧ ∃ T : Array Value, g = G ((base L.wait).at ⟨T, []⟩ [.code (L7 L), .inLoop (L7 L), .inBlock 0]) (c :: cs) ∧ T.size = 84 ∧ T[0]? = some (.pointer (some ⟨Wg, 0, none⟩)) ∧ F w
/-- behind 'acquire': Wait comes back -/
def FinW (P : Program) (F : World → Prop) (s₀ : OSt) (T : Goroutine) (s : OSt) (g : Goroutine) (w : World) : Prop := s = s₀ ∧ F w ∧ ∃ m, Goes P true Go.Conc.AtRel DC0 (fun g' w' => g' = T ∧ F w') m g w
set_option maxRecDepth 100000 in
set_option maxHeartbeats 16000000 in
/-- from the loop's head -/
theorem waitRoundO {P : Program} (H : WgLib P L) (hR : ∀ w w₁, F w → RO L.tWg Wg C n none s.o w w₁ → F w₁) (hRA : ∀ w w₁, F w → Go.Conc.AtRel w w₁ → F w₁) (hl : ∀ w, F w → WgLive L.tWg Wg w) (hS : ∀ w a v, F w → a.block = Wg → WgLive L.tWg Wg (w.setCell a v) → F (w.setCell a v))
    (s' : OSt) (g : Goroutine) (w : World) (h : AnchO L F s Wg (b₀.at a₀ (.inRegion ops₀ (i₀ :: rest₀) :: k₀)) cs s' g w) :
    ∃ m, GoesO L.tWg Wg C n P true none (AtW1 P L.tWg Wg C n (FinW P F s (G (b₀.at (a₀.put ((ops₀[i₀]?).bind (·.dst)) (.tuple #[])) (.inRegion ops₀ rest₀ :: k₀)) cs)) (AnchO L F s Wg (b₀.at a₀ (.inRegion ops₀ (i₀ :: rest₀) :: k₀)) cs)) m s' g w := by
  lib_facts
  obtain ⟨rfl, T, rfl, hT84, t0, hF⟩ := h
  obtain ⟨v0, v1, v2, v3, v4, v5, v6, v7, v8, v9, v10, v11, v12, v13, v14, v15, v16, v17, v18, v19, v20, v21, v22, v23, v24, v25, v26, v27, v28, v29, v30, v31, v32, v33, v34, v35, v36, v37, v38, v39, v40, v41, v42, v43, v44, v45, v46, v47, v48, v49, v50, v51, v52, v53, v54, v55, v56, v57, v58, v59, v60, v61, v62, v63, v64, v65, v66, v67, v68, v69, v70, v71, v72, v73, v74, v75, v76, v77, v78, v79, v80, v81, v82, v83, rfl⟩ := array84 T hT84
  simp only [List.getElem?_toArray, List.getElem?_cons_zero, Option.some.injEq] at t0
  subst t0
  refine ⟨30, GoesO.of ?_⟩
  simp only [L7, body_wait, waitFn, Option.getD_some]
  refine Goes.step rfl (fun _ h₁ => ?_)
  replace hF := hR _ _ hF h₁
  clear h₁
  rw [stepG_block]
  simp only [goes_go]
  refine ⟨d0_none (by intro e he; simp at he), ?_⟩
  refine Goes.step rfl (fun _ h₁ => ?_)
  replace hF := hR _ _ hF h₁
  clear h₁
  rw [stepG_seq]
  simp only [goes_go]
  refine ⟨d0_none (by intro e he; simp at he), ?_⟩
  refine Goes.step rfl (fun _ h₁ => ?_)
  replace hF := hR _ _ hF h₁
  clear h₁
  rw [stepG_region]
  simp only [goes_go, List.size_toArray, List.length_cons, List.length_nil, Nat.reduceAdd, Nat.zero_add, List.range, List.range.loop]
  refine ⟨d0_none (by intro e he; simp at he), ?_⟩
  refine Goes.step rfl (fun _ h₁ => ?_)
  replace hF := hR _ _ hF h₁
  clear h₁
  refine goes_oper_k rfl rfl (by k_ne) (fun K hK => ?_)
  go_simp
  refine hK _ _ ⟨?_, ?_⟩
  · refine d0_none ?_
    intro e he
    have hm := mem_listed he
    simp [go_sem, *] at hm
  clear hK K
  try w_num
  refine Goes.step rfl (fun _ h₁ => ?_)
  replace hF := hR _ _ hF h₁
  clear h₁
  refine goes_oper_k rfl rfl (by k_ne) (fun K hK => ?_)
  go_simp
  refine hK _ _ ⟨?_, ?_⟩
  · refine d0_none ?_
    intro e he
    have hm := mem_listed he
    simp [go_sem, *] at hm
  clear hK K
  try w_num
  refine Goes.step rfl (fun _ h₁ => ?_)
  replace hF := hR _ _ hF h₁
  clear h₁
  refine goes_oper_k rfl rfl (by k_ne) (fun K hK => ?_)
  go_simp
  refine hK _ _ ⟨?_, ?_⟩
  · refine d0_none ?_
    intro e he
    have hm := mem_listed he
    simp [go_sem, *] at hm
  clear hK K
  try w_num
  refine Goes.step rfl (fun _ h₁ => ?_)
  replace hF := hR _ _ hF h₁
  clear h₁
  refine goes_call rfl rfl (by k_ne) rfl H.f_uLoad (nm_uLoad L) rfl ⟨d0_none (by intro e he; simp at he), ?_⟩
  walk_nrmf uLoadFn
  refine Goes.step rfl (fun _ h₁ => ?_)
  replace hF := hR _ _ hF h₁
  clear h₁
  rw [stepG_seq]
  simp only [goes_go]
  refine ⟨d0_none (by intro e he; simp at he), ?_⟩
  refine Goes.step rfl (fun _ h₁ => ?_)
  replace hF := hR _ _ hF h₁
  clear h₁
  rw [stepG_region]
  simp only [goes_go, List.size_toArray, List.length_cons, List.length_nil, Nat.reduceAdd, Nat.zero_add, List.range, List.range.loop]
  refine ⟨d0_none (by intro e he; simp at he), ?_⟩
  refine Goes.step rfl (fun _ h₁ => ?_)
  replace hF := hR _ _ hF h₁
  clear h₁
  refine goes_oper_k rfl rfl (by k_ne) (fun K hK => ?_)
  go_simp
  refine hK _ _ ⟨?_, ?_⟩
  · refine d0_none ?_
    intro e he
    have hm := mem_listed he
    simp [go_sem, *] at hm
  clear hK K
  try w_num
  refine Goes.step rfl (fun _ h₁ => ?_)
  replace hF := hR _ _ hF h₁
  clear h₁
  rw [stepG_region_end]
  simp only [goes_go]
  refine ⟨d0_none (by intro e he; simp at he), ?_⟩
  refine Goes.step rfl (fun _ h₁ => ?_)
  replace hF := hR _ _ hF h₁
  clear h₁
  rw [stepG_seq]
  simp only [goes_go]
  refine ⟨d0_none (by intro e he; simp at he), ?_⟩
  refine Goes.step rfl (fun _ h₁ => ?_)
  replace hF := hR _ _ hF h₁
  clear h₁
  rw [stepG_region]
  simp only [goes_go, List.size_toArray, List.length_cons, List.length_nil, Nat.reduceAdd, Nat.zero_add, List.range, List.range.loop]
  refine ⟨d0_none (by intro e he; simp at he), ?_⟩
  refine Goes.step rfl (fun _ h₁ => ?_)
  replace hF := hR _ _ hF h₁
  clear h₁
  refine goes_oper_k rfl rfl (by k_ne) (fun K hK => ?_)
  go_simp
  refine hK _ _ ⟨?_, ?_⟩
  · refine d0_none ?_
    intro e he
    have hm := mem_listed he
    simp [go_sem, *] at hm
  clear hK K
  try w_num
  refine Goes.step rfl (fun _ h₁ => ?_)
  replace hF := hR _ _ hF h₁
  clear h₁
  refine goes_oper_k rfl rfl (by k_ne) (fun K hK => ?_)
  go_simp
  refine hK _ _ ⟨?_, ?_⟩
  · refine d0_none ?_
    intro e he
    have hm := mem_listed he
    simp [go_sem, *] at hm
  clear hK K
  try w_num
  refine Goes.step rfl (fun _ h₁ => ?_)
  replace hF := hR _ _ hF h₁
  clear h₁
  refine goes_oper_k rfl rfl (by k_ne) (fun K hK => ?_)
  go_simp
  refine hK _ _ ⟨?_, ?_⟩
  · refine d0_none ?_
    intro e he
    have hm := mem_listed he
    simp [go_sem, *] at hm
  clear hK K
  try w_num
  refine Goes.stop (fun w₁ h₁ => ?_)
  replace hF := hR _ _ hF h₁
  clear h₁
  refine ⟨rfl, fun v hv hw => ?_⟩
  rcases Nat.eq_zero_or_pos v with rfl | hvp
  · replace hw : WgAt L.tWg Wg w₁ 0 0 := by simpa using hw
    refine ⟨_, stepG_load_atomic (v := 0) rfl rfl (by k_ne) rfl H.f_loadU64 (x_loadU64_n L) (x_loadU64_b L) (x_loadU64_x L) .u64 (x_loadU64_f L) rfl hw.cellSt, fun _ => ⟨50, GoesO.of ?_⟩, fun h => absurd rfl h⟩
    clear hw
    walk_nrm
    refine Goes.step rfl (fun _ h₁ => ?_)
    replace hF := hR _ _ hF h₁
    clear h₁
    refine goes_oper_k rfl rfl (by k_ne) (fun K hK => ?_)
    go_simp
    refine hK _ _ ⟨?_, ?_⟩
    · refine d0_none ?_
      intro e he
      have hm := mem_listed he
      simp [go_sem, *] at hm
    clear hK K
    try w_num
    refine Goes.step rfl (fun _ h₁ => ?_)
    replace hF := hR _ _ hF h₁
    clear h₁
    rw [stepG_region_end]
    simp only [goes_go]
    refine ⟨d0_none (by intro e he; simp at he), ?_⟩
    refine Goes.step rfl (fun _ h₁ => ?_)
    replace hF := hR _ _ hF h₁
    clear h₁
    rw [stepG_ret']
    simp only [goes_go]
    refine ⟨d0_none (by intro e he; simp at he), ?_⟩
    refine Goes.step rfl (fun _ h₁ => ?_)
    replace hF := hR _ _ hF h₁
    clear h₁
    refine goes_leave1 rfl rfl H.f_uLoad rfl ⟨d0_none (by intro e he; simp at he), ?_⟩
    walk_nrm
    refine Goes.step rfl (fun _ h₁ => ?_)
    replace hF := hR _ _ hF h₁
    clear h₁
    refine goes_oper_k rfl rfl (by k_ne) (fun K hK => ?_)
    go_simp
    refine hK _ _ ⟨?_, ?_⟩
    · refine d0_none ?_
      intro e he
      have hm := mem_listed he
      simp [go_sem, *] at hm
    clear hK K
    try w_num
    refine Goes.step rfl (fun _ h₁ => ?_)
    replace hF := hR _ _ hF h₁
    clear h₁
    rw [stepG_region_end]
    simp only [goes_go]
    refine ⟨d0_none (by intro e he; simp at he), ?_⟩
    refine Goes.step rfl (fun _ h₁ => ?_)
    replace hF := hR _ _ hF h₁
    clear h₁
    rw [stepG_seq]
    simp only [goes_go]
    refine ⟨d0_none (by intro e he; simp at he), ?_⟩
    refine Goes.step rfl (fun _ h₁ => ?_)
    replace hF := hR _ _ hF h₁
    clear h₁
    rw [stepG_region]
    simp only [goes_go, List.size_toArray, List.length_cons, List.length_nil, Nat.reduceAdd, Nat.zero_add, List.range, List.range.loop]
    refine ⟨d0_none (by intro e he; simp at he), ?_⟩
    refine Goes.step rfl (fun _ h₁ => ?_)
    replace hF := hR _ _ hF h₁
    clear h₁
    refine goes_oper_k rfl rfl (by k_ne) (fun K hK => ?_)
    go_simp
    refine hK _ _ ⟨?_, ?_⟩
    · refine d0_none ?_
      intro e he
      have hm := mem_listed he
      simp [go_sem, *] at hm
    clear hK K
    try w_num
    refine Goes.step rfl (fun _ h₁ => ?_)
    replace hF := hR _ _ hF h₁
    clear h₁
    refine goes_oper_k rfl rfl (by k_ne) (fun K hK => ?_)
    go_simp
    refine hK _ _ ⟨?_, ?_⟩
    · refine d0_none ?_
      intro e he
      have hm := mem_listed he
      simp [go_sem, *] at hm
    clear hK K
    try w_num
    refine Goes.step rfl (fun _ h₁ => ?_)
    replace hF := hR _ _ hF h₁
    clear h₁
    refine goes_oper_k rfl rfl (by k_ne) (fun K hK => ?_)
    go_simp
    refine hK _ _ ⟨?_, ?_⟩
    · refine d0_none ?_
      intro e he
      have hm := mem_listed he
      simp [go_sem, *] at hm
    clear hK K
    try w_num
    refine Goes.step rfl (fun _ h₁ => ?_)
    replace hF := hR _ _ hF h₁
    clear h₁
    refine goes_oper_k rfl rfl (by k_ne) (fun K hK => ?_)
    go_simp
    refine hK _ _ ⟨?_, ?_⟩
    · refine d0_none ?_
      intro e he
      have hm := mem_listed he
      simp [go_sem, *] at hm
    clear hK K
    try w_num
    refine Goes.step rfl (fun _ h₁ => ?_)
    replace hF := hR _ _ hF h₁
    clear h₁
    rw [stepG_region_end]
    simp only [goes_go]
    refine ⟨d0_none (by intro e he; simp at he), ?_⟩
    refine Goes.step rfl (fun _ h₁ => ?_)
    replace hF := hR _ _ hF h₁
    clear h₁
    rw [stepG_seq]
    simp only [goes_go]
    refine ⟨d0_none (by intro e he; simp at he), ?_⟩
    refine Goes.step rfl (fun _ h₁ => ?_)
    replace hF := hR _ _ hF h₁
    clear h₁
    rw [stepG_region]
    simp only [goes_go, List.size_toArray, List.length_cons, List.length_nil, Nat.reduceAdd, Nat.zero_add, List.range, List.range.loop]
    refine ⟨d0_none (by intro e he; simp at he), ?_⟩
    refine Goes.step rfl (fun _ h₁ => ?_)
    replace hF := hR _ _ hF h₁
    clear h₁
    refine goes_oper_k rfl rfl (by k_ne) (fun K hK => ?_)
    go_simp
    refine hK _ _ ⟨?_, ?_⟩
    · refine d0_none ?_
      intro e he
      have hm := mem_listed he
      simp [go_sem, *] at hm
    clear hK K
    try w_num
    refine Goes.step rfl (fun _ h₁ => ?_)
    replace hF := hR _ _ hF h₁
    clear h₁
    refine goes_oper_k rfl rfl (by k_ne) (fun K hK => ?_)
    go_simp
    refine hK _ _ ⟨?_, ?_⟩
    · refine d0_none ?_
      intro e he
      have hm := mem_listed he
      simp [go_sem, *] at hm
    clear hK K
    try w_num
    refine Goes.step rfl (fun _ h₁ => ?_)
    replace hF := hR _ _ hF h₁
    clear h₁
    refine goes_oper_k rfl rfl (by k_ne) (fun K hK => ?_)
    go_simp
    refine hK _ _ ⟨?_, ?_⟩
    · refine d0_none ?_
      intro e he
      have hm := mem_listed he
      simp [go_sem, *] at hm
    clear hK K
    try w_num
    refine Goes.step rfl (fun _ h₁ => ?_)
    replace hF := hR _ _ hF h₁
    clear h₁
    refine goes_oper_k rfl rfl (by k_ne) (fun K hK => ?_)
    go_simp
    refine hK _ _ ⟨?_, ?_⟩
    · refine d0_none ?_
      intro e he
      have hm := mem_listed he
      simp [go_sem, *] at hm
    clear hK K
    try w_num
    refine Goes.step rfl (fun _ h₁ => ?_)
    replace hF := hR _ _ hF h₁
    clear h₁
    rw [stepG_region_end]
    simp only [goes_go]
    refine ⟨d0_none (by intro e he; simp at he), ?_⟩
    refine Goes.step rfl (fun _ h₁ => ?_)
    replace hF := hR _ _ hF h₁
    clear h₁
    rw [stepG_seq]
    simp only [goes_go]
    refine ⟨d0_none (by intro e he; simp at he), ?_⟩
    refine Goes.step rfl (fun _ h₁ => ?_)
    replace hF := hR _ _ hF h₁
    clear h₁
    rw [stepG_seq]
    simp only [goes_go]
    refine ⟨d0_none (by intro e he; simp at he), ?_⟩
    refine Goes.step rfl (fun _ h₁ => ?_)
    replace hF := hR _ _ hF h₁
    clear h₁
    rw [stepG_region]
    simp only [goes_go, List.size_toArray, List.length_cons, List.length_nil, Nat.reduceAdd, Nat.zero_add, List.range, List.range.loop]
    refine ⟨d0_none (by intro e he; simp at he), ?_⟩
    refine Goes.step rfl (fun _ h₁ => ?_)
    replace hF := hR _ _ hF h₁
    clear h₁
    refine goes_oper_k rfl rfl (by k_ne) (fun K hK => ?_)
    go_simp
    refine hK _ _ ⟨?_, ?_⟩
    · refine d0_none ?_
      intro e he
      have hm := mem_listed he
      simp [go_sem, *] at hm
    clear hK K
    try w_num
    refine Goes.step rfl (fun _ h₁ => ?_)
    replace hF := hR _ _ hF h₁
    clear h₁
    refine goes_oper_k rfl rfl (by k_ne) (fun K hK => ?_)
    go_simp
    refine hK _ _ ⟨?_, ?_⟩
    · refine d0_none ?_
      intro e he
      have hm := mem_listed he
      simp [go_sem, *] at hm
    clear hK K
    try w_num
    refine Goes.step rfl (fun _ h₁ => ?_)
    replace hF := hR _ _ hF h₁
    clear h₁
    rw [stepG_region_end]
    simp only [goes_go]
    refine ⟨d0_none (by intro e he; simp at he), ?_⟩
    refine Goes.step rfl (fun _ h₁ => ?_)
    replace hF := hR _ _ hF h₁
    clear h₁
    rw [stepG_cond (t := true) rfl]
    simp only [goes_go, if_true, if_false, Bool.false_eq_true, ↓reduceIte]
    refine ⟨d0_none (by intro e he; simp at he), ?_⟩
    refine Goes.step rfl (fun _ h₁ => ?_)
    replace hF := hR _ _ hF h₁
    clear h₁
    rw [stepG_seq]
    simp only [goes_go]
    refine ⟨d0_none (by intro e he; simp at he), ?_⟩
    refine Goes.step rfl (fun _ h₁ => ?_)
    replace hF := hR _ _ hF h₁
    clear h₁
    rw [stepG_cond (t := true) rfl]
    simp only [goes_go, if_true, if_false, Bool.false_eq_true, ↓reduceIte]
    refine ⟨d0_none (by intro e he; simp at he), ?_⟩
    refine Goes.step rfl (fun _ h₁ => ?_)
    replace hF := hR _ _ hF h₁
    clear h₁
    rw [stepG_seq]
    simp only [goes_go]
    refine ⟨d0_none (by intro e he; simp at he), ?_⟩
    refine Goes.step rfl (fun _ h₁ => ?_)
    replace hF := hR _ _ hF h₁
    clear h₁
    rw [stepG_region]
    simp only [goes_go, List.size_toArray, List.length_cons, List.length_nil, Nat.reduceAdd, Nat.zero_add, List.range, List.range.loop]
    refine ⟨d0_none (by intro e he; simp at he), ?_⟩
    refine Goes.stop (fun w₅ h₅ => ?_)
    replace hF := hR _ _ hF h₅
    clear h₅
    refine ⟨rfl, _, stepG_mark0 .enable (by simp) rfl rfl (by k_ne) rfl H.f_enable (x_enable_n L) (x_enable_b L) (x_enable_x L) (x_enable_f L), 12, GoesO.of ?_⟩
    walk_nrm
    refine Goes.step rfl (fun _ h₁ => ?_)
    replace hF := hR _ _ hF h₁
    clear h₁
    rw [stepG_region_end]
    simp only [goes_go]
    refine ⟨d0_none (by intro e he; simp at he), ?_⟩
    refine Goes.step rfl (fun _ h₁ => ?_)
    replace hF := hR _ _ hF h₁
    clear h₁
    rw [stepG_region]
    simp only [goes_go, List.size_toArray, List.length_cons, List.length_nil, Nat.reduceAdd, Nat.zero_add, List.range, List.range.loop]
    refine ⟨d0_none (by intro e he; simp at he), ?_⟩
    refine Goes.step rfl (fun _ h₁ => ?_)
    replace hF := hR _ _ hF h₁
    clear h₁
    refine goes_oper_k rfl rfl (by k_ne) (fun K hK => ?_)
    go_simp
    refine hK _ _ ⟨?_, ?_⟩
    · refine d0_none ?_
      intro e he
      have hm := mem_listed he
      simp [go_sem, *] at hm
    clear hK K
    try w_num
    refine Goes.step rfl (fun _ h₁ => ?_)
    replace hF := hR _ _ hF h₁
    clear h₁
    refine goes_oper_k rfl rfl (by k_ne) (fun Kx hKx => ?_)
    have hcv := run_convert_to_unsafe (P := P) H.underlying_tWgP H.underlying_tUP H.room_tWg (WgLive.cell0 (hl _ hF)).choose_spec
    have hce := fun es => events_convert_to_unsafe (P := P) H.underlying_tWgP H.underlying_tUP H.room_tWg (WgLive.cell0 (hl _ hF)).choose_spec es
    go_simp
    refine hKx _ _ ⟨?_, ?_⟩
    · refine d0_none ?_
      intro ex hex
      have hmx := mem_listed hex
      simp [go_sem, hce] at hmx
    clear hKx Kx hcv hce
    refine Goes.stop (fun w₆ h₆ => ?_)
    replace hF := hR _ _ hF h₆
    clear h₆
    refine ⟨rfl, _, stepG_markAt .acquire (by simp) rfl rfl (by k_ne) rfl H.f_acquire (x_acquire_n L) (x_acquire_b L) (x_acquire_x L) (x_acquire_f L) (by simp [Act.eval, stA]), rfl, hF, 30, ?_⟩
    walk_nrm
    refine Goes.step rfl (fun _ h₁ => ?_)
    replace hF := hRA _ _ hF h₁
    clear h₁
    rw [stepG_region_end]
    simp only [goes_go]
    refine ⟨dc0_none (by intro e he; simp at he), ?_⟩
    refine Goes.step rfl (fun _ h₁ => ?_)
    replace hF := hRA _ _ hF h₁
    clear h₁
    rw [stepG_seq]
    simp only [goes_go]
    refine ⟨dc0_none (by intro e he; simp at he), ?_⟩
    refine Goes.step rfl (fun _ h₁ => ?_)
    replace hF := hRA _ _ hF h₁
    clear h₁
    rw [stepG_seq]
    simp only [goes_go]
    refine ⟨dc0_none (by intro e he; simp at he), ?_⟩
    refine Goes.step rfl (fun _ h₁ => ?_)
    replace hF := hRA _ _ hF h₁
    clear h₁
    rw [stepG_region]
    simp only [goes_go, List.size_toArray, List.length_cons, List.length_nil, Nat.reduceAdd, Nat.zero_add, List.range, List.range.loop]
    refine ⟨dc0_none (by intro e he; simp at he), ?_⟩
    refine Goes.step rfl (fun _ h₁ => ?_)
    replace hF := hRA _ _ hF h₁
    clear h₁
    refine goes_oper_k rfl rfl (by k_ne) (fun K hK => ?_)
    go_simp
    refine hK _ _ ⟨?_, ?_⟩
    · refine dc0_none ?_
      intro e he
      have hm := mem_listed he
      simp [go_sem, *] at hm
    clear hK K
    try w_num
    refine Goes.step rfl (fun _ h₁ => ?_)
    replace hF := hRA _ _ hF h₁
    clear h₁
    refine goes_oper_k rfl rfl (by k_ne) (fun K hK => ?_)
    go_simp
    refine hK _ _ ⟨?_, ?_⟩
    · refine dc0_none ?_
      intro e he
      have hm := mem_listed he
      simp [go_sem, *] at hm
    clear hK K
    try w_num
    refine Goes.step rfl (fun _ h₁ => ?_)
    replace hF := hRA _ _ hF h₁
    clear h₁
    refine goes_oper_k rfl rfl (by k_ne) (fun K hK => ?_)
    go_simp
    refine hK _ _ ⟨?_, ?_⟩
    · refine dc0_none ?_
      intro e he
      have hm := mem_listed he
      simp [go_sem, *] at hm
    clear hK K
    try w_num
    refine Goes.step rfl (fun _ h₁ => ?_)
    replace hF := hRA _ _ hF h₁
    clear h₁
    refine goes_oper_k rfl rfl (by k_ne) (fun K hK => ?_)
    go_simp
    refine hK _ _ ⟨?_, ?_⟩
    · refine dc0_none ?_
      intro e he
      have hm := mem_listed he
      simp [go_sem, *] at hm
    clear hK K
    try w_num
    refine Goes.step rfl (fun _ h₁ => ?_)
    replace hF := hRA _ _ hF h₁
    clear h₁
    refine goes_oper_k rfl rfl (by k_ne) (fun K hK => ?_)
    go_simp
    refine hK _ _ ⟨?_, ?_⟩
    · refine dc0_none ?_
      intro e he
      have hm := mem_listed he
      simp [go_sem, *] at hm
    clear hK K
    try w_num
    refine Goes.step rfl (fun _ h₁ => ?_)
    replace hF := hRA _ _ hF h₁
    clear h₁
    refine goes_oper_k rfl rfl (by k_ne) (fun K hK => ?_)
    go_simp
    refine hK _ _ ⟨?_, ?_⟩
    · refine dc0_none ?_
      intro e he
      have hm := mem_listed he
      simp [go_sem, *] at hm
    clear hK K
    try w_num
    refine Goes.step rfl (fun _ h₁ => ?_)
    replace hF := hRA _ _ hF h₁
    clear h₁
    refine goes_oper_k rfl rfl (by k_ne) (fun K hK => ?_)
    go_simp
    refine hK _ _ ⟨?_, ?_⟩
    · refine dc0_none ?_
      intro e he
      have hm := mem_listed he
      simp [go_sem, *] at hm
    clear hK K
    try w_num
    refine Goes.step rfl (fun _ h₁ => ?_)
    replace hF := hRA _ _ hF h₁
    clear h₁
    refine goes_oper_k rfl rfl (by k_ne) (fun K hK => ?_)
    go_simp
    refine hK _ _ ⟨?_, ?_⟩
    · refine dc0_none ?_
      intro e he
      have hm := mem_listed he
      simp [go_sem, *] at hm
    clear hK K
    try w_num
    refine Goes.step rfl (fun _ h₁ => ?_)
    replace hF := hRA _ _ hF h₁
    clear h₁
    rw [stepG_unwanted rfl rfl]
    simp only [goes_go]
    refine ⟨dc0_none (by intro e he; simp at he), ?_⟩
    walk_nrm
    refine Goes.step rfl (fun _ h₁ => ?_)
    replace hF := hRA _ _ hF h₁
    clear h₁
    rw [stepG_unwanted rfl rfl]
    simp only [goes_go]
    refine ⟨dc0_none (by intro e he; simp at he), ?_⟩
    walk_nrm
    refine Goes.step rfl (fun _ h₁ => ?_)
    replace hF := hRA _ _ hF h₁
    clear h₁
    refine goes_oper_k rfl rfl (by k_ne) (fun K hK => ?_)
    go_simp
    refine hK _ _ ⟨?_, ?_⟩
    · refine dc0_none ?_
      intro e he
      have hm := mem_listed he
      simp [go_sem, *] at hm
    clear hK K
    try w_num
    refine Goes.step rfl (fun _ h₁ => ?_)
    replace hF := hRA _ _ hF h₁
    clear h₁
    rw [stepG_region_end]
    simp only [goes_go]
    refine ⟨dc0_none (by intro e he; simp at he), ?_⟩
    refine Goes.step rfl (fun _ h₁ => ?_)
    replace hF := hRA _ _ hF h₁
    clear h₁
    rw [stepG_cond (t := false) rfl]
    simp only [goes_go, if_true, if_false, Bool.false_eq_true, ↓reduceIte]
    refine ⟨dc0_none (by intro e he; simp at he), ?_⟩
    refine Goes.step rfl (fun _ h₁ => ?_)
    replace hF := hRA _ _ hF h₁
    clear h₁
    rw [stepG_skip]
    simp only [goes_go]
    refine ⟨dc0_none (by intro e he; simp at he), ?_⟩
    refine Goes.step rfl (fun _ h₁ => ?_)
    replace hF := hRA _ _ hF h₁
    clear h₁
    rw [stepG_ret']
    simp only [goes_go]
    refine ⟨dc0_none (by intro e he; simp at he), ?_⟩
    refine Goes.step rfl (fun _ h₁ => ?_)
    replace hF := hRA _ _ hF h₁
    clear h₁
    refine goes_leave0 rfl rfl H.f_wait rfl ⟨dc0_none (by intro e he; simp at he), ?_⟩
    walk_nrm
    exact Goes.stop fun w₇ h₇ => ⟨rfl, hRA _ _ hF h₇⟩
  · obtain ⟨S, hS2⟩ : ∃ S : Int, (v : Int) * KK = S := ⟨_, rfl⟩
    have a1 : S / 4294967296 = (v : Int) := by rw [← hS2]; simp only [KK]; omega
    have b1 : bits .and .u64 S 2147483648 = 0 := by rw [← hS2]; have := Go.ConcN.st_flag v 0 (by omega) (by omega); simpa [KK] using this
    have b2 : bits .and .u64 S 2147483647 = 0 := by rw [← hS2]; have := Go.ConcN.st_waiters v 0 (by omega) (by omega); simpa [KK] using this
    have c1 : IntKind.i32.wrap (v : Int) = (v : Int) := by rw [IntKind.wrap_i32]; omega
    have w1 : IntKind.u64.wrap (S + 1) = S + 1 := by rw [IntKind.wrap_u64, ← hS2]; simp only [KK]; omega
    have q3 : decide ((v : Int) < 0) = false := decide_eq_false (by omega)
    have q4 : decide (0 < (v : Int)) = true := decide_eq_true (by omega)
    have q5 : ((v : Int) == 0) = false := by simp; omega
    have q6 : decide ((v : Int) = 0) = false := decide_eq_false (by omega)
    rw [hS2] at hw
    refine ⟨_, stepG_load_atomic (v := S) rfl rfl (by k_ne) rfl H.f_loadU64 (x_loadU64_n L) (x_loadU64_b L) (x_loadU64_x L) .u64 (x_loadU64_f L) rfl hw.cellSt, fun h0 => absurd h0 (by omega), fun _ => ⟨60, GoesO.of ?_⟩⟩
    clear hw
    walk_nrm
    refine Goes.step rfl (fun _ h₁ => ?_)
    replace hF := hR _ _ hF h₁
    clear h₁
    refine goes_oper_k rfl rfl (by k_ne) (fun K hK => ?_)
    go_simp
    refine hK _ _ ⟨?_, ?_⟩
    · refine d0_none ?_
      intro e he
      have hm := mem_listed he
      simp [go_sem, *] at hm
    clear hK K
    try w_num
    refine Goes.step rfl (fun _ h₁ => ?_)
    replace hF := hR _ _ hF h₁
    clear h₁
    rw [stepG_region_end]
    simp only [goes_go]
    refine ⟨d0_none (by intro e he; simp at he), ?_⟩
    refine Goes.step rfl (fun _ h₁ => ?_)
    replace hF := hR _ _ hF h₁
    clear h₁
    rw [stepG_ret']
    simp only [goes_go]
    refine ⟨d0_none (by intro e he; simp at he), ?_⟩
    refine Goes.step rfl (fun _ h₁ => ?_)
    replace hF := hR _ _ hF h₁
    clear h₁
    refine goes_leave1 rfl rfl H.f_uLoad rfl ⟨d0_none (by intro e he; simp at he), ?_⟩
    walk_nrm
    refine Goes.step rfl (fun _ h₁ => ?_)
    replace hF := hR _ _ hF h₁
    clear h₁
    refine goes_oper_k rfl rfl (by k_ne) (fun K hK => ?_)
    go_simp
    refine hK _ _ ⟨?_, ?_⟩
    · refine d0_none ?_
      intro e he
      have hm := mem_listed he
      simp [go_sem, *] at hm
    clear hK K
    try w_num
    refine Goes.step rfl (fun _ h₁ => ?_)
    replace hF := hR _ _ hF h₁
    clear h₁
    rw [stepG_region_end]
    simp only [goes_go]
    refine ⟨d0_none (by intro e he; simp at he), ?_⟩
    refine Goes.step rfl (fun _ h₁ => ?_)
    replace hF := hR _ _ hF h₁
    clear h₁
    rw [stepG_seq]
    simp only [goes_go]
    refine ⟨d0_none (by intro e he; simp at he), ?_⟩
    refine Goes.step rfl (fun _ h₁ => ?_)
    replace hF := hR _ _ hF h₁
    clear h₁
    rw [stepG_region]
    simp only [goes_go, List.size_toArray, List.length_cons, List.length_nil, Nat.reduceAdd, Nat.zero_add, List.range, List.range.loop]
    refine ⟨d0_none (by intro e he; simp at he), ?_⟩
    refine Goes.step rfl (fun _ h₁ => ?_)
    replace hF := hR _ _ hF h₁
    clear h₁
    refine goes_oper_k rfl rfl (by k_ne) (fun K hK => ?_)
    go_simp
    refine hK _ _ ⟨?_, ?_⟩
    · refine d0_none ?_
      intro e he
      have hm := mem_listed he
      simp [go_sem, *] at hm
    clear hK K
    try w_num
    refine Goes.step rfl (fun _ h₁ => ?_)
    replace hF := hR _ _ hF h₁
    clear h₁
    refine goes_oper_k rfl rfl (by k_ne) (fun K hK => ?_)
    go_simp
    refine hK _ _ ⟨?_, ?_⟩
    · refine d0_none ?_
      intro e he
      have hm := mem_listed he
      simp [go_sem, *] at hm
    clear hK K
    try w_num
    refine Goes.step rfl (fun _ h₁ => ?_)
    replace hF := hR _ _ hF h₁
    clear h₁
    refine goes_oper_k rfl rfl (by k_ne) (fun K hK => ?_)
    go_simp
    refine hK _ _ ⟨?_, ?_⟩
    · refine d0_none ?_
      intro e he
      have hm := mem_listed he
      simp [go_sem, *] at hm
    clear hK K
    try w_num
    refine Goes.step rfl (fun _ h₁ => ?_)
    replace hF := hR _ _ hF h₁
    clear h₁
    refine goes_oper_k rfl rfl (by k_ne) (fun K hK => ?_)
    go_simp
    refine hK _ _ ⟨?_, ?_⟩
    · refine d0_none ?_
      intro e he
      have hm := mem_listed he
      simp [go_sem, *] at hm
    clear hK K
    try w_num
    refine Goes.step rfl (fun _ h₁ => ?_)
    replace hF := hR _ _ hF h₁
    clear h₁
    rw [stepG_region_end]
    simp only [goes_go]
    refine ⟨d0_none (by intro e he; simp at he), ?_⟩
    refine Goes.step rfl (fun _ h₁ => ?_)
    replace hF := hR _ _ hF h₁
    clear h₁
    rw [stepG_seq]
    simp only [goes_go]
    refine ⟨d0_none (by intro e he; simp at he), ?_⟩
    refine Goes.step rfl (fun _ h₁ => ?_)
    replace hF := hR _ _ hF h₁
    clear h₁
    rw [stepG_region]
    simp only [goes_go, List.size_toArray, List.length_cons, List.length_nil, Nat.reduceAdd, Nat.zero_add, List.range, List.range.loop]
    refine ⟨d0_none (by intro e he; simp at he), ?_⟩
    refine Goes.step rfl (fun _ h₁ => ?_)
    replace hF := hR _ _ hF h₁
    clear h₁
    refine goes_oper_k rfl rfl (by k_ne) (fun K hK => ?_)
    go_simp
    refine hK _ _ ⟨?_, ?_⟩
    · refine d0_none ?_
      intro e he
      have hm := mem_listed he
      simp [go_sem, *] at hm
    clear hK K
    try w_num
    refine Goes.step rfl (fun _ h₁ => ?_)
    replace hF := hR _ _ hF h₁
    clear h₁
    refine goes_oper_k rfl rfl (by k_ne) (fun K hK => ?_)
    go_simp
    refine hK _ _ ⟨?_, ?_⟩
    · refine d0_none ?_
      intro e he
      have hm := mem_listed he
      simp [go_sem, *] at hm
    clear hK K
    try w_num
    refine Goes.step rfl (fun _ h₁ => ?_)
    replace hF := hR _ _ hF h₁
    clear h₁
    refine goes_oper_k rfl rfl (by k_ne) (fun K hK => ?_)
    go_simp
    refine hK _ _ ⟨?_, ?_⟩
    · refine d0_none ?_
      intro e he
      have hm := mem_listed he
      simp [go_sem, *] at hm
    clear hK K
    try w_num
    refine Goes.step rfl (fun _ h₁ => ?_)
    replace hF := hR _ _ hF h₁
    clear h₁
    refine goes_oper_k rfl rfl (by k_ne) (fun K hK => ?_)
    go_simp
    refine hK _ _ ⟨?_, ?_⟩
    · refine d0_none ?_
      intro e he
      have hm := mem_listed he
      simp [go_sem, *] at hm
    clear hK K
    try w_num
    refine Goes.step rfl (fun _ h₁ => ?_)
    replace hF := hR _ _ hF h₁
    clear h₁
    rw [stepG_region_end]
    simp only [goes_go]
    refine ⟨d0_none (by intro e he; simp at he), ?_⟩
    refine Goes.step rfl (fun _ h₁ => ?_)
    replace hF := hR _ _ hF h₁
    clear h₁
    rw [stepG_seq]
    simp only [goes_go]
    refine ⟨d0_none (by intro e he; simp at he), ?_⟩
    refine Goes.step rfl (fun _ h₁ => ?_)
    replace hF := hR _ _ hF h₁
    clear h₁
    rw [stepG_seq]
    simp only [goes_go]
    refine ⟨d0_none (by intro e he; simp at he), ?_⟩
    refine Goes.step rfl (fun _ h₁ => ?_)
    replace hF := hR _ _ hF h₁
    clear h₁
    rw [stepG_region]
    simp only [goes_go, List.size_toArray, List.length_cons, List.length_nil, Nat.reduceAdd, Nat.zero_add, List.range, List.range.loop]
    refine ⟨d0_none (by intro e he; simp at he), ?_⟩
    refine Goes.step rfl (fun _ h₁ => ?_)
    replace hF := hR _ _ hF h₁
    clear h₁
    refine goes_oper_k rfl rfl (by k_ne) (fun K hK => ?_)
    go_simp
    refine hK _ _ ⟨?_, ?_⟩
    · refine d0_none ?_
      intro e he
      have hm := mem_listed he
      simp [go_sem, *] at hm
    clear hK K
    try w_num
    refine Goes.step rfl (fun _ h₁ => ?_)
    replace hF := hR _ _ hF h₁
    clear h₁
    refine goes_oper_k rfl rfl (by k_ne) (fun K hK => ?_)
    go_simp
    refine hK _ _ ⟨?_, ?_⟩
    · refine d0_none ?_
      intro e he
      have hm := mem_listed he
      simp [go_sem, *] at hm
    clear hK K
    try w_num
    refine Goes.step rfl (fun _ h₁ => ?_)
    replace hF := hR _ _ hF h₁
    clear h₁
    rw [stepG_region_end]
    simp only [goes_go]
    refine ⟨d0_none (by intro e he; simp at he), ?_⟩
    refine Goes.step rfl (fun _ h₁ => ?_)
    replace hF := hR _ _ hF h₁
    clear h₁
    rw [stepG_cond (t := false) (by first | rfl | (simp [Act.eval]; omega))]
    simp only [goes_go, if_true, if_false, Bool.false_eq_true, ↓reduceIte]
    refine ⟨d0_none (by intro e he; simp at he), ?_⟩
    refine Goes.step rfl (fun _ h₁ => ?_)
    replace hF := hR _ _ hF h₁
    clear h₁
    rw [stepG_skip]
    simp only [goes_go]
    refine ⟨d0_none (by intro e he; simp at he), ?_⟩
    refine Goes.step rfl (fun _ h₁ => ?_)
    replace hF := hR _ _ hF h₁
    clear h₁
    rw [stepG_seq]
    simp only [goes_go]
    refine ⟨d0_none (by intro e he; simp at he), ?_⟩
    refine Goes.step rfl (fun _ h₁ => ?_)
    replace hF := hR _ _ hF h₁
    clear h₁
    rw [stepG_region]
    simp only [goes_go, List.size_toArray, List.length_cons, List.length_nil, Nat.reduceAdd, Nat.zero_add, List.range, List.range.loop]
    refine ⟨d0_none (by intro e he; simp at he), ?_⟩
    refine Goes.step rfl (fun _ h₁ => ?_)
    replace hF := hR _ _ hF h₁
    clear h₁
    refine goes_oper_k rfl rfl (by k_ne) (fun K hK => ?_)
    go_simp
    refine hK _ _ ⟨?_, ?_⟩
    · refine d0_none ?_
      intro e he
      have hm := mem_listed he
      simp [go_sem, *] at hm
    clear hK K
    try w_num
    refine Goes.step rfl (fun _ h₁ => ?_)
    replace hF := hR _ _ hF h₁
    clear h₁
    refine goes_oper_k rfl rfl (by k_ne) (fun K hK => ?_)
    go_simp
    refine hK _ _ ⟨?_, ?_⟩
    · refine d0_none ?_
      intro e he
      have hm := mem_listed he
      simp [go_sem, *] at hm
    clear hK K
    try w_num
    refine Goes.step rfl (fun _ h₁ => ?_)
    replace hF := hR _ _ hF h₁
    clear h₁
    refine goes_oper_k rfl rfl (by k_ne) (fun K hK => ?_)
    go_simp
    refine hK _ _ ⟨?_, ?_⟩
    · refine d0_none ?_
      intro e he
      have hm := mem_listed he
      simp [go_sem, *] at hm
    clear hK K
    try w_num
    refine Goes.step rfl (fun _ h₁ => ?_)
    replace hF := hR _ _ hF h₁
    clear h₁
    refine goes_oper_k rfl rfl (by k_ne) (fun K hK => ?_)
    go_simp
    refine hK _ _ ⟨?_, ?_⟩
    · refine d0_none ?_
      intro e he
      have hm := mem_listed he
      simp [go_sem, *] at hm
    clear hK K
    try w_num
    refine Goes.step rfl (fun _ h₁ => ?_)
    replace hF := hR _ _ hF h₁
    clear h₁
    refine goes_oper_k rfl rfl (by k_ne) (fun K hK => ?_)
    go_simp
    refine hK _ _ ⟨?_, ?_⟩
    · refine d0_none ?_
      intro e he
      have hm := mem_listed he
      simp [go_sem, *] at hm
    clear hK K
    try w_num
    refine Goes.step rfl (fun _ h₁ => ?_)
    replace hF := hR _ _ hF h₁
    clear h₁
    refine goes_oper_k rfl rfl (by k_ne) (fun K hK => ?_)
    go_simp
    refine hK _ _ ⟨?_, ?_⟩
    · refine d0_none ?_
      intro e he
      have hm := mem_listed he
      simp [go_sem, *] at hm
    clear hK K
    try w_num
    refine Goes.step rfl (fun _ h₁ => ?_)
    replace hF := hR _ _ hF h₁
    clear h₁
    refine goes_call rfl rfl (by k_ne) rfl H.f_uCas (nm_uCas L) rfl ⟨d0_none (by intro e he; simp at he), ?_⟩
    walk_nrmf uCasFn
    refine Goes.step rfl (fun _ h₁ => ?_)
    replace hF := hR _ _ hF h₁
    clear h₁
    rw [stepG_seq]
    simp only [goes_go]
    refine ⟨d0_none (by intro e he; simp at he), ?_⟩
    refine Goes.step rfl (fun _ h₁ => ?_)
    replace hF := hR _ _ hF h₁
    clear h₁
    rw [stepG_region]
    simp only [goes_go, List.size_toArray, List.length_cons, List.length_nil, Nat.reduceAdd, Nat.zero_add, List.range, List.range.loop]
    refine ⟨d0_none (by intro e he; simp at he), ?_⟩
    refine Goes.step rfl (fun _ h₁ => ?_)
    replace hF := hR _ _ hF h₁
    clear h₁
    refine goes_oper_k rfl rfl (by k_ne) (fun K hK => ?_)
    go_simp
    refine hK _ _ ⟨?_, ?_⟩
    · refine d0_none ?_
      intro e he
      have hm := mem_listed he
      simp [go_sem, *] at hm
    clear hK K
    try w_num
    refine Goes.step rfl (fun _ h₁ => ?_)
    replace hF := hR _ _ hF h₁
    clear h₁
    rw [stepG_region_end]
    simp only [goes_go]
    refine ⟨d0_none (by intro e he; simp at he), ?_⟩
    refine Goes.step rfl (fun _ h₁ => ?_)
    replace hF := hR _ _ hF h₁
    clear h₁
    rw [stepG_seq]
    simp only [goes_go]
    refine ⟨d0_none (by intro e he; simp at he), ?_⟩
    refine Goes.step rfl (fun _ h₁ => ?_)
    replace hF := hR _ _ hF h₁
    clear h₁
    rw [stepG_region]
    simp only [goes_go, List.size_toArray, List.length_cons, List.length_nil, Nat.reduceAdd, Nat.zero_add, List.range, List.range.loop]
    refine ⟨d0_none (by intro e he; simp at he), ?_⟩
    refine Goes.step rfl (fun _ h₁ => ?_)
    replace hF := hR _ _ hF h₁
    clear h₁
    refine goes_oper_k rfl rfl (by k_ne) (fun K hK => ?_)
    go_simp
    refine hK _ _ ⟨?_, ?_⟩
    · refine d0_none ?_
      intro e he
      have hm := mem_listed he
      simp [go_sem, *] at hm
    clear hK K
    try w_num
    refine Goes.step rfl (fun _ h₁ => ?_)
    replace hF := hR _ _ hF h₁
    clear h₁
    refine goes_oper_k rfl rfl (by k_ne) (fun K hK => ?_)
    go_simp
    refine hK _ _ ⟨?_, ?_⟩
    · refine d0_none ?_
      intro e he
      have hm := mem_listed he
      simp [go_sem, *] at hm
    clear hK K
    try w_num
    refine Goes.step rfl (fun _ h₁ => ?_)
    replace hF := hR _ _ hF h₁
    clear h₁
    refine goes_oper_k rfl rfl (by k_ne) (fun K hK => ?_)
    go_simp
    refine hK _ _ ⟨?_, ?_⟩
    · refine d0_none ?_
      intro e he
      have hm := mem_listed he
      simp [go_sem, *] at hm
    clear hK K
    try w_num
    refine Goes.step rfl (fun _ h₁ => ?_)
    replace hF := hR _ _ hF h₁
    clear h₁
    refine goes_oper_k rfl rfl (by k_ne) (fun K hK => ?_)
    go_simp
    refine hK _ _ ⟨?_, ?_⟩
    · refine d0_none ?_
      intro e he
      have hm := mem_listed he
      simp [go_sem, *] at hm
    clear hK K
    try w_num
    refine Goes.step rfl (fun _ h₁ => ?_)
    replace hF := hR _ _ hF h₁
    clear h₁
    refine goes_oper_k rfl rfl (by k_ne) (fun K hK => ?_)
    go_simp
    refine hK _ _ ⟨?_, ?_⟩
    · refine d0_none ?_
      intro e he
      have hm := mem_listed he
      simp [go_sem, *] at hm
    clear hK K
    try w_num
    refine Goes.stop (fun w₂ h₂ => ?_)
    replace hF := hR _ _ hF h₂
    clear h₂
    refine ⟨rfl, fun v' hv' hw => ⟨fun e => ?_, fun e => ?_⟩⟩
    · subst e
      rw [hS2] at hw ⊢
      refine ⟨_, (stepG_cas_hit (v := S) (n := S + 1) rfl rfl (by k_ne) rfl H.f_casU64 (x_casU64_n L) (x_casU64_b L) (x_casU64_x L) .u64 (x_casU64_f L) rfl rfl rfl hw.cellSt (hw.thaw 0)).trans (by rfl), 70, GoesO.of ?_⟩
      replace hF : F (w₂.setCell (stA Wg) (.int .u64 (S + 1))) := hS _ _ _ hF rfl ⟨_, _, hw.setSt _⟩
      clear hw
      walk_nrm
      refine Goes.step rfl (fun _ h₁ => ?_)
      replace hF := hR _ _ hF h₁
      clear h₁
      refine goes_oper_k rfl rfl (by k_ne) (fun K hK => ?_)
      go_simp
      refine hK _ _ ⟨?_, ?_⟩
      · refine d0_none ?_
        intro e he
        have hm := mem_listed he
        simp [go_sem, *] at hm
      clear hK K
      try w_num
      refine Goes.step rfl (fun _ h₁ => ?_)
      replace hF := hR _ _ hF h₁
      clear h₁
      rw [stepG_region_end]
      simp only [goes_go]
      refine ⟨d0_none (by intro e he; simp at he), ?_⟩
      refine Goes.step rfl (fun _ h₁ => ?_)
      replace hF := hR _ _ hF h₁
      clear h₁
      rw [stepG_ret']
      simp only [goes_go]
      refine ⟨d0_none (by intro e he; simp at he), ?_⟩
      refine Goes.step rfl (fun _ h₁ => ?_)
      replace hF := hR _ _ hF h₁
      clear h₁
      refine goes_leave1 rfl rfl H.f_uCas rfl ⟨d0_none (by intro e he; simp at he), ?_⟩
      walk_nrm
      refine Goes.step rfl (fun _ h₁ => ?_)
      replace hF := hR _ _ hF h₁
      clear h₁
      rw [stepG_region_end]
      simp only [goes_go]
      refine ⟨d0_none (by intro e he; simp at he), ?_⟩
      refine Goes.step rfl (fun _ h₁ => ?_)
      replace hF := hR _ _ hF h₁
      clear h₁
      rw [stepG_cond (t := true) rfl]
      simp only [goes_go, if_true, if_false, Bool.false_eq_true, ↓reduceIte]
      refine ⟨d0_none (by intro e he; simp at he), ?_⟩
      refine Goes.step rfl (fun _ h₁ => ?_)
      replace hF := hR _ _ hF h₁
      clear h₁
      rw [stepG_seq]
      simp only [goes_go]
      refine ⟨d0_none (by intro e he; simp at he), ?_⟩
      refine Goes.step rfl (fun _ h₁ => ?_)
      replace hF := hR _ _ hF h₁
      clear h₁
      rw [stepG_seq]
      simp only [goes_go]
      refine ⟨d0_none (by intro e he; simp at he), ?_⟩
      refine Goes.step rfl (fun _ h₁ => ?_)
      replace hF := hR _ _ hF h₁
      clear h₁
      rw [stepG_region]
      simp only [goes_go, List.size_toArray, List.length_cons, List.length_nil, Nat.reduceAdd, Nat.zero_add, List.range, List.range.loop]
      refine ⟨d0_none (by intro e he; simp at he), ?_⟩
      refine Goes.step rfl (fun _ h₁ => ?_)
      replace hF := hR _ _ hF h₁
      clear h₁
      refine goes_oper_k rfl rfl (by k_ne) (fun K hK => ?_)
      go_simp
      refine hK _ _ ⟨?_, ?_⟩
      · refine d0_none ?_
        intro e he
        have hm := mem_listed he
        simp [go_sem, *] at hm
      clear hK K
      try w_num
      refine Goes.step rfl (fun _ h₁ => ?_)
      replace hF := hR _ _ hF h₁
      clear h₁
      refine goes_oper_k rfl rfl (by k_ne) (fun K hK => ?_)
      go_simp
      refine hK _ _ ⟨?_, ?_⟩
      · refine d0_none ?_
        intro e he
        have hm := mem_listed he
        simp [go_sem, *] at hm
      clear hK K
      try w_num
      refine Goes.step rfl (fun _ h₁ => ?_)
      replace hF := hR _ _ hF h₁
      clear h₁
      refine goes_oper_k rfl rfl (by k_ne) (fun K hK => ?_)
      go_simp
      refine hK _ _ ⟨?_, ?_⟩
      · refine d0_none ?_
        intro e he
        have hm := mem_listed he
        simp [go_sem, *] at hm
      clear hK K
      try w_num
      refine Goes.step rfl (fun _ h₁ => ?_)
      replace hF := hR _ _ hF h₁
      clear h₁
      refine goes_oper_k rfl rfl (by k_ne) (fun K hK => ?_)
      go_simp
      refine hK _ _ ⟨?_, ?_⟩
      · refine d0_none ?_
        intro e he
        have hm := mem_listed he
        simp [go_sem, *] at hm
      clear hK K
      try w_num
      refine Goes.step rfl (fun _ h₁ => ?_)
      replace hF := hR _ _ hF h₁
      clear h₁
      rw [stepG_region_end]
      simp only [goes_go]
      refine ⟨d0_none (by intro e he; simp at he), ?_⟩
      refine Goes.step rfl (fun _ h₁ => ?_)
      replace hF := hR _ _ hF h₁
      clear h₁
      rw [stepG_cond (t := true) rfl]
      simp only [goes_go, if_true, if_false, Bool.false_eq_true, ↓reduceIte]
      refine ⟨d0_none (by intro e he; simp at he), ?_⟩
      refine Goes.step rfl (fun _ h₁ => ?_)
      replace hF := hR _ _ hF h₁
      clear h₁
      rw [stepG_region]
      simp only [goes_go, List.size_toArray, List.length_cons, List.length_nil, Nat.reduceAdd, Nat.zero_add, List.range, List.range.loop]
      refine ⟨d0_none (by intro e he; simp at he), ?_⟩
      refine Goes.step rfl (fun _ h₁ => ?_)
      replace hF := hR _ _ hF h₁
      clear h₁
      refine goes_oper_k rfl rfl (by k_ne) (fun K hK => ?_)
      go_simp
      refine hK _ _ ⟨?_, ?_⟩
      · refine d0_none ?_
        intro e he
        have hm := mem_listed he
        simp [go_sem, *] at hm
      clear hK K
      try w_num
      refine Goes.step rfl (fun _ h₁ => ?_)
      replace hF := hR _ _ hF h₁
      clear h₁
      refine goes_oper_k rfl rfl (by k_ne) (fun K hK => ?_)
      go_simp
      refine hK _ _ ⟨?_, ?_⟩
      · refine d0_none ?_
        intro e he
        have hm := mem_listed he
        simp [go_sem, *] at hm
      clear hK K
      try w_num
      refine Goes.step rfl (fun _ h₁ => ?_)
      replace hF := hR _ _ hF h₁
      clear h₁
      refine goes_oper_k rfl rfl (by k_ne) (fun K hK => ?_)
      go_simp
      refine hK _ _ ⟨?_, ?_⟩
      · refine d0_none ?_
        intro e he
        have hm := mem_listed he
        simp [go_sem, *] at hm
      clear hK K
      try w_num
      refine Goes.step rfl (fun _ h₁ => ?_)
      replace hF := hR _ _ hF h₁
      clear h₁
      refine goes_oper_k rfl rfl (by k_ne) (fun Kx hKx => ?_)
      have hcv := run_convert_to_unsafe (P := P) H.underlying_tPU32 H.underlying_tUP H.room_tU32 (WgLive.cell1 (hl _ hF)).choose_spec
      have hce := fun es => events_convert_to_unsafe (P := P) H.underlying_tPU32 H.underlying_tUP H.room_tU32 (WgLive.cell1 (hl _ hF)).choose_spec es
      go_simp
      refine hKx _ _ ⟨?_, ?_⟩
      · refine d0_none ?_
        intro ex hex
        have hmx := mem_listed hex
        simp [go_sem, hce] at hmx
      clear hKx Kx hcv hce
      refine Goes.step rfl (fun _ h₁ => ?_)
      replace hF := hR _ _ hF h₁
      clear h₁
      rw [stepG_markAt .write (by simp) rfl rfl (by k_ne) rfl H.f_raceWrite (x_raceWrite_n L) (x_raceWrite_b L) (x_raceWrite_x L) (x_raceWrite_f L) (ad := ⟨Wg, 1, none⟩) (by simp [Act.eval])]
      simp only [goes_go]
      refine ⟨⟨rfl, fun ex hex => ?_⟩, ?_⟩
      · rw [Array.mem_singleton] at hex
        subst hex
        exact ⟨⟨Wg, 1, none⟩, rfl, .inr rfl⟩
      walk_nrm
      refine Goes.step rfl (fun _ h₁ => ?_)
      replace hF := hR _ _ hF h₁
      clear h₁
      rw [stepG_region_end]
      simp only [goes_go]
      refine ⟨d0_none (by intro e he; simp at he), ?_⟩
      refine Goes.step rfl (fun _ h₁ => ?_)
      replace hF := hR _ _ hF h₁
      clear h₁
      rw [stepG_seq]
      simp only [goes_go]
      refine ⟨d0_none (by intro e he; simp at he), ?_⟩
      refine Goes.step rfl (fun _ h₁ => ?_)
      replace hF := hR _ _ hF h₁
      clear h₁
      rw [stepG_region]
      simp only [goes_go, List.size_toArray, List.length_cons, List.length_nil, Nat.reduceAdd, Nat.zero_add, List.range, List.range.loop]
      refine ⟨d0_none (by intro e he; simp at he), ?_⟩
      refine Goes.step rfl (fun _ h₁ => ?_)
      replace hF := hR _ _ hF h₁
      clear h₁
      refine goes_oper_k rfl rfl (by k_ne) (fun K hK => ?_)
      go_simp
      refine hK _ _ ⟨?_, ?_⟩
      · refine d0_none ?_
        intro e he
        have hm := mem_listed he
        simp [go_sem, *] at hm
      clear hK K
      try w_num
      refine Goes.step rfl (fun _ h₁ => ?_)
      replace hF := hR _ _ hF h₁
      clear h₁
      rw [stepG_region_end]
      simp only [goes_go]
      refine ⟨d0_none (by intro e he; simp at he), ?_⟩
      refine Goes.step rfl (fun _ h₁ => ?_)
      replace hF := hR _ _ hF h₁
      clear h₁
      rw [stepG_seq]
      simp only [goes_go]
      refine ⟨d0_none (by intro e he; simp at he), ?_⟩
      refine Goes.step rfl (fun _ h₁ => ?_)
      replace hF := hR _ _ hF h₁
      clear h₁
      rw [stepG_seq]
      simp only [goes_go]
      refine ⟨d0_none (by intro e he; simp at he), ?_⟩
      refine Goes.step rfl (fun _ h₁ => ?_)
      replace hF := hR _ _ hF h₁
      clear h₁
      rw [stepG_region]
      simp only [goes_go, List.size_toArray, List.length_cons, List.length_nil, Nat.reduceAdd, Nat.zero_add, List.range, List.range.loop]
      refine ⟨d0_none (by intro e he; simp at he), ?_⟩
      refine Goes.step rfl (fun _ h₁ => ?_)
      replace hF := hR _ _ hF h₁
      clear h₁
      refine goes_oper_k rfl rfl (by k_ne) (fun K hK => ?_)
      go_simp
      refine hK _ _ ⟨?_, ?_⟩
      · refine d0_none ?_
        intro e he
        have hm := mem_listed he
        simp [go_sem, *] at hm
      clear hK K
      try w_num
      refine Goes.step rfl (fun _ h₁ => ?_)
      replace hF := hR _ _ hF h₁
      clear h₁
      refine goes_oper_k rfl rfl (by k_ne) (fun K hK => ?_)
      go_simp
      refine hK _ _ ⟨?_, ?_⟩
      · refine d0_none ?_
        intro e he
        have hm := mem_listed he
        simp [go_sem, *] at hm
      clear hK K
      try w_num
      refine Goes.step rfl (fun _ h₁ => ?_)
      replace hF := hR _ _ hF h₁
      clear h₁
      refine goes_oper_k rfl rfl (by k_ne) (fun K hK => ?_)
      go_simp
      refine hK _ _ ⟨?_, ?_⟩
      · refine d0_none ?_
        intro e he
        have hm := mem_listed he
        simp [go_sem, *] at hm
      clear hK K
      try w_num
      refine Goes.step rfl (fun _ h₁ => ?_)
      replace hF := hR _ _ hF h₁
      clear h₁
      refine goes_oper_k rfl rfl (by k_ne) (fun K hK => ?_)
      go_simp
      refine hK _ _ ⟨?_, ?_⟩
      · refine d0_none ?_
        intro e he
        have hm := mem_listed he
        simp [go_sem, *] at hm
      clear hK K
      try w_num
      refine Goes.step rfl (fun _ h₁ => ?_)
      replace hF := hR _ _ hF h₁
      clear h₁
      rw [stepG_unwanted rfl rfl]
      simp only [goes_go]
      refine ⟨d0_none (by intro e he; simp at he), ?_⟩
      walk_nrm
      refine Goes.step rfl (fun _ h₁ => ?_)
      replace hF := hR _ _ hF h₁
      clear h₁
      refine goes_oper_k rfl rfl (by k_ne) (fun K hK => ?_)
      go_simp
      refine hK _ _ ⟨?_, ?_⟩
      · refine d0_none ?_
        intro e he
        have hm := mem_listed he
        simp [go_sem, *] at hm
      clear hK K
      try w_num
      refine Goes.step rfl (fun _ h₁ => ?_)
      replace hF := hR _ _ hF h₁
      clear h₁
      rw [stepG_region_end]
      simp only [goes_go]
      refine ⟨d0_none (by intro e he; simp at he), ?_⟩
      refine Goes.step rfl (fun _ h₁ => ?_)
      replace hF := hR _ _ hF h₁
      clear h₁
      rw [stepG_cond (t := false) rfl]
      simp only [goes_go, if_true, if_false, Bool.false_eq_true, ↓reduceIte]
      refine ⟨d0_none (by intro e he; simp at he), ?_⟩
      refine Goes.step rfl (fun _ h₁ => ?_)
      replace hF := hR _ _ hF h₁
      clear h₁
      rw [stepG_skip]
      simp only [goes_go]
      refine ⟨d0_none (by intro e he; simp at he), ?_⟩
      refine Goes.step rfl (fun _ h₁ => ?_)
      replace hF := hR _ _ hF h₁
      clear h₁
      rw [stepG_seq]
      simp only [goes_go]
      refine ⟨d0_none (by intro e he; simp at he), ?_⟩
      refine Goes.step rfl (fun _ h₁ => ?_)
      replace hF := hR _ _ hF h₁
      clear h₁
      rw [stepG_region]
      simp only [goes_go, List.size_toArray, List.length_cons, List.length_nil, Nat.reduceAdd, Nat.zero_add, List.range, List.range.loop]
      refine ⟨d0_none (by intro e he; simp at he), ?_⟩
      refine Goes.step rfl (fun _ h₁ => ?_)
      replace hF := hR _ _ hF h₁
      clear h₁
      refine goes_oper_k rfl rfl (by k_ne) (fun K hK => ?_)
      go_simp
      refine hK _ _ ⟨?_, ?_⟩
      · refine d0_none ?_
        intro e he
        have hm := mem_listed he
        simp [go_sem, *] at hm
      clear hK K
      try w_num
      refine Goes.step rfl (fun _ h₁ => ?_)
      replace hF := hR _ _ hF h₁
      clear h₁
      refine goes_oper_k rfl rfl (by k_ne) (fun K hK => ?_)
      go_simp
      refine hK _ _ ⟨?_, ?_⟩
      · refine d0_none ?_
        intro e he
        have hm := mem_listed he
        simp [go_sem, *] at hm
      clear hK K
      try w_num
      refine Goes.step rfl (fun _ h₁ => ?_)
      replace hF := hR _ _ hF h₁
      clear h₁
      refine goes_oper_k rfl rfl (by k_ne) (fun K hK => ?_)
      go_simp
      refine hK _ _ ⟨?_, ?_⟩
      · refine d0_none ?_
        intro e he
        have hm := mem_listed he
        simp [go_sem, *] at hm
      clear hK K
      try w_num
      refine Goes.step rfl (fun _ h₁ => ?_)
      replace hF := hR _ _ hF h₁
      clear h₁
      refine goes_oper_k rfl rfl (by k_ne) (fun K hK => ?_)
      go_simp
      refine hK _ _ ⟨?_, ?_⟩
      · refine d0_none ?_
        intro e he
        have hm := mem_listed he
        simp [go_sem, *] at hm
      clear hK K
      try w_num
      refine Goes.stop (fun w₃ h₃ => ?_)
      replace hF := hR _ _ hF h₃
      clear h₃
      refine ⟨rfl, rfl, fun ⟨st, hw⟩ => stepG_semacquire_wait rfl rfl rfl H.f_semacquire (x_semacquire_n L) (x_semacquire_b L) (x_semacquire_x L) (x_semacquire_f L) (by simp [Act.eval, smA]) hw.cellSm, fun hf => ?_⟩
      refine ⟨_, (stepG_semacquire (n := 1) rfl rfl (by k_ne) rfl H.f_semacquire (x_semacquire_n L) (x_semacquire_b L) (x_semacquire_x L) (x_semacquire_f L) (by simp [Act.eval, smA]) hf.cellSm (by k_ne) (hf.thaw 1)).trans (by rfl), 30, GoesO.of ?_⟩
      replace hF : F (w₃.setCell (smA Wg) (.int .u32 0)) := hS _ _ _ hF rfl ⟨_, _, hf.setSm 0⟩
      clear hf
      walk_nrm
      refine Goes.step rfl (fun _ h₁ => ?_)
      replace hF := hR _ _ hF h₁
      clear h₁
      rw [stepG_region_end]
      simp only [goes_go]
      refine ⟨d0_none (by intro e he; simp at he), ?_⟩
      refine Goes.step rfl (fun _ h₁ => ?_)
      replace hF := hR _ _ hF h₁
      clear h₁
      rw [stepG_seq]
      simp only [goes_go]
      refine ⟨d0_none (by intro e he; simp at he), ?_⟩
      refine Goes.step rfl (fun _ h₁ => ?_)
      replace hF := hR _ _ hF h₁
      clear h₁
      rw [stepG_region]
      simp only [goes_go, List.size_toArray, List.length_cons, List.length_nil, Nat.reduceAdd, Nat.zero_add, List.range, List.range.loop]
      refine ⟨d0_none (by intro e he; simp at he), ?_⟩
      refine Goes.step rfl (fun _ h₁ => ?_)
      replace hF := hR _ _ hF h₁
      clear h₁
      refine goes_oper_k rfl rfl (by k_ne) (fun K hK => ?_)
      go_simp
      refine hK _ _ ⟨?_, ?_⟩
      · refine d0_none ?_
        intro e he
        have hm := mem_listed he
        simp [go_sem, *] at hm
      clear hK K
      try w_num
      refine Goes.step rfl (fun _ h₁ => ?_)
      replace hF := hR _ _ hF h₁
      clear h₁
      refine goes_oper_k rfl rfl (by k_ne) (fun K hK => ?_)
      go_simp
      refine hK _ _ ⟨?_, ?_⟩
      · refine d0_none ?_
        intro e he
        have hm := mem_listed he
        simp [go_sem, *] at hm
      clear hK K
      try w_num
      refine Goes.step rfl (fun _ h₁ => ?_)
      replace hF := hR _ _ hF h₁
      clear h₁
      refine goes_oper_k rfl rfl (by k_ne) (fun K hK => ?_)
      go_simp
      refine hK _ _ ⟨?_, ?_⟩
      · refine d0_none ?_
        intro e he
        have hm := mem_listed he
        simp [go_sem, *] at hm
      clear hK K
      try w_num
      refine Goes.step rfl (fun _ h₁ => ?_)
      replace hF := hR _ _ hF h₁
      clear h₁
      refine goes_call rfl rfl (by k_ne) rfl H.f_uLoad (nm_uLoad L) rfl ⟨d0_none (by intro e he; simp at he), ?_⟩
      walk_nrmf uLoadFn
      refine Goes.step rfl (fun _ h₁ => ?_)
      replace hF := hR _ _ hF h₁
      clear h₁
      rw [stepG_seq]
      simp only [goes_go]
      refine ⟨d0_none (by intro e he; simp at he), ?_⟩
      refine Goes.step rfl (fun _ h₁ => ?_)
      replace hF := hR _ _ hF h₁
      clear h₁
      rw [stepG_region]
      simp only [goes_go, List.size_toArray, List.length_cons, List.length_nil, Nat.reduceAdd, Nat.zero_add, List.range, List.range.loop]
      refine ⟨d0_none (by intro e he; simp at he), ?_⟩
      refine Goes.step rfl (fun _ h₁ => ?_)
      replace hF := hR _ _ hF h₁
      clear h₁
      refine goes_oper_k rfl rfl (by k_ne) (fun K hK => ?_)
      go_simp
      refine hK _ _ ⟨?_, ?_⟩
      · refine d0_none ?_
        intro e he
        have hm := mem_listed he
        simp [go_sem, *] at hm
      clear hK K
      try w_num
      refine Goes.step rfl (fun _ h₁ => ?_)
      replace hF := hR _ _ hF h₁
      clear h₁
      rw [stepG_region_end]
      simp only [goes_go]
      refine ⟨d0_none (by intro e he; simp at he), ?_⟩
      refine Goes.step rfl (fun _ h₁ => ?_)
      replace hF := hR _ _ hF h₁
      clear h₁
      rw [stepG_seq]
      simp only [goes_go]
      refine ⟨d0_none (by intro e he; simp at he), ?_⟩
      refine Goes.step rfl (fun _ h₁ => ?_)
      replace hF := hR _ _ hF h₁
      clear h₁
      rw [stepG_region]
      simp only [goes_go, List.size_toArray, List.length_cons, List.length_nil, Nat.reduceAdd, Nat.zero_add, List.range, List.range.loop]
      refine ⟨d0_none (by intro e he; simp at he), ?_⟩
      refine Goes.step rfl (fun _ h₁ => ?_)
      replace hF := hR _ _ hF h₁
      clear h₁
      refine goes_oper_k rfl rfl (by k_ne) (fun K hK => ?_)
      go_simp
      refine hK _ _ ⟨?_, ?_⟩
      · refine d0_none ?_
        intro e he
        have hm := mem_listed he
        simp [go_sem, *] at hm
      clear hK K
      try w_num
      refine Goes.step rfl (fun _ h₁ => ?_)
      replace hF := hR _ _ hF h₁
      clear h₁
      refine goes_oper_k rfl rfl (by k_ne) (fun K hK => ?_)
      go_simp
      refine hK _ _ ⟨?_, ?_⟩
      · refine d0_none ?_
        intro e he
        have hm := mem_listed he
        simp [go_sem, *] at hm
      clear hK K
      try w_num
      refine Goes.step rfl (fun _ h₁ => ?_)
      replace hF := hR _ _ hF h₁
      clear h₁
      refine goes_oper_k rfl rfl (by k_ne) (fun K hK => ?_)
      go_simp
      refine hK _ _ ⟨?_, ?_⟩
      · refine d0_none ?_
        intro e he
        have hm := mem_listed he
        simp [go_sem, *] at hm
      clear hK K
      try w_num
      refine Goes.stop (fun w₄ h₄ => ?_)
      replace hF := hR _ _ hF h₄
      clear h₄
      refine ⟨rfl, fun hw => ⟨_, stepG_load_atomic (v := 0) rfl rfl (by k_ne) rfl H.f_loadU64 (x_loadU64_n L) (x_loadU64_b L) (x_loadU64_x L) .u64 (x_loadU64_f L) rfl hw.cellSt, 30, GoesO.of ?_⟩⟩
      clear hw
      walk_nrm
      refine Goes.step rfl (fun _ h₁ => ?_)
      replace hF := hR _ _ hF h₁
      clear h₁
      refine goes_oper_k rfl rfl (by k_ne) (fun K hK => ?_)
      go_simp
      refine hK _ _ ⟨?_, ?_⟩
      · refine d0_none ?_
        intro e he
        have hm := mem_listed he
        simp [go_sem, *] at hm
      clear hK K
      try w_num
      refine Goes.step rfl (fun _ h₁ => ?_)
      replace hF := hR _ _ hF h₁
      clear h₁
      rw [stepG_region_end]
      simp only [goes_go]
      refine ⟨d0_none (by intro e he; simp at he), ?_⟩
      refine Goes.step rfl (fun _ h₁ => ?_)
      replace hF := hR _ _ hF h₁
      clear h₁
      rw [stepG_ret']
      simp only [goes_go]
      refine ⟨d0_none (by intro e he; simp at he), ?_⟩
      refine Goes.step rfl (fun _ h₁ => ?_)
      replace hF := hR _ _ hF h₁
      clear h₁
      refine goes_leave1 rfl rfl H.f_uLoad rfl ⟨d0_none (by intro e he; simp at he), ?_⟩
      walk_nrm
      refine Goes.step rfl (fun _ h₁ => ?_)
      replace hF := hR _ _ hF h₁
      clear h₁
      refine goes_oper_k rfl rfl (by k_ne) (fun K hK => ?_)
      go_simp
      refine hK _ _ ⟨?_, ?_⟩
      · refine d0_none ?_
        intro e he
        have hm := mem_listed he
        simp [go_sem, *] at hm
      clear hK K
      try w_num
      refine Goes.step rfl (fun _ h₁ => ?_)
      replace hF := hR _ _ hF h₁
      clear h₁
      refine goes_oper_k rfl rfl (by k_ne) (fun K hK => ?_)
      go_simp
      refine hK _ _ ⟨?_, ?_⟩
      · refine d0_none ?_
        intro e he
        have hm := mem_listed he
        simp [go_sem, *] at hm
      clear hK K
      try w_num
      refine Goes.step rfl (fun _ h₁ => ?_)
      replace hF := hR _ _ hF h₁
      clear h₁
      rw [stepG_region_end]
      simp only [goes_go]
      refine ⟨d0_none (by intro e he; simp at he), ?_⟩
      refine Goes.step rfl (fun _ h₁ => ?_)
      replace hF := hR _ _ hF h₁
      clear h₁
      rw [stepG_seq]
      simp only [goes_go]
      refine ⟨d0_none (by intro e he; simp at he), ?_⟩
      refine Goes.step rfl (fun _ h₁ => ?_)
      replace hF := hR _ _ hF h₁
      clear h₁
      rw [stepG_cond (t := true) rfl]
      simp only [goes_go, if_true, if_false, Bool.false_eq_true, ↓reduceIte]
      refine ⟨d0_none (by intro e he; simp at he), ?_⟩
      refine Goes.step rfl (fun _ h₁ => ?_)
      replace hF := hR _ _ hF h₁
      clear h₁
      rw [stepG_seq]
      simp only [goes_go]
      refine ⟨d0_none (by intro e he; simp at he), ?_⟩
      refine Goes.step rfl (fun _ h₁ => ?_)
      replace hF := hR _ _ hF h₁
      clear h₁
      rw [stepG_region]
      simp only [goes_go, List.size_toArray, List.length_cons, List.length_nil, Nat.reduceAdd, Nat.zero_add, List.range, List.range.loop]
      refine ⟨d0_none (by intro e he; simp at he), ?_⟩
      refine Goes.stop (fun w₅ h₅ => ?_)
      replace hF := hR _ _ hF h₅
      clear h₅
      refine ⟨rfl, _, stepG_mark0 .enable (by simp) rfl rfl (by k_ne) rfl H.f_enable (x_enable_n L) (x_enable_b L) (x_enable_x L) (x_enable_f L), 12, GoesO.of ?_⟩
      walk_nrm
      refine Goes.step rfl (fun _ h₁ => ?_)
      replace hF := hR _ _ hF h₁
      clear h₁
      rw [stepG_region_end]
      simp only [goes_go]
      refine ⟨d0_none (by intro e he; simp at he), ?_⟩
      refine Goes.step rfl (fun _ h₁ => ?_)
      replace hF := hR _ _ hF h₁
      clear h₁
      rw [stepG_region]
      simp only [goes_go, List.size_toArray, List.length_cons, List.length_nil, Nat.reduceAdd, Nat.zero_add, List.range, List.range.loop]
      refine ⟨d0_none (by intro e he; simp at he), ?_⟩
      refine Goes.step rfl (fun _ h₁ => ?_)
      replace hF := hR _ _ hF h₁
      clear h₁
      refine goes_oper_k rfl rfl (by k_ne) (fun K hK => ?_)
      go_simp
      refine hK _ _ ⟨?_, ?_⟩
      · refine d0_none ?_
        intro e he
        have hm := mem_listed he
        simp [go_sem, *] at hm
      clear hK K
      try w_num
      refine Goes.step rfl (fun _ h₁ => ?_)
      replace hF := hR _ _ hF h₁
      clear h₁
      refine goes_oper_k rfl rfl (by k_ne) (fun Kx hKx => ?_)
      have hcv := run_convert_to_unsafe (P := P) H.underlying_tWgP H.underlying_tUP H.room_tWg (WgLive.cell0 (hl _ hF)).choose_spec
      have hce := fun es => events_convert_to_unsafe (P := P) H.underlying_tWgP H.underlying_tUP H.room_tWg (WgLive.cell0 (hl _ hF)).choose_spec es
      go_simp
      refine hKx _ _ ⟨?_, ?_⟩
      · refine d0_none ?_
        intro ex hex
        have hmx := mem_listed hex
        simp [go_sem, hce] at hmx
      clear hKx Kx hcv hce
      refine Goes.stop (fun w₆ h₆ => ?_)
      replace hF := hR _ _ hF h₆
      clear h₆
      refine ⟨rfl, _, stepG_markAt .acquire (by simp) rfl rfl (by k_ne) rfl H.f_acquire (x_acquire_n L) (x_acquire_b L) (x_acquire_x L) (x_acquire_f L) (by simp [Act.eval, stA]), rfl, hF, 30, ?_⟩
      walk_nrm
      refine Goes.step rfl (fun _ h₁ => ?_)
      replace hF := hRA _ _ hF h₁
      clear h₁
      rw [stepG_region_end]
      simp only [goes_go]
      refine ⟨dc0_none (by intro e he; simp at he), ?_⟩
      refine Goes.step rfl (fun _ h₁ => ?_)
      replace hF := hRA _ _ hF h₁
      clear h₁
      rw [stepG_seq]
      simp only [goes_go]
      refine ⟨dc0_none (by intro e he; simp at he), ?_⟩
      refine Goes.step rfl (fun _ h₁ => ?_)
      replace hF := hRA _ _ hF h₁
      clear h₁
      rw [stepG_seq]
      simp only [goes_go]
      refine ⟨dc0_none (by intro e he; simp at he), ?_⟩
      refine Goes.step rfl (fun _ h₁ => ?_)
      replace hF := hRA _ _ hF h₁
      clear h₁
      rw [stepG_region]
      simp only [goes_go, List.size_toArray, List.length_cons, List.length_nil, Nat.reduceAdd, Nat.zero_add, List.range, List.range.loop]
      refine ⟨dc0_none (by intro e he; simp at he), ?_⟩
      refine Goes.step rfl (fun _ h₁ => ?_)
      replace hF := hRA _ _ hF h₁
      clear h₁
      refine goes_oper_k rfl rfl (by k_ne) (fun K hK => ?_)
      go_simp
      refine hK _ _ ⟨?_, ?_⟩
      · refine dc0_none ?_
        intro e he
        have hm := mem_listed he
        simp [go_sem, *] at hm
      clear hK K
      try w_num
      refine Goes.step rfl (fun _ h₁ => ?_)
      replace hF := hRA _ _ hF h₁
      clear h₁
      rw [stepG_region_end]
      simp only [goes_go]
      refine ⟨dc0_none (by intro e he; simp at he), ?_⟩
      refine Goes.step rfl (fun _ h₁ => ?_)
      replace hF := hRA _ _ hF h₁
      clear h₁
      rw [stepG_cond (t := false) rfl]
      simp only [goes_go, if_true, if_false, Bool.false_eq_true, ↓reduceIte]
      refine ⟨dc0_none (by intro e he; simp at he), ?_⟩
      refine Goes.step rfl (fun _ h₁ => ?_)
      replace hF := hRA _ _ hF h₁
      clear h₁
      rw [stepG_skip]
      simp only [goes_go]
      refine ⟨dc0_none (by intro e he; simp at he), ?_⟩
      refine Goes.step rfl (fun _ h₁ => ?_)
      replace hF := hRA _ _ hF h₁
      clear h₁
      rw [stepG_ret']
      simp only [goes_go]
      refine ⟨dc0_none (by intro e he; simp at he), ?_⟩
      refine Goes.step rfl (fun _ h₁ => ?_)
      replace hF := hRA _ _ hF h₁
      clear h₁
      refine goes_leave0 rfl rfl H.f_wait rfl ⟨dc0_none (by intro e he; simp at he), ?_⟩
      walk_nrm
      exact Goes.stop fun w₇ h₇ => ⟨rfl, hRA _ _ hF h₇⟩
    · refine ⟨_, stepG_cas_miss (v := (v' : Int) * KK) (old := S) (n := S + 1) rfl rfl (by k_ne) rfl H.f_casU64 (x_casU64_n L) (x_casU64_b L) (x_casU64_x L) .u64 (x_casU64_f L) rfl rfl rfl hw.cellSt (hw.thaw 0) (by rw [← hS2]; simp only [KK]; omega), 20, GoesO.of ?_⟩
      clear hw
      walk_nrm
      refine Goes.step rfl (fun _ h₁ => ?_)
      replace hF := hR _ _ hF h₁
      clear h₁
      refine goes_oper_k rfl rfl (by k_ne) (fun K hK => ?_)
      go_simp
      refine hK _ _ ⟨?_, ?_⟩
      · refine d0_none ?_
        intro e he
        have hm := mem_listed he
        simp [go_sem, *] at hm
      clear hK K
      try w_num
      refine Goes.step rfl (fun _ h₁ => ?_)
      replace hF := hR _ _ hF h₁
      clear h₁
      rw [stepG_region_end]
      simp only [goes_go]
      refine ⟨d0_none (by intro e he; simp at he), ?_⟩
      refine Goes.step rfl (fun _ h₁ => ?_)
      replace hF := hR _ _ hF h₁
      clear h₁
      rw [stepG_ret']
      simp only [goes_go]
      refine ⟨d0_none (by intro e he; simp at he), ?_⟩
      refine Goes.step rfl (fun _ h₁ => ?_)
      replace hF := hR _ _ hF h₁
      clear h₁
      refine goes_leave1 rfl rfl H.f_uCas rfl ⟨d0_none (by intro e he; simp at he), ?_⟩
      walk_nrm
      refine Goes.step rfl (fun _ h₁ => ?_)
      replace hF := hR _ _ hF h₁
      clear h₁
      rw [stepG_region_end]
      simp only [goes_go]
      refine ⟨d0_none (by intro e he; simp at he), ?_⟩
      refine Goes.step rfl (fun _ h₁ => ?_)
      replace hF := hR _ _ hF h₁
      clear h₁
      rw [stepG_cond (t := false) rfl]
      simp only [goes_go, if_true, if_false, Bool.false_eq_true, ↓reduceIte]
      refine ⟨d0_none (by intro e he; simp at he), ?_⟩
      refine Goes.step rfl (fun _ h₁ => ?_)
      replace hF := hR _ _ hF h₁
      clear h₁
      rw [stepG_skip]
      simp only [goes_go]
      refine ⟨d0_none (by intro e he; simp at he), ?_⟩
      refine Goes.step rfl (fun _ h₁ => ?_)
      replace hF := hR _ _ hF h₁
      clear h₁
      rw [stepG_inBlock]
      simp only [goes_go]
      refine ⟨d0_none (by intro e he; simp at he), ?_⟩
      refine Goes.step rfl (fun _ h₁ => ?_)
      replace hF := hR _ _ hF h₁
      clear h₁
      rw [stepG_inLoop]
      simp only [goes_go]
      refine ⟨d0_none (by intro e he; simp at he), ?_⟩
      refine Goes.stop (fun w₃ h₃ => ?_)
      replace hF := hR _ _ hF h₃
      clear h₃
      exact ⟨rfl, _, rfl, by simp, by simp, hF⟩
set_option maxRecDepth 100000 in
/-- from Wait's entry to the loop's head -/
theorem waitStartO {P : Program} {FinP : OSt → Goroutine → World → Prop} (H : WgLib P L) (hR : ∀ w w₁, F w → RO L.tWg Wg C n none s.o w w₁ → F w₁) (w : World) (hF : F w) :
    GoesO L.tWg Wg C n P true none (AtKd P L.tWg Wg C n (AnchO L F s Wg (b₀.at a₀ (.inRegion ops₀ (i₀ :: rest₀) :: k₀)) cs)) 3 s
      (G ((base L.wait).at ⟨#[.pointer (some ⟨Wg, 0, none⟩), undef, undef, undef, undef, undef, undef, undef, undef, undef, undef, undef, undef, undef, undef, undef, undef, undef, undef, undef, undef, undef, undef, undef, undef, undef, undef, undef, undef, undef, undef, undef, undef, undef, undef, undef, undef, undef, undef, undef, undef, undef, undef, undef, undef, undef, undef, undef, undef, undef, undef, undef, undef, undef, undef, undef, undef, undef, undef, undef, undef, undef, undef, undef, undef, undef, undef, undef, undef, undef, undef, undef, undef, undef, undef, undef, undef, undef, undef, undef, undef, undef, undef, undef], []⟩ [.code (body_wait L)]) (b₀.at a₀ (.inRegion ops₀ (i₀ :: rest₀) :: k₀) :: cs)) w := by
  lib_facts
  refine GoesO.of ?_
  simp only [body_wait, waitFn, Option.getD_some]
  refine Goes.step rfl (fun _ h₁ => ?_)
  replace hF := hR _ _ hF h₁
  clear h₁
  rw [stepG_seq]
  simp only [goes_go]
  refine ⟨d0_none (by intro e he; simp at he), ?_⟩
  refine Goes.step rfl (fun _ h₁ => ?_)
  replace hF := hR _ _ hF h₁
  clear h₁
  rw [stepG_cond (t := true) rfl]
  simp only [goes_go, if_true, if_false, Bool.false_eq_true, ↓reduceIte]
  refine ⟨d0_none (by intro e he; simp at he), ?_⟩
  refine Goes.step rfl (fun _ h₁ => ?_)
  replace hF := hR _ _ hF h₁
  clear h₁
  rw [stepG_region]
  simp only [goes_go, List.size_toArray, List.length_cons, List.length_nil, Nat.reduceAdd, Nat.zero_add, List.range, List.range.loop]
  refine ⟨d0_none (by intro e he; simp at he), ?_⟩
  refine Goes.stop (fun w₁ h₁ => ?_)
  replace hF := hR _ _ hF h₁
  clear h₁
  refine ⟨rfl, _, stepG_mark0 .disable (by simp) rfl rfl (by k_ne) rfl H.f_disable (x_disable_n L) (x_disable_b L) (x_disable_x L) (x_disable_f L), 3, GoesO.of ?_⟩
  walk_nrm
  refine Goes.step rfl (fun _ h₁ => ?_)
  replace hF := hR _ _ hF h₁
  clear h₁
  rw [stepG_region_end]
  simp only [goes_go]
  refine ⟨d0_none (by intro e he; simp at he), ?_⟩
  refine Goes.step rfl (fun _ h₁ => ?_)
  replace hF := hR _ _ hF h₁
  clear h₁
  rw [stepG_block]
  simp only [goes_go]
  refine ⟨d0_none (by intro e he; simp at he), ?_⟩
  refine Goes.step rfl (fun _ h₁ => ?_)
  replace hF := hR _ _ hF h₁
  clear h₁
  rw [stepG_loop]
  simp only [goes_go]
  refine ⟨d0_none (by intro e he; simp at he), ?_⟩
  refine Goes.stop (fun w₂ h₂ => ?_)
  replace hF := hR _ _ hF h₂
  clear h₂
  exact ⟨rfl, _, rfl, by simp, by simp, hF⟩
end
end Go.Sf

/-! The phase, part 11: a region that draws its order, with calls among its operations, in company (after the kit's Conc/CompanyDraw, which bears no call) -/
namespace Go.Sf
open Go Go.Conc
section
variable {P : Program} {main : Bool} {R : World → World → Prop} {D : World → World → Array Event → Prop} {fn : FuncId} {ops : Array Oper} {Q : Exit → Act → World → Prop} {md : Region.Mode} {S : World → Prop} {nf : Nat}
/-- a call is entered -/
theorem stepG_enterOp {b : Frame} {a : Act} {k : List Item} {cs : List Frame} {w w' : World} {i : Nat} {rest : List Nat} {o : Oper} {f : FuncId} {args : Array Value}
    (ho : ops[i]? = some o) (hw : Region.wanted o (yielded ops a.tmps) = true) (hk : b.kind ≠ .early) (hr : (execOp a.eval o).run P w = .ok (.enter f args) w') :
    stepG P main (G (b.at a (.inRegion ops (i :: rest) :: k)) cs) w = .go (G (Frame.enter P f args .normal) (b.at a (.inRegion ops (i :: rest) :: k) :: cs)) w' (listed P b.fn a o w) := by
  have hk' : (b.kind == CallKind.early) = false := by simpa using hk
  rw [stepG_oper ho hw]
  simp [stepG.apply, hr, G, Frame.at, hk', GStep.after, listed]
/-- what comes of an operation, calls among them -/
def uponX (P : Program) (main : Bool) (R : World → World → Prop) (D : World → World → Array Event → Prop) (fn : FuncId) (nf : Nat) (o : Oper) (a : Act) (w₁ : World) (K : Act → World → Prop) : Result Next → Prop
  | .ok (.value v) w' => D w₁ w' (listed P fn a o w₁) ∧ K (a.put o.dst v) w'
  | .ok .skip w' => D w₁ w' (listed P fn a o w₁) ∧ K (a.put o.dst undef) w'
  | .ok (.enter f args) w' => D w₁ w' (listed P fn a o w₁) ∧ ∃ Post, CallsC P main R D f args nf w' Post ∧ ∀ v w'', Post v w'' → K (a.put o.dst v) w''
  | _ => False
theorem uponX_mono {o : Oper} {a : Act} {w₁ : World} {K K' : Act → World → Prop} (h : ∀ a w, K a w → K' a w) {r : Result Next} (hh : uponX P main R D fn nf o a w₁ K r) : uponX P main R D fn nf o a w₁ K' r := by
  cases r with
  | ok n w' => cases n <;> first | exact ⟨hh.1, h _ _ hh.2⟩ | exact hh.elim | exact ⟨hh.1, hh.2.choose, hh.2.choose_spec.1, fun v w'' q => h _ _ (hh.2.choose_spec.2 v w'' q)⟩
  | halt x w' => exact hh
def OpX (P : Program) (main : Bool) (R : World → World → Prop) (D : World → World → Array Event → Prop) (fn : FuncId) (nf : Nat) (ops : Array Oper) (i : Nat) (K : Act → World → Prop) (a : Act) (w : World) : Prop :=
  match ops[i]? with
  | none => False
  | some o => if Region.wanted o (yielded ops a.tmps) then ∀ w₁, R w w₁ → uponX P main R D fn nf o a w₁ K ((execOp a.eval o).run P w₁) else K (a.put o.dst undef) w
theorem OpX_mono {i : Nat} {a : Act} {w : World} {K K' : Act → World → Prop} (h : ∀ a w, K a w → K' a w) (hh : OpX P main R D fn nf ops i K a w) : OpX P main R D fn nf ops i K' a w := by
  unfold OpX at *
  split
  · simp_all
  · rename_i o ho
    simp only [ho] at hh
    split
    · rename_i hw; simp only [hw, if_true] at hh; exact fun w₁ h₁ => uponX_mono h (hh w₁ h₁)
    · rename_i hw; simp only [hw] at hh; exact h _ _ hh
/-- to the judgement: the operation, then the rest -/
theorem opsC_of_opX (T : Terms R D) {i : Nat} {rest : List Nat} {n : Nat} {a : Act} {w : World} (h : OpX P main R D fn nf ops i (fun a' w' => OpsC P main R D fn ops rest n Q a' w') a w) : OpsC P main R D fn ops (i :: rest) (n + (nf + 3)) Q a w := by
  unfold OpX at h
  split at h
  · exact h.elim
  · rename_i o ho
    split at h
    · rename_i hw
      intro b k cs Stop m hb hk hc
      rw [show m + (n + (nf + 3)) = (m + n + nf + 2) + 1 by omega]
      refine Goes.step rfl fun w₁ h₁ => ?_
      have hu := h w₁ h₁
      generalize hr : (execOp a.eval o).run P w₁ = r at hu
      cases r with
      | halt x w' => exact hu.elim
      | ok x w' =>
        cases x with
        | value v =>
          rw [stepG_value ho hw hk hr]
          exact ⟨hb ▸ hu.1, (hu.2 b k cs Stop m hb hk hc).mono (by omega)⟩
        | skip =>
          rw [stepG_none ho hw hk hr]
          exact ⟨hb ▸ hu.1, (hu.2 b k cs Stop m hb hk hc).mono (by omega)⟩
        | enter f args =>
          obtain ⟨hd, Post, ⟨fnc, c, hf, hname, hbody, hwp⟩, hnext⟩ := hu
          rw [stepG_enterOp ho hw hk hr]
          refine ⟨hb ▸ hd, ?_⟩
          have hfin : ∀ v, (b.at a (.inRegion ops (i :: rest) :: k)).finish v = b.at (a.put o.dst v) (.inRegion ops rest :: k) := fun v => by rw [Frame.finish_at, ho]; rfl
          have hleave : ∀ (a' : Act) (w' : World) (todo : List Item), (a'.defers = [] ∧ ∃ v, ResultsC P fnc a'.tmps v ∧ Post v w') →
              Goes P main R D Stop (m + n + 1) (G { (base f).at a' todo with mode := .returning } (b.at a (.inRegion ops (i :: rest) :: k) :: cs)) w' := by
            rintro a' w' todo ⟨hdf, v, hrs, hp⟩
            refine Goes.step rfl fun w₁ h₁ => ?_
            rw [stepG_leave (b := base f) rfl hdf hf (hrs w₁).1 (hrs w₁).2, hfin]
            exact ⟨T.idle _, (hnext v w' hp b k cs Stop m hb hk hc).rely T.trans h₁⟩
          have hent : Frame.enter P f args .normal = (base f).at { tmps := args ++ Array.replicate (fnc.ntmps - args.size) undef, defers := [] } [.code c] := by
            simp [Frame.enter, hf, hbody, base, Frame.at]
          rw [hent]
          have := hwp (base f) [] (b.at a (.inRegion ops (i :: rest) :: k) :: cs) Stop (m + n + 2) rfl (by simp [base]) fun e a' w' q => by
            cases e with
            | normal => exact Goes.step rfl fun w₁ h₁ => by rw [stepG_end]; exact ⟨T.idle _, (hleave a' w' [] q).rely T.trans h₁⟩
            | ret => exact fun todo => (hleave a' w' todo q).more
            | exit id => exact q.elim
            | goto l => exact q.elim
            | panic ch => exact q.elim
            | outgrown => exact q.elim
          exact this.mono (by omega)
        | _ => exact hu.elim
    · rename_i hw; exact opsC_more (opsC_unwanted T ho (by simpa using hw) h) (by omega)
/-- whatever order is picked from here on, and S holds behind every operation that is carried out -/
def AnyX (P : Program) (main : Bool) (R : World → World → Prop) (D : World → World → Array Event → Prop) (fn : FuncId) (nf : Nat) (md : Region.Mode) (ops : Array Oper) (Q : Exit → Act → World → Prop) (S : World → Prop) : Nat → Array Bool → Act → World → Prop
  | 0, listed, a, w => Region.ready md ops listed = [] ∧ Q .normal a w
  | fuel + 1, listed, a, w =>
    (Region.ready md ops listed = [] → Q .normal a w) ∧
    ∀ i ∈ Region.ready md ops listed, OpX P main R D fn nf ops i (fun a' w' => S w' ∧ AnyX P main R D fn nf md ops Q S fuel (listed.setIfInBounds i true) a' w') a w
theorem AnyX.rely (T : Terms R D) (hSR : ∀ x y, S x → R x y → S y) (hQR : ∀ a x y, Q .normal a x → R x y → Q .normal a y) :
    ∀ (fuel : Nat) (listed : Array Bool) (a : Act) (w w₁ : World), AnyX P main R D fn nf md ops Q S fuel listed a w → R w w₁ → AnyX P main R D fn nf md ops Q S fuel listed a w₁
  | 0, _, _, _, _, h, r => ⟨h.1, hQR _ _ _ h.2 r⟩
  | fuel + 1, listed, a, w, w₁, h, r => ⟨fun e => hQR _ _ _ (h.1 e) r, fun i hi => by
      have := h.2 i hi
      unfold OpX at *
      split
      · simp_all
      · rename_i o ho
        simp only [ho] at this
        split
        · rename_i hw; simp only [hw, if_true] at this; exact fun w₂ h₂ => this w₂ (T.trans _ _ _ r h₂)
        · rename_i hw; simp only [hw] at this; exact ⟨hSR _ _ this.1 r, AnyX.rely T hSR hQR fuel _ _ _ _ this.2 r⟩⟩
theorem anyX_sound (T : Terms R D) : ∀ (fuel t : Nat) (listed : Array Bool) (a : Act) (w : World), AnyX P main R D fn nf md ops Q S fuel listed a w →
    OpsC P main R D fn ops (Region.linearise.go md ops fuel t listed []) (fuel * (nf + 3) + 1) Q a w := by
  intro fuel
  induction fuel with
  | zero => intro t listed a w h; simpa [Region.linearise.go] using opsC_nil T h.2
  | succ fuel ih =>
    intro t listed a w h
    obtain ⟨h₀, h₁⟩ := h
    have hbound : fuel * (nf + 3) + 1 + (nf + 3) = (fuel + 1) * (nf + 3) + 1 := by rw [Nat.succ_mul]; omega
    simp only [Region.linearise.go]
    change OpsC P main R D fn ops (match (Region.ready md ops listed)[t % (Region.ready md ops listed).length]? with
      | some i => Region.linearise.go md ops fuel (t / (Region.ready md ops listed).length) (listed.setIfInBounds i true) [i]
      | none => [].reverse) ((fuel + 1) * (nf + 3) + 1) Q a w
    cases hi : (Region.ready md ops listed)[t % (Region.ready md ops listed).length]? with
    | none =>
      have hnil : Region.ready md ops listed = [] := by
        cases hr : Region.ready md ops listed with
        | nil => rfl
        | cons x xs =>
          rw [hr] at hi
          have hlt : t % (x :: xs).length < (x :: xs).length := Nat.mod_lt _ (by simp)
          simp at hi
          simp at hlt
          omega
      exact opsC_more (by simpa using opsC_nil T (h₀ hnil)) (by omega)
    | some i =>
      simp only []
      rw [linearise_go_acc, List.reverse_singleton, List.singleton_append, ← hbound]
      exact opsC_of_opX T (OpX_mono (fun a' w' x => ih _ _ a' w' x.2) (h₁ i (List.mem_of_getElem? hi)))
theorem yields_opX (hSR : ∀ x y, S x → R x y → S y) {i : Nat} {o : Oper} {v : Value} {a : Act} (hi : ops[i]? = some o) (hy : YieldsIfC P D fn ops S o v a)
    {K : Act → World → Prop} (hK : ∀ a x y, K a x → R x y → K a y) {w : World} (hS : S w) (h : K (a.put o.dst v) w) : OpX P main R D fn nf ops i K a w := by
  unfold OpX
  simp only [hi]
  rcases hy with ⟨hw, hv⟩ | ⟨hw, rfl⟩
  · simp only [hw, if_true]
    intro w₁ h₁
    rw [(hv w₁ (hSR _ _ hS h₁)).1]
    exact ⟨(hv w₁ (hSR _ _ hS h₁)).2, hK _ _ _ h h₁⟩
  · simp only [hw, Bool.false_eq_true, if_false]; exact h
theorem OpX_putIf {j : Nat} {oi oj : Oper} {v : Value} (hj : ops[j]? = some oj) (hap : oi.apart ops oj = true)
    (hsi : ∀ cs b, oi.op ≠ .select cs b) (hsj : ∀ cs b, oj.op ≠ .select cs b) {K : Act → World → Prop} {a : Act} {w : World}
    (hy : YieldsIfC P D fn ops S oi v a) (h : OpX P main R D fn nf ops j K (a.put oi.dst v) w) :
    OpX P main R D fn nf ops j (fun a' w' => YieldsIfC P D fn ops S oi v a' ∧ K (a'.put oi.dst v) w') a w := by
  obtain ⟨h1, h2, h3⟩ := Oper.apart_spec hap
  have keep : ∀ (a : Act), YieldsIfC P D fn ops S oi v a → ∀ u, YieldsIfC P D fn ops S oi v (a.put oj.dst u) := fun a hy u =>
    hy.of_same (execOp_put oi hsi a oj.dst u h3) (wanted_put oi a oj.dst u h3)
  unfold OpX at *
  simp only [hj] at *
  rw [wanted_put oj a oi.dst v h1] at h
  split
  · rename_i hw
    simp only [hw, if_true] at h
    intro w₁ h₁
    have h := h w₁ h₁
    unfold uponX listed at *
    rw [execOp_put oj hsj a oi.dst v h1] at h
    generalize (execOp a.eval oj).run P w₁ = r at *
    cases r with
    | ok n w' =>
      cases n <;> simp only at h ⊢
      case value u => exact ⟨h.1, keep a hy u, by rw [← Act.put_comm a v u h2]; exact h.2⟩
      case skip => exact ⟨h.1, keep a hy _, by rw [← Act.put_comm a v undef h2]; exact h.2⟩
      case enter f args => exact ⟨h.1, h.2.choose, h.2.choose_spec.1, fun u w'' q => ⟨keep a hy u, by rw [← Act.put_comm a v u h2]; exact h.2.choose_spec.2 u w'' q⟩⟩
    | halt x w' => simp only at h
  · rename_i hw
    simp only [hw] at h
    exact ⟨keep a hy _, by rw [← Act.put_comm a v undef h2]; exact h⟩
theorem anyX_first (T : Terms R D) (hSR : ∀ x y, S x → R x y → S y) (hQR : ∀ a x y, Q .normal a x → R x y → Q .normal a y) {i : Nat} {oi : Oper} {v : Value} (hi : ops[i]? = some oi)
    (hsel : ∀ (j : Nat) (o : Oper) cs b, ops[j]? = some o → o.op ≠ .select cs b) :
    ∀ (fuel : Nat) (listed : Array Bool) (a : Act) (w : World),
      (∀ j oj, ops[j]? = some oj → j ≠ i → listed.getD j true = false → (∀ e ∈ oj.after, Region.binds md e = true → e.on ≠ i) → oi.apart ops oj = true) →
      i ∈ Region.ready md ops listed → YieldsIfC P D fn ops S oi v a → S w →
      AnyX P main R D fn nf md ops Q S fuel (listed.setIfInBounds i true) (a.put oi.dst v) w → AnyX P main R D fn nf md ops Q S (fuel + 1) listed a w := by
  have hK : ∀ fuel listed, ∀ a x y, (S x ∧ AnyX P main R D fn nf md ops Q S fuel listed a x) → R x y → (S y ∧ AnyX P main R D fn nf md ops Q S fuel listed a y) :=
    fun fuel listed a x y h r => ⟨hSR _ _ h.1 r, AnyX.rely T hSR hQR fuel listed a x y h.2 r⟩
  intro fuel
  induction fuel with
  | zero =>
    intro listed a w _ hr hy hS H
    refine ⟨fun h => (by rw [h] at hr; cases hr), fun j hj => ?_⟩
    by_cases hji : j = i
    · subst hji; exact yields_opX hSR hi hy (hK _ _) hS ⟨hS, H⟩
    · have := ready_mono hj hji
      rw [H.1] at this
      cases this
  | succ fuel ih =>
    intro listed a w hfree hr hy hS H
    refine ⟨fun h => (by rw [h] at hr; cases hr), fun j hj => ?_⟩
    by_cases hji : j = i
    · subst hji; exact yields_opX hSR hi hy (hK _ _) hS ⟨hS, H⟩
    · have h1 := H.2 j (ready_mono hj hji)
      obtain ⟨hjun, oj, hoj, hall⟩ := mem_ready.1 hj
      have hnot : ∀ e ∈ oj.after, Region.binds md e = true → e.on ≠ i := fun e he hb heq => by
        have h1 := hall e he hb
        have h0 := (mem_ready.1 hr).1
        rw [heq] at h1
        rcases Nat.lt_or_ge i listed.size with h' | h'
        · simp [h'] at h0 h1; rw [h0] at h1; cases h1
        · simp [Array.getElem?_eq_none h'] at h1
      have h2 := OpX_putIf hoj (hfree j oj hoj hji hjun hnot) (fun cs b => hsel i oi cs b hi) (fun cs b => hsel j oj cs b hoj) hy h1
      have hfree' : ∀ k ok, ops[k]? = some ok → k ≠ i → (listed.setIfInBounds j true).getD k true = false →
          (∀ e ∈ ok.after, Region.binds md e = true → e.on ≠ i) → oi.apart ops ok = true := fun k ok hk hki hun hno => by
        refine hfree k ok hk hki ?_ hno
        by_cases hjk : j = k
        · subst hjk; exact hjun
        · rw [getD_set_ne true hjk] at hun; exact hun
      refine OpX_mono (fun a' w' h3 => ⟨h3.2.1, ih (listed.setIfInBounds j true) a' w' hfree' (ready_mono hr (Ne.symm hji)) h3.1 h3.2.1 ?_⟩) h2
      rw [Array.setIfInBounds_comm _ _ hji]
      exact h3.2.2
/-- take number i first -/
theorem anyX_take (T : Terms R D) (hSR : ∀ x y, S x → R x y → S y) (hQR : ∀ a x y, Q .normal a x → R x y → Q .normal a y) {i : Nat} {oi : Oper} {v : Value} {fuel : Nat} {listed : Array Bool} {a : Act} {w : World} (hi : ops[i]? = some oi)
    (hs : Region.noSelect ops = true) (hf : Region.free md ops listed i = true) (hr : (Region.ready md ops listed).contains i = true)
    (hy : YieldsIfC P D fn ops S oi v a) (hS : S w) (h : AnyX P main R D fn nf md ops Q S fuel (listed.setIfInBounds i true) (a.put oi.dst v) w) : AnyX P main R D fn nf md ops Q S (fuel + 1) listed a w :=
  anyX_first T hSR hQR hi (Region.noSelect_spec hs) fuel listed a w (Region.free_spec hi hf) (by simpa using hr) hy hS h
/-- one alone may come up -/
theorem anyX_only {i : Nat} {fuel : Nat} {listed : Array Bool} {a : Act} {w : World} (hr : Region.ready md ops listed = [i])
    (h : OpX P main R D fn nf ops i (fun a' w' => S w' ∧ AnyX P main R D fn nf md ops Q S fuel (listed.setIfInBounds i true) a' w') a w) : AnyX P main R D fn nf md ops Q S (fuel + 1) listed a w :=
  ⟨fun h0 => (by rw [hr] at h0; cases h0), fun j hj => (by rw [hr] at hj; obtain rfl : j = i := (by simpa using hj); exact h)⟩
theorem anyX_done {listed : Array Bool} {a : Act} {w : World} (hr : Region.ready md ops listed = []) (h : Q .normal a w) : ∀ fuel, AnyX P main R D fn nf md ops Q S fuel listed a w
  | 0 => ⟨hr, h⟩
  | _ + 1 => ⟨fun _ => h, fun i hi => by rw [hr] at hi; cases hi⟩
theorem wpC_region_X (T : Terms R D) (hd : LetsDraw D) {id : Nat} {a : Act} {w : World} (hm : P.follows .mixedOrders = true)
    (h : ∀ w₁, R w w₁ → AnyX P main R D fn nf .any ops Q S ops.size (Array.replicate ops.size false) a { w₁ with drawn := w₁.drawn + 1 }) : (Code.region id ops true).wpC P main R D fn (ops.size * (nf + 3) + 1 + 1) Q a w :=
  wpC_region_draw hd fun w₁ h₁ t => by
    simp only [Region.schedule, hm, Bool.true_or, if_true]
    exact anyX_sound T ops.size t _ a _ (h w₁ h₁)
end
end Go.Sf
