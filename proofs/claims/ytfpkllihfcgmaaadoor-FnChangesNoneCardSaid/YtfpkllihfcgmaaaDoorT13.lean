/- The directory that a path is in; the node with a path. -/
import Derived.Test.YtfpkllihfcgmaaaDoorT12
import Derived.IntWalk
namespace Go.Sf
open Go Go.RowKit Go.Proofs
theorem SlIn.take {α : Type} {B : Nat} {t : TypeId} {sz : Nat} {E : World → Array Value → Nat → α → Prop} {w : World} {A : Option Addr} {c : Nat} {l : List α} (h : SlIn B t sz E w A c l) (j : Nat) : SlIn B t sz E w A c (l.take j) := by
  obtain ⟨h1, h2, h3, h4⟩ := h
  have := List.length_take_le j l
  have := List.length_take_le' j l
  exact ⟨by omega, h2, by omega, fun k x hx => h4 k x (by rw [List.getElem?_take] at hx; split at hx <;> first | exact hx | cases hx)⟩
/-- a directory: the root, or an item that is one -/
def isDir (l : List It) (k : Key) : Prop := k = [] ∨ ∃ z, z ∈ l ∧ key z = k ∧ z.dir = true
theorem isDir.key {l : List It} {k : Key} (h : isDir l k) : isKey l k := h.imp_right fun ⟨z, h1, h2, _⟩ => ⟨z, h1, h2⟩
/-- p is a path, and its parent a directory -/
def inDir (l : List It) (p : ByteArray) : Prop := pathOk p = true ∧ isDir l (cut (bl p)).dropLast
def lastB (p : ByteArray) : ByteArray := mkB ((cut (bl p)).getLastD [])
open Classical in
noncomputable def dirOfV (l : List It) (adr : Key → Nat) (p : ByteArray) : Value :=
  if inDir l p then .tuple #[.pointer (some ⟨adr (cut (bl p)).dropLast, 0, none⟩), .string (lastB p)] else .tuple #[.pointer none, .string ⟨#[]⟩]
theorem dirOfV_yes {l : List It} {adr : Key → Nat} {p : ByteArray} (h : inDir l p) : dirOfV l adr p = .tuple #[.pointer (some ⟨adr (cut (bl p)).dropLast, 0, none⟩), .string (lastB p)] := by unfold dirOfV; rw [if_pos h]
theorem dirOfV_no {l : List It} {adr : Key → Nat} {p : ByteArray} (h : ¬ inDir l p) : dirOfV l adr p = .tuple #[.pointer none, .string ⟨#[]⟩] := by unfold dirOfV; rw [if_neg h]
section
variable {B : Nat} {w : World} {l : List It} {adr : Key → Nat} {kv : Key → Value}
set_option maxHeartbeats 1000000 in
theorem dirOf_c (h : TreeAt B w l adr kv) (hg : Grow l) (hl : l.length ≤ lim) (p : ByteArray) (hp : p.size < lim) (hm : ML w) :
    Calls Tryd.prog 53 #[.pointer (some ⟨adr [], 0, none⟩), .string p] w (Ret (dirOfV l adr p) w) := by
  have H := Lib.hid h; clear h
  have HG := Lib.hid hg; clear hg
  have HM := Lib.hid hm; clear hm
  have Hl := Lib.hid hl; clear hl
  cases hok : pathOk p with
  | false =>
    have Hno := Lib.hid (dirOfV_no (l := l) (adr := adr) (p := p) (fun h => by rw [h.1] at hok; cases hok))
    have Hpl := Lib.hid (partsL_bad hok)
    clear hok
    go_enter Tryd.func53, Tryd.ntmps53
    go_wp2_with (go_at_call 67; refine (PathParts_c p _ hp HM.out).mono ?_; rintro e w1 ⟨v, rfl, ⟨ps, hps, hS⟩, he1⟩; rw [Hpl.out, List.map_eq_nil_iff] at hps; subst hps; obtain ⟨A, c, rfl, hA⟩ := hS; have HA := Lib.hid hA; clear hA)
    go_ret2
    exact ⟨ret_v Hno.out.symm, he1⟩
  | true =>
    have hpe : partsL p = cut (bl p) := by rw [partsL, if_pos hok]
    have Hok := Lib.hid hok
    have Hpe := Lib.hid hpe
    clear hok hpe
    go_enter Tryd.func53, Tryd.ntmps53
    go_wp2_with fail
    refine (PathParts_c p _ hp HM.out).mono ?_
    rintro e w1 ⟨v, rfl, ⟨ps, hps, A, c, rfl, hA⟩, he1⟩
    rw [Hpe.out] at hps
    have hl4 : ps.length ≤ 4 := by
      have h1 := congrArg List.length hps
      rw [List.length_map] at h1
      have h2 := Hok.out
      simp only [pathOk, pathOkL, Bool.and_eq_true, decide_eq_true_eq] at h2
      omega
    have hne : ps ≠ [] := by rintro rfl; exact cutG_ne _ _ hps.symm
    obtain ⟨qs, x, rfl⟩ : ∃ qs x, ps = qs ++ [x] := ⟨ps.dropLast, ps.getLast hne, (List.dropLast_concat_getLast hne).symm⟩
    have hq1 : (cut (bl p)).dropLast = qs.map bl := by rw [← hps]; simp
    have hq2 : lastB p = x := by rw [lastB, ← hps]; simp [mkB_bl]
    have hx : (qs ++ [x])[qs.length]? = some x := by simp
    obtain ⟨b, o, rfl, -, -, hxs, hcc⟩ := Strs.at_ hA hx
    have hS : Strs w.heap.size w1 (.slice (some ⟨b, o, none⟩) qs.length c) qs := ⟨_, c, rfl, by have := hA.take qs.length; simpa using this⟩
    have hqc : qs.length + 1 ≤ c := by have := hA.1; simpa using this
    have hcm := hA.2.1.1
    unfold maxLen at hcm
    simp only [List.length_append, List.length_singleton] at hl4 ⊢
    have Hq1 := Lib.hid hq1
    have Hq2 := Lib.hid hq2
    have HS := Lib.hid hS
    generalize hm : qs.length = m at *
    have Hm := Lib.hid hm
    clear hps hne hq1 hq2 hx hS hA hm Hpe
    have hwm : IntKind.i64.wrap ((m : Int) + 1 - 1) = (m : Int) := by rw [IntWalk.i64_in _ (by omega)]; omega
    have hca : ∀ W, Ext w1 W → Calls Tryd.prog 54 #[.pointer (some ⟨adr [], 0, none⟩), .slice (some ⟨b, o, none⟩) m c] W (Ret (atV l adr (qs.map bl)) W) := fun W e => by
      have := at_c (H.out.ext (he1.trans e)) HG.out Hl.out (.inl rfl) (HS.out.ext e)
      rwa [List.nil_append] at this
    have Hca := Lib.hid hca
    clear hca
    by_cases hk : isKey l (qs.map bl)
    · have Hat := Lib.hid (atV_yes (adr := adr) hk)
      obtain ⟨dir, ids, ⟨-, -, u, hb, -⟩, hd⟩ := H.out.node hk
      have b1 := fun W (e : Ext w W) => hb.at_ (i := 1) (u := .bool dir) rfl W e
      have Hd : Hid (inDir l p ↔ dir = true) := Lib.hid (by
        unfold inDir isDir
        rw [Hq1.out]
        refine ⟨fun h => ?_, fun h => ⟨Hok.out, ?_⟩⟩
        · rcases hd with ⟨h0, rfl, -⟩ | ⟨z, hz, h0, rfl, -⟩
          · rfl
          · rcases h.2 with h1 | ⟨y, hy, h1, h2⟩
            · rw [h1] at h0; exact absurd h0 (key_ne z)
            · rw [HG.out.inj hz hy (key_path (h0.trans h1.symm))]; exact h2
        · rcases hd with ⟨h0, -, -⟩ | ⟨z, hz, h0, rfl, -⟩
          · exact .inl h0
          · exact .inr ⟨z, hz, h0, h⟩)
      have Hb1 := Lib.hid b1
      clear hk hb hd b1
      cases dir with
      | false =>
        have Hno := Lib.hid (dirOfV_no (l := l) (adr := adr) (p := p) (fun h => by have := Hd.out.1 h; cases this))
        go_wp2_with fail
        refine (Hca.out _ (Ext.refl _)).mono ?_
        rw [Hat.out]
        rintro e w2 ⟨rfl, he2⟩
        have c1 := Hb1.out w2 (he1.trans he2)
        go_wp2
        go_ret2
        exact ⟨ret_v Hno.out.symm, he1.trans he2⟩
      | true =>
        have Hyes := Lib.hid (dirOfV_yes (l := l) (adr := adr) (p := p) (Hd.out.2 rfl))
        rw [Hq1.out, Hq2.out] at Hyes
        go_wp2_with fail
        refine (Hca.out _ (Ext.refl _)).mono ?_
        rw [Hat.out]
        rintro e w2 ⟨rfl, he2⟩
        have c1 := Hb1.out w2 (he1.trans he2)
        have cx := fun W (e : Ext w2 W) => hcc W (he2.trans e)
        clear hcc
        go_wp2
        clear hwm
        have hmm : (m : Int) < (m : Int) + 1 := by omega
        refine wp_region_ext (by kernel_rfl) (by kernel_rfl) ?_
        repeat (first | (apply q_plain rfl; (· intro W eW; go_simp; (first | done | rfl | (rw [if_pos] <;> first | omega | rfl))); (try simp only [Act.put, List.setIfInBounds_toArray, List.set_cons_zero, List.set_cons_succ])) | (refine qg_skip (by rfl) ?_; (try simp only [Act.put, List.setIfInBounds_toArray, List.set_cons_zero, List.set_cons_succ])) | (apply qg_plain (by rfl); (· intro W eW; go_simp; (first | done | rfl | (rw [if_pos] <;> first | omega | rfl))); (try simp only [Act.put, List.setIfInBounds_toArray, List.set_cons_zero, List.set_cons_succ])))
        refine q_nil ?_
        intro w3 e3
        go_wp2
        go_ret2
        exact ⟨ret_v Hyes.out.symm, (he1.trans he2).trans e3⟩
    · have Hat := Lib.hid (atV_no (adr := adr) hk)
      have Hno := Lib.hid (dirOfV_no (l := l) (adr := adr) (p := p) (fun h => hk (by rw [← Hq1.out]; exact h.2.key)))
      clear hk
      go_wp2_with fail
      refine (Hca.out _ (Ext.refl _)).mono ?_
      rw [Hat.out]
      rintro e w2 ⟨rfl, he2⟩
      go_wp2
      go_ret2
      exact ⟨ret_v Hno.out.symm, he1.trans he2⟩
end
end Go.Sf
