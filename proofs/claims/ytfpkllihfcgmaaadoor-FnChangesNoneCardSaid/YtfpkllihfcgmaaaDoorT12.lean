/- The way from a node down to another one. -/
import Derived.Test.YtfpkllihfcgmaaaDoorW7
import Derived.Test.YtfpkllihfcgmaaaDoorT9
namespace Go.Sf
open Go Go.RowKit Go.Proofs
theorem has_name {l : List It} {k : Key} {m : List UInt8} : hasB (namesOf l k) (mkB m) = true ↔ isKey l (k ++ [m]) := by
  constructor
  · intro h
    unfold hasB at h
    rw [List.any_eq_true] at h
    obtain ⟨nm, hn, he⟩ := h
    rw [eqb_iff] at he
    subst he
    unfold namesOf at hn
    obtain ⟨x, hx, he⟩ := List.mem_map.1 hn
    refine .inr ⟨x, (mem_kids.1 hx).1, ?_⟩
    rw [name_kid hx, he]; rfl
  · rintro (h | ⟨x, hx, he⟩)
    · simp at h
    · have hk : x ∈ kidsOf l k := mem_kids.2 ⟨hx, by rw [he]; simp⟩
      unfold hasB
      rw [List.any_eq_true]
      refine ⟨nameOf (key x), List.mem_map.2 ⟨x, hk, rfl⟩, eqb_iff.2 ?_⟩
      rw [nameOf, he]; simp
theorem lb_has {nms : List ByteArray} {t : ByteArray} (hs : Asc nms) (h : hasB nms t = true) : nms[lbB nms t]? = some t := by
  unfold hasB at h
  rw [List.any_eq_true] at h
  obtain ⟨x, hx, he⟩ := h
  rw [eqb_iff] at he
  subst he
  obtain ⟨i, hi⟩ := List.mem_iff_getElem?.1 hx
  have : lbB nms x = i := lbB_of (Nat.le_of_lt (lt_of_get hi)) (fun k y hk hy => hs _ _ _ _ hy hi hk) (fun y hy => by rw [hi] at hy; rw [← Option.some.inj hy]; exact blt_irrefl _)
  rw [this, hi]
theorem namesOf_le (l : List It) (k : Key) : (namesOf l k).length ≤ l.length := by
  unfold namesOf kidsOf; rw [List.length_map]; exact List.length_filter_le _ _
section
variable {B : Nat} {w : World} {l : List It} {adr : Key → Nat} {kv : Key → Value}
set_option maxHeartbeats 1000000 in
theorem place_c (h : TreeAt B w l adr kv) (hg : Grow l) (hl : l.length ≤ lim) {k : Key} (hk : isKey l k) (t : ByteArray) :
    Calls Tryd.prog 60 #[.pointer (some ⟨adr k, 0, none⟩), .string t] w (Ret (.tuple #[.int .i64 (lbB (namesOf l k) t), .bool (hasB (namesOf l k) t)]) w) := by
  obtain ⟨A, c, hkv, hP⟩ := h.kids hk
  obtain ⟨dir, ids, ⟨hB, hO, u, hb, hu⟩, -⟩ := h.node hk
  rw [hkv] at hb
  have c3 := hb.cell 3
  simp at c3
  have hc := bsearch_c (c := c) t w hP (Nat.le_trans (namesOf_le l k) hl) (hg.asc_names k)
  have HC := Lib.hid hc
  clear hc hP hkv hb hu hO h hg
  generalize (namesOf l k).length = n at *
  go_enter Tryd.func60, Tryd.ntmps60
  go_wp2_with (go_at_call 69; refine HC.out.mono ?_; rintro e w1 ⟨rfl, he1⟩)
  go_ret2
  exact ⟨rfl, he1⟩
open Classical in
/-- what stands for a node, or nil -/
noncomputable def atV (l : List It) (adr : Key → Nat) (k : Key) : Value := if isKey l k then .pointer (some ⟨adr k, 0, none⟩) else .pointer none
theorem atV_yes {k : Key} (h : isKey l k) : atV l adr k = .pointer (some ⟨adr k, 0, none⟩) := by unfold atV; rw [if_pos h]
theorem atV_no {k : Key} (h : ¬ isKey l k) : atV l adr k = .pointer none := by unfold atV; rw [if_neg h]
theorem ret_v {a b : Value} (h : a = b) : Ending.returned a = .returned b := by rw [h]
set_option maxHeartbeats 1000000 in
theorem at_c (h : TreeAt B w l adr kv) (hg : Grow l) (hl : l.length ≤ lim) {k : Key} (hk : isKey l k) {B' : Nat} {v : Value} {ps : List ByteArray} (hv : Strs B' w v ps) :
    Calls Tryd.prog 54 #[.pointer (some ⟨adr k, 0, none⟩), v] w (Ret (atV l adr (k ++ ps.map bl)) w) := by
  obtain ⟨A, c, rfl, hA⟩ := hv
  have hpl := hA.2.2.1
  unfold lim at hpl
  have HA := Lib.hid hA; clear hA
  have H := Lib.hid h; clear h
  have HG := Lib.hid hg; clear hg
  have Hk := Lib.hid hk; clear hk
  generalize hn : ps.length = n at *
  have Hn := Lib.hid hn; clear hn
  go_enter Tryd.func54, Tryd.ntmps54
  go_wp2
  go_loopw [0, 11] (fun p i wr => ∃ j : Nat, j ≤ n ∧ i = .int .i64 j ∧ p = .pointer (some ⟨adr (k ++ (ps.take j).map bl), 0, none⟩) ∧ Ext w wr ∧ Hid (isKey l (k ++ (ps.take j).map bl))) (fun _ i _ => n - (intOf i).toNat)
  case atStart => exact ⟨0, by omega, rfl, by simp, Ext.refl w, Lib.hid (by simpa using Hk.out)⟩
  case round =>
    obtain ⟨j, hj, rfl, rfl, he, hkey⟩ := hrel
    by_cases hlt : j < n
    · obtain ⟨x, hx⟩ := get_of_lt (l := ps) (k := j) (by rw [Hn.out]; exact hlt)
      obtain ⟨b, o, rfl, -, -, hxs, hcc⟩ := Strs.at_ HA.out hx
      have ha := fun W (h : Ext wr W) => hcc W (he.trans h)
      have Hx : Hid ((ps.take (j + 1)).map bl = (ps.take j).map bl ++ [bl x]) := Lib.hid (by rw [List.take_add_one, hx]; simp)
      clear hcc hx
      generalize hq : k ++ (ps.take j).map bl = q at *
      have Hq := Lib.hid hq; clear hq
      have hasc := HG.out.asc_names q
      cases hh : hasB (namesOf l q) x with
      | false =>
        have C : ∀ W, Ext wr W → Calls Tryd.prog 60 #[.pointer (some ⟨adr q, 0, none⟩), .string x] W (Ret (.tuple #[.int .i64 (lbB (namesOf l q) x), .bool false]) W) := fun W e => by
          rw [← hh]; exact place_c (H.out.ext (he.trans e)) HG.out hl hkey.out x
        have Hno : Hid (¬ isKey l (k ++ ps.map bl)) := Lib.hid fun hf => by
          have hp : q ++ [bl x] <+: k ++ ps.map bl := by
            rw [← Hq.out, List.append_assoc, ← Hx.out]
            exact List.prefix_append_right_inj _ |>.2 ((List.take_prefix _ _).map bl)
          have := has_name.2 (HG.out.prefix_ _ hf _ hp)
          rw [mkB_bl, hh] at this; cases this
        clear hh hasc
        go_wp2_with (go_at_call 60; refine (C _ (by first | assumption | exact Ext.refl _)).mono ?_; rintro e w2 ⟨rfl, he2⟩)
        go_ret
        exact ⟨ret_v (atV_no Hno.out).symm, he.trans he2⟩
      | true =>
        have hnm := lb_has hasc hh
        have C : ∀ W, Ext wr W → Calls Tryd.prog 60 #[.pointer (some ⟨adr q, 0, none⟩), .string x] W (Ret (.tuple #[.int .i64 (lbB (namesOf l q) x), .bool true]) W) := fun W e => by
          rw [← hh]; exact place_c (H.out.ext (he.trans e)) HG.out hl hkey.out x
        have hkey2 := has_name.1 (by rw [mkB_bl]; exact hh : hasB (namesOf l q) (mkB (bl x)) = true)
        have hle := lt_of_get hnm
        generalize lbB (namesOf l q) x = i at *
        obtain ⟨Ak, ck, hkv, hP⟩ := (H.out.ext he).kids hkey.out
        obtain ⟨ab, ao, pb, hpb, hAe, h1, -⟩ := hP i x hnm
        subst hAe
        have hpe : pb = adr (q ++ [bl x]) := by
          unfold namesOf at hnm
          rw [List.getElem?_map, Option.map_eq_some_iff] at hnm hpb
          obtain ⟨y, hy, hyn⟩ := hnm
          obtain ⟨z, hz, rfl⟩ := hpb
          rw [hy] at hz
          rw [← Option.some.inj hz, name_kid (List.mem_of_getElem? hy), hyn]
        subst hpe
        obtain ⟨dir, ids, ⟨hB, hO, u, hb, hu⟩, -⟩ := (H.out.ext he).node hkey.out
        rw [hkv] at hb
        have c3 := hb.at_ (i := 3) (u := .slice (some ⟨ab, ao, none⟩) (namesOf l q).length ck) rfl
        have hnl := namesOf_le l q
        unfold lim at hl
        generalize (namesOf l q).length = nn at *
        have Hk2 := Lib.hid hkey2
        clear hh hasc hnm hkey2 hP hkv hb hu hO hpb
        go_wp2_with (go_at_call 60; refine (C _ (by first | assumption | exact Ext.refl _)).mono ?_; rintro e w2 ⟨rfl, he2⟩)
        go_roundw
        case rel => exact ⟨j + 1, by omega, by go_num, by rw [Hx.out, ← List.append_assoc, Hq.out], he.trans he2, Lib.hid (by rw [Hx.out, ← List.append_assoc, Hq.out]; exact Hk2.out)⟩
        case measure => simp [intOf]; omega
    · have hjs : j = n := by omega
      subst hjs
      have e : ps.take j = ps := List.take_of_length_le (by rw [Hn.out]; omega)
      have hke := hkey.out
      rw [e] at hke ⊢
      have Hke := Lib.hid hke
      clear hke hkey
      go_wp2
      go_ret
      exact ⟨ret_v (atV_yes Hke.out).symm, he⟩
end
end Go.Sf
