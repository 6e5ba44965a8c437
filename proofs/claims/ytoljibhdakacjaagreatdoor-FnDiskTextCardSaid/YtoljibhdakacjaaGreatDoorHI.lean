/- The last snapshot with a file: the reference and the program. -/
import Derived.Test.YtoljibhdakacjaaGreatDoorGR
import Derived.Test.YtoljibhdakacjaaGreatDoorHF
import Derived.Test.YtoljibhdakacjaaGreatDoorHG
import Derived.Test.YtoljibhdakacjaaGreatDoorHH
/-! The last snapshot with a file: the reference and the program. -/
namespace Go.Sf
open Go Go.RowKit Go.Proofs Go.Maps
noncomputable def histL (s : List Hd) (t : List It) (l : List Sn) (p : ByteArray) : ByteArray := if diskOk s t l = true then lastSn l p else ⟨#[]⟩
theorem fileOf_none {t : List It} {p : ByteArray} (h : findIt t p = none) : fileOf t p = none := by unfold fileOf; rw [h]; rfl
theorem fileOf_dir {t : List It} {p : ByteArray} {y : It} (h : findIt t p = some y) (hd : y.dir = true) : fileOf t p = none := by unfold fileOf; rw [h]; simp [hd]
theorem fileOf_file {t : List It} {p : ByteArray} {y : It} (h : findIt t p = some y) (hd : y.dir = false) : fileOf t p = some y := by unfold fileOf; rw [h]; simp [hd]
theorem last_no {p a : ByteArray} {x : Sn} (h : fileOf x.tree p = none) : lastStep p a x = a := by unfold lastStep; rw [h]; rfl
theorem last_yes {p a : ByteArray} {x : Sn} {y : It} (h : fileOf x.tree p = some y) : lastStep p a x = x.name := by unfold lastStep; rw [h]; rfl
theorem l11Ids_len {B n : Nat} {v : Value} {t : List It} (p : ByteArray) (w : World) (h : Its B w v t) (hn : (fileOf t p).toList.length = n) : Calls Tryz.prog 41 #[v, .string p] w (RetP (fun r _ => ∃ A c, r = .slice A n c) w) :=
  (l11Ids_c p w h).mono fun _ _ ⟨r, h1, ⟨A, c, h2, _⟩, h3⟩ => ⟨r, h1, ⟨A, c, by rw [h2, hn]⟩, h3⟩
set_option maxRecDepth 8000 in
set_option maxHeartbeats 2000000 in
theorem specHistoryLast_c {B B' B2 : Nat} {vs vt vn : Value} {s : List Hd} {t : List It} {l : List Sn} (p : ByteArray) (w : World) (hs : Hds B w vs s) (ht : Its B' w vt t) (hn : Sns B2 w vn l) :
    Calls Tryz.prog 13 #[.agg #[vs, vt, vn], .string p] w (Ret (.string (histL s t l p)) w) := by
  have HS := Lib.hid hs; have HT := Lib.hid ht; have HN := Lib.hid hn
  obtain ⟨A, c, rfl, -⟩ := hs
  obtain ⟨A2, c2, rfl, -⟩ := ht
  obtain ⟨A3, c3, rfl, hA⟩ := hn
  have hl := hA.2.2.1
  unfold lim at hl
  have e0 : Ext w (w.alloc (.cells #[.slice A s.length c, .slice A2 t.length c2, .slice A3 l.length c3] 27)) := (Ext.refl w).alloc _
  have hbk := Blk.new w 27 #[.slice A s.length c, .slice A2 t.length c2, .slice A3 l.length c3]
  have d0 := fun W (e : Ext _ W) => hbk.at_ (i := 0) (u := .slice A s.length c) rfl W e
  have d1 := fun W (e : Ext _ W) => hbk.at_ (i := 1) (u := .slice A2 t.length c2) rfl W e
  have d2 := fun W (e : Ext _ W) => hbk.at_ (i := 2) (u := .slice A3 l.length c3) rfl W e
  have Cd := fun W (e : Ext (w.alloc (.cells #[.slice A s.length c, .slice A2 t.length c2, .slice A3 l.length c3] 27)) W) => specDiskValid_c W (HS.out.ext (e0.trans e)) (HT.out.ext (e0.trans e)) (HN.out.ext (e0.trans e))
  have HA := Lib.hid hA
  clear hbk hA
  generalize hnn : l.length = n at *
  have Hn := Lib.hid hnn; clear hnn
  cases hd : diskOk s t l with
  | false =>
    rw [hd] at Cd
    have Hr : Hid (histL s t l p = ⟨#[]⟩) := Lib.hid (by unfold histL; rw [hd]; rfl)
    clear hd
    go_enter Tryz.func13, Tryz.ntmps13
    go_wp2
    go_loopw [5, 6] (fun o i wr => i = .int .i64 0 ∧ o = .string ⟨#[]⟩ ∧ Ext (w.alloc (.cells #[.slice A s.length c, .slice A2 t.length c2, .slice A3 n c3] 27)) wr) (fun _ i _ => n - (RowKit.intOf i).toNat)
    case atStart => exact ⟨rfl, rfl, Ext.refl _⟩
    case round =>
      obtain ⟨rfl, rfl, he⟩ := hrel
      have q0 := d0 wr he; have q1 := d1 wr he; have q2 := d2 wr he
      by_cases h0 : 0 < n
      · have h0' : (0 : Int) < (n : Int) := by omega
        go_wp2_with (go_at_call 19; refine (Cd _ he).mono ?_; rintro e w2 ⟨rfl, he2⟩)
        go_ret
        exact ⟨ret_s Hr.out.symm, e0.trans (he.trans he2)⟩
      · have h0' : ¬ (0 : Int) < (n : Int) := by omega
        go_wp2
        go_ret
        exact ⟨ret_s Hr.out.symm, e0.trans he⟩
  | true =>
    rw [hd] at Cd
    have Hr : Hid (histL s t l p = lastSn l p) := Lib.hid (by unfold histL; rw [hd]; rfl)
    clear hd
    go_enter Tryz.func13, Tryz.ntmps13
    go_wp2
    go_loopw [5, 6] (fun o i wr => ∃ k : Nat, k ≤ n ∧ i = .int .i64 k ∧ o = .string ((l.take k).foldl (lastStep p) ⟨#[]⟩) ∧ Ext (w.alloc (.cells #[.slice A s.length c, .slice A2 t.length c2, .slice A3 n c3] 27)) wr) (fun _ i _ => n - (RowKit.intOf i).toNat)
    case atStart => exact ⟨0, by omega, rfl, rfl, Ext.refl _⟩
    case round =>
      obtain ⟨k, hk, rfl, rfl, he⟩ := hrel
      have q0 := d0 wr he; have q1 := d1 wr he; have q2 := d2 wr he
      by_cases hlt : k < n
      · obtain ⟨x, hx⟩ := get_of_lt (l := l) (k := k) (by rw [Hn.out]; exact hlt)
        obtain ⟨b, o, u, rfl, -, -, -, hu, hc0, hc1⟩ := Sns.at_ HA.out hx
        have HU := Lib.hid hu
        obtain ⟨Au, cu, rfl, -⟩ := hu
        have a0 := fun W (e : Ext wr W) => hc0 W ((e0.trans he).trans e)
        have a1 := fun W (e : Ext wr W) => hc1 W ((e0.trans he).trans e)
        have D2 := fun W (e : Ext wr W) => d2 W (he.trans e)
        have hst := foldl_take (lastStep p) ⟨#[]⟩ hx
        generalize (l.take k).foldl (lastStep p) ⟨#[]⟩ = acc at *
        cases hfo : fileOf x.tree p with
        | none =>
          have Ci := fun W (e : Ext wr W) => l11Ids_len (n := 0) p W (HU.out.ext ((e0.trans he).trans e)) (by rw [hfo]; rfl)
          rw [last_no hfo] at hst
          have Hst := Lib.hid hst
          clear hfo hst hc0 hc1 hx d0 d1 d2
          go_wp2_with (first | (go_at_call 19; refine (Cd _ he).mono ?_; rintro e w2 ⟨rfl, he2⟩; have r2 := D2 w2 he2; have r3 := a1 w2 he2) | (go_at_call 41; refine (Ci _ he2).mono ?_; rintro e w3 ⟨r, rfl, ⟨A9, c9, rfl⟩, he3⟩))
          go_roundw
          case rel => exact ⟨k + 1, by omega, by go_num, by rw [Hst.out], (he.trans he2).trans he3⟩
          case measure => simp [RowKit.intOf]; omega
        | some y =>
          have Ci := fun W (e : Ext wr W) => l11Ids_len (n := 1) p W (HU.out.ext ((e0.trans he).trans e)) (by rw [hfo]; rfl)
          rw [last_yes hfo] at hst
          have Hst := Lib.hid hst
          clear hfo hst hc0 hc1 hx d0 d1 d2
          go_wp2_with (first | (go_at_call 19; refine (Cd _ he).mono ?_; rintro e w2 ⟨rfl, he2⟩; have r2 := D2 w2 he2; have r3 := a1 w2 he2) | (go_at_call 41; refine (Ci _ he2).mono ?_; rintro e w3 ⟨r, rfl, ⟨A9, c9, rfl⟩, he3⟩; have r4 := D2 w3 (he2.trans he3); have r5 := a0 w3 (he2.trans he3)))
          go_roundw
          case rel => exact ⟨k + 1, by omega, by go_num, by rw [Hst.out], (he.trans he2).trans he3⟩
          case measure => simp [RowKit.intOf]; omega
      · have hks : k = n := by omega
        subst hks
        have Hf : Hid ((l.take k).foldl (lastStep p) ⟨#[]⟩ = histL s t l p) := Lib.hid (by rw [Hr.out, List.take_of_length_le (by rw [Hn.out]; exact Nat.le_refl _)]; rfl)
        generalize (l.take k).foldl (lastStep p) ⟨#[]⟩ = acc at *
        go_wp2
        go_ret
        exact ⟨ret_s Hf.out, e0.trans he⟩
set_option maxRecDepth 8000 in
set_option maxHeartbeats 2000000 in
theorem HistoryLast_c {B B' B2 : Nat} {vs vt vn : Value} {s : List Hd} {t : List It} {l : List Sn} (p : ByteArray) (w : World) (hs : Hds B w vs s) (ht : Its B' w vt t) (hn : Sns B2 w vn l) (hp : p.size < lim) (hm : ML w) :
    Calls Tryz.prog 12 #[.agg #[vs, vt, vn], .string p] w (Ret (.string (histL s t l p)) w) := by
  have HS := Lib.hid hs; have HT := Lib.hid ht; have HN := Lib.hid hn; have HM := Lib.hid hm
  obtain ⟨A, c, rfl, -⟩ := hs
  obtain ⟨A2, c2, rfl, -⟩ := ht
  obtain ⟨A3, c3, rfl, -⟩ := hn
  have e0 : Ext w (w.alloc (.cells #[.slice A s.length c, .slice A2 t.length c2, .slice A3 l.length c3] 27)) := (Ext.refl w).alloc _
  have Cn := newDisk_c _ (HS.out.ext e0) (HT.out.ext e0) (HN.out.ext e0) (HM.out.ext e0)
  clear hm
  go_enter Tryz.func12, Tryz.ntmps12
  go_wp2_with fail
  refine Cn.mono ?_
  rintro e w1 ⟨he1, ⟨hv, rfl⟩ | ⟨hv, g, rfl, b, adr, kv, v, aq, -, hD, -, -, hO, hSn⟩⟩
  · have Hr : Hid (histL s t l p = ⟨#[]⟩) := Lib.hid (by unfold histL; rw [hv]; rfl)
    clear hv Cn
    go_wp2
    go_ret
    exact ⟨ret_s Hr.out.symm, e0.trans he1⟩
  have Hr : Hid (histL s t l p = lastSn l p) := Lib.hid (by unfold histL; rw [hv]; rfl)
  have h6 := (disk_parts hv).2.2.2.1
  have hal := hSn.1
  obtain ⟨A8, c8, rfl, hA8⟩ := hO.sl esp_ok (Nat.le_refl _) (by rw [hal]; unfold lim; omega)
  have c4 := hD.cell 4
  simp at c4
  rw [hal] at c4
  generalize hnn : l.length = n at *
  have Hn := Lib.hid hnn; have HA8 := Lib.hid hA8; have HSn := Lib.hid hSn; have HE1 := Lib.hid (e0.trans he1)
  clear hnn hA8 hSn hD hO hv Cn hal he1 e0
  go_wp2
  go_loopw [7, 23] (fun o i wr => ∃ k : Nat, k ≤ n ∧ i = .int .i64 k ∧ o = .string ((l.take k).foldl (lastStep p) ⟨#[]⟩) ∧ Ext w1 wr) (fun _ i _ => n - (RowKit.intOf i).toNat)
  case atStart => exact ⟨0, by omega, rfl, rfl, Ext.refl _⟩
  case round =>
    obtain ⟨k, hk, rfl, rfl, he⟩ := hrel
    by_cases hlt : k < n
    · obtain ⟨x, hx⟩ := get_of_lt (l := l) (k := k) (by rw [Hn.out]; exact hlt)
      obtain ⟨hns, hok, adr2, kv2, has, hT2, -⟩ := HSn.out.2 k x hx
      obtain ⟨b8, o8, rfl, -, hc0, hc1⟩ := Sps.at_ HA8.out has
      simp only at hc0 hc1
      have a0 := hc0 wr he; have a1 := hc1 wr he
      have hgr := treeOk_iff'.1 hok
      have ea : Ext wr (wr.alloc (.cells #[.string x.name, .pointer (some ⟨adr2 [], 0, none⟩)] 88)) := (Ext.refl wr).alloc _
      have hbs := Blk.new wr 88 #[.string x.name, .pointer (some ⟨adr2 [], 0, none⟩)]
      have s0 := fun W (e : Ext _ W) => hbs.at_ (i := 0) (u := .string x.name) rfl W e
      have Cf := nodeFind_c (hT2.ext (he.trans ea)) hgr.2 (by unfold lim; have := hgr.1; omega) p hp (HM.out.ext (HE1.out.trans (he.trans ea)))
      have hst := foldl_take (lastStep p) ⟨#[]⟩ hx
      generalize (l.take k).foldl (lastStep p) ⟨#[]⟩ = acc at *
      cases hf : findIt x.tree p with
      | none =>
        rw [last_no (fileOf_none hf)] at hst
        have e1 : findV x.tree adr2 p = .pointer none := by unfold findV; rw [hf]
        rw [e1] at Cf
        have Hst := Lib.hid hst
        clear hf e1 hst hc0 hc1 hx has hT2 hgr hbs
        go_wp2_with (go_at_call 40; refine Cf.mono ?_; rintro e w2 ⟨rfl, he2⟩)
        go_roundw
        case rel => exact ⟨k + 1, by omega, by go_num, by rw [Hst.out], he.trans (ea.trans he2)⟩
        case measure => simp [RowKit.intOf]; omega
      | some y =>
        have e1 : findV x.tree adr2 p = .pointer (some ⟨adr2 (key y), 0, none⟩) := by unfold findV; rw [hf]
        rw [e1] at Cf
        obtain ⟨-, -, u, hb, -⟩ := hT2.nodes y (findIt_some hf).1
        have y1 := fun W (e : Ext wr W) => hb.at_ (i := 1) (u := .bool y.dir) rfl W (he.trans e)
        cases hyd : y.dir with
        | true =>
          rw [last_no (fileOf_dir hf hyd)] at hst
          rw [hyd] at y1
          have Hst := Lib.hid hst
          clear hf e1 hst hc0 hc1 hx has hT2 hgr hbs hb
          go_wp2_with (go_at_call 40; refine Cf.mono ?_; rintro e w2 ⟨rfl, he2⟩; have z1 := y1 w2 (ea.trans he2))
          go_roundw
          case rel => exact ⟨k + 1, by omega, by go_num, by rw [Hst.out], he.trans (ea.trans he2)⟩
          case measure => simp [RowKit.intOf]; omega
        | false =>
          rw [last_yes (fileOf_file hf hyd)] at hst
          rw [hyd] at y1
          have Hst := Lib.hid hst
          clear hf e1 hst hc0 hc1 hx has hT2 hgr hbs hb
          go_wp2_with (go_at_call 40; refine Cf.mono ?_; rintro e w2 ⟨rfl, he2⟩; have z1 := y1 w2 (ea.trans he2); have z0 := s0 w2 he2)
          go_roundw
          case rel => exact ⟨k + 1, by omega, by go_num, by rw [Hst.out], he.trans (ea.trans he2)⟩
          case measure => simp [RowKit.intOf]; omega
    · have hks : k = n := by omega
      subst hks
      have Hf : Hid ((l.take k).foldl (lastStep p) ⟨#[]⟩ = histL s t l p) := Lib.hid (by rw [Hr.out, List.take_of_length_le (by rw [Hn.out]; exact Nat.le_refl _)]; rfl)
      generalize (l.take k).foldl (lastStep p) ⟨#[]⟩ = acc at *
      go_wp2
      go_ret
      exact ⟨ret_s Hf.out, HE1.out.trans he⟩
end Go.Sf

/-! How many blocks of a disk are shared: the reference and the program. -/
namespace Go.Sf
open Go Go.RowKit Go.Proofs Go.Maps
end Go.Sf

/-! How many bytes only a snapshot has: the reference and the program. -/
namespace Go.Sf
open Go Go.RowKit Go.Proofs Go.Maps
end Go.Sf
