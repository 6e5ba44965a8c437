/- The program hands a volume out; VolumeDrop. -/
import Derived.Test.YtneabdoianmfhaaGreatDoorT129
import Derived.Test.YtneabdoianmfhaaGreatDoorT88
namespace Go.Sf
open Go Go.RowKit Go.Proofs
set_option maxRecDepth 4000 in
set_option maxHeartbeats 2000000 in
theorem volume_c {B b n : Nat} {s : List Hd} {t : List It} {adr : Key → Nat} {kv : Key → Value} (w : World) (hs : StoreOk s) (ht : treeOk t = true) (hSt : StoreAt B b n s w) (hTr : TreeAt B w t adr kv) :
    Calls Tryz.prog 101 #[.agg #[.map (some b), .pointer (some ⟨adr [], 0, none⟩)]] w (RetP (fun r w' => VolU w.heap.size w' r s t) w) := by
  have hg := (treeOk_iff'.1 ht).2
  have h12 := (treeOk_iff'.1 ht).1
  have e0 : Ext w ((w.alloc (.cells #[.map (some b), .pointer (some ⟨adr [], 0, none⟩)] 111)).alloc (.cells #[.slice none 0 0, .slice none 0 0] 66)) := ((Ext.refl w).alloc _).alloc _
  have hbk := (Blk.new w 111 #[.map (some b), .pointer (some ⟨adr [], 0, none⟩)]).alloc (.cells #[.slice none 0 0, .slice none 0 0] 66)
  have hbr : Blk ((w.alloc (.cells #[.map (some b), .pointer (some ⟨adr [], 0, none⟩)] 111)).alloc (.cells #[.slice none 0 0, .slice none 0 0] 66)) (w.heap.size + 1) 66 #[.slice none 0 0, .slice none 0 0] := by
    have := Blk.new (w.alloc (.cells #[.map (some b), .pointer (some ⟨adr [], 0, none⟩)] 111)) 66 #[.slice none 0 0, .slice none 0 0]
    simpa using this
  have d0 := fun W (e : Ext _ W) => hbk.at_ (i := 0) (u := .map (some b)) rfl W e
  have d1 := fun W (e : Ext _ W) => hbk.at_ (i := 1) (u := .pointer (some ⟨adr [], 0, none⟩)) rfl W e
  have Cs := fun W (e : Ext w W) => storeListU_c W hs (hSt.ext e)
  have Ct := fun W (e : Ext w W) => listU_c (hTr.ext e) hg h12
  have Hbr := Lib.hid hbr
  clear hbk hbr hs hg h12 hSt hTr
  go_enter Tryz.func101, Tryz.ntmps101
  go_wp2
  refine wp_region_hold (fun W => W.cell? ⟨w.heap.size, 0, none⟩ = some (.map (some b)) ∧ W.cell? ⟨w.heap.size, 1, none⟩ = some (.pointer (some ⟨adr [], 0, none⟩))) 5 [(0, true), (1, true), (3, true), (4, true), (2, false)] (by kernel_rfl) (by kernel_rfl) ?_ ?_
  · exact ⟨d0 _ (Ext.refl _).drew, d1 _ (Ext.refl _).drew⟩
  (repeat (first | (apply hw_read (by rfl) (by rfl); (· (intro W hW; (try dsimp only at hW); go_simp; (first | done | rfl | (rw [if_pos] <;> first | omega | rfl)))); (try simp only [Act.put, List.setIfInBounds_toArray, List.set_cons_zero, List.set_cons_succ])) | (refine hw_skip (by rfl) (by rfl) ?_; (try simp only [Act.put, List.setIfInBounds_toArray, List.set_cons_zero, List.set_cons_succ]))))
  refine hw_step (by rfl) ?_
  go_wp2_with (go_at_call 62; refine (Cs _ (e0.trans (Ext.refl _).drew)).mono ?_; rintro e w2 ⟨u1, rfl, ⟨lh, hlh, hU, hSp, -⟩, he2⟩; obtain ⟨A1, c1, rfl, -⟩ := id hU)
  have e2 := (Ext.refl ((w.alloc (.cells #[.map (some b), .pointer (some ⟨adr [], 0, none⟩)] 111)).alloc (.cells #[.slice none 0 0, .slice none 0 0] 66))).drew.trans he2
  have E2 := e0.trans e2
  refine ⟨⟨d0 _ e2, d1 _ e2⟩, ?_⟩
  have Hlh := Lib.hid hlh; have HU := Lib.hid hU; have HSp := Lib.hid hSp
  clear hlh hU hSp
  (repeat (first | (apply hw_read (by rfl) (by rfl); (· (intro W hW; (try dsimp only at hW); go_simp; (first | done | rfl | (rw [if_pos] <;> first | omega | rfl)))); (try simp only [Act.put, List.setIfInBounds_toArray, List.set_cons_zero, List.set_cons_succ])) | (refine hw_skip (by rfl) (by rfl) ?_; (try simp only [Act.put, List.setIfInBounds_toArray, List.set_cons_zero, List.set_cons_succ]))))
  (refine hw_nil ?_; (try simp only [List.drop_succ_cons, List.drop_zero]))
  have Ct2 := Ct _ E2
  go_wp2_with (go_at_call 61; refine Ct2.mono ?_; rintro e w3 ⟨u2, rfl, ⟨li, hli, hI, hSi, -⟩, he3⟩; obtain ⟨A2, c2, rfl, -⟩ := id hI; have b3 := Hbr.out.ext (e2.trans he3); have k0 := b3.cell 0; have k1 := b3.cell 1; have f0 := b3.frozen 0; have f1 := b3.frozen 1; simp at k0 k1; have Hli := Lib.hid hli; have HI := Lib.hid hI; have HSi := Lib.hid hSi; clear hli hI hSi)
  refine NoPanic.normal ?_
  (try dsimp only [Exit.then])
  go_wp2
  obtain ⟨p1, p2, p3, -⟩ := put_two (a := .slice A1 lh.length c1) (b := .slice A2 li.length c2) b3
  have z0 := p1.cell 0; have z1 := p1.cell 1
  simp at z0 z1
  have hB2 : w.heap.size ≤ w2.heap.size := E2.size
  refine bodyPost_ret (v := .agg #[.slice A1 lh.length c1, .slice A2 li.length c2]) (by simp [results, Tryz.results101, go_sem, z0, z1]) rfl ⟨_, rfl, ?_, p3 w (E2.trans he3) (by omega)⟩
  refine ⟨_, _, lh, li, w2.heap.size, rfl, Hlh.out, ?_, HSp.out, fun b hb => (HU.out.foot hb).2, Hli.out, HI.out.keepT p2 (by decide) (by decide), HSi.out, hB2⟩
  exact HdsU.keepT ((HU.out.keep (e0.trans (Ext.refl _).drew).size (fun _ _ _ => rfl)).ext he3) p2 (by decide) (by decide)
end Go.Sf
