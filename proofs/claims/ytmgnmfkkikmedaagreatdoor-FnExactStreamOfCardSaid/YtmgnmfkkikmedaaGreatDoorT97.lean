/- The last snapshot with a file: the reference and the program. -/
import Derived.Test.YtmgnmfkkikmedaaGreatDoorGR
import Derived.Test.YtmgnmfkkikmedaaGreatDoorT89
import Derived.Test.YtmgnmfkkikmedaaGreatDoorT28
namespace Go.Sf
open Go Go.RowKit Go.Proofs Go.Maps
noncomputable def histL (s : List Hd) (t : List It) (l : List Sn) (p : ByteArray) : ByteArray := if diskOk s t l = true then lastSn l p else ⟨#[]⟩
theorem fileOf_none {t : List It} {p : ByteArray} (h : findIt t p = none) : fileOf t p = none := by unfold fileOf; rw [h]; rfl
theorem fileOf_dir {t : List It} {p : ByteArray} {y : It} (h : findIt t p = some y) (hd : y.dir = true) : fileOf t p = none := by unfold fileOf; rw [h]; simp [hd]
theorem fileOf_file {t : List It} {p : ByteArray} {y : It} (h : findIt t p = some y) (hd : y.dir = false) : fileOf t p = some y := by unfold fileOf; rw [h]; simp [hd]
theorem last_no {p a : ByteArray} {x : Sn} (h : fileOf x.tree p = none) : lastStep p a x = a := by unfold lastStep; rw [h]; rfl
theorem last_yes {p a : ByteArray} {x : Sn} {y : It} (h : fileOf x.tree p = some y) : lastStep p a x = x.name := by unfold lastStep; rw [h]; rfl
theorem l11Ids_len {B n : Nat} {v : Value} {t : List It} (p : ByteArray) (w : World) (h : Its B w v t) (hn : (fileOf t p).toList.length = n) : Calls Tryz.prog 81 #[v, .string p] w (RetP (fun r _ => ∃ A c, r = .slice A n c) w) :=
  (l11Ids_c p w h).mono fun _ _ ⟨r, h1, ⟨A, c, h2, _⟩, h3⟩ => ⟨r, h1, ⟨A, c, by rw [h2, hn]⟩, h3⟩
end Go.Sf
