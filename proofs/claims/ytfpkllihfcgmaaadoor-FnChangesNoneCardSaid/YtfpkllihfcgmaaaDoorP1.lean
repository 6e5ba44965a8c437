/- The plain functions on trees. -/
import Derived.Test.YtfpkllihfcgmaaaDoorP0
import Derived.Test.YtfpkllihfcgmaaaDoorW2
import Derived.Test.YtfpkllihfcgmaaaDoorT1
namespace Go.Sf
/-- byte by byte, a comes ahead of b -/
def blt (a b : ByteArray) : Bool := Op.bytesLess a.toList b.toList
def emptyB : ByteArray := ByteArray.empty
def pathIs (p : ByteArray) (x : It) : Bool := eqb x.path p
def atPath (l : List It) (p : ByteArray) : Int := atG (pathIs p) l 0
def findIt (l : List It) (p : ByteArray) : Option It := l.find? (pathIs p)
def dirAt (l : List It) (p : ByteArray) : Bool := match findIt l p with | some x => x.dir | none => false
def homeOk (l : List It) (p : ByteArray) : Bool := eqb (parentB p) emptyB || dirAt l (parentB p)
def idsOk (x : It) : Bool := x.ids.all fun i => !x.dir && inB i 1 99
def itemOk (x : It) : Bool := idsOk x && (pathOk x.path && decide (x.ids.length ≤ 4))
/-- what a valid tree's item at place k meets -/
def ItAt (l : List It) (k : Nat) (x : It) : Prop := itemOk x = true ∧ (∀ j y, k = j + 1 → l[j]? = some y → blt y.path x.path = true) ∧ homeOk l x.path = true
def TreeOk (l : List It) : Prop := l.length ≤ 12 ∧ ∀ k x, l[k]? = some x → ItAt l k x
open Classical in
noncomputable def treeOk (l : List It) : Bool := decide (TreeOk l)
theorem treeOk_iff {l : List It} : treeOk l = true ↔ TreeOk l := by unfold treeOk; simp
theorem treeOk_false {l : List It} : treeOk l = false ↔ ¬ TreeOk l := by unfold treeOk; simp
end Go.Sf
