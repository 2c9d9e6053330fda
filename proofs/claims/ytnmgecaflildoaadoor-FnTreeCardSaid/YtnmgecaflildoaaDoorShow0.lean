/-
  The encodings of validators, headers and commits, plain.
-/
import Derived.Test.YtnmgecaflildoaaDoorVal0
import Derived.Test.YtnmgecaflildoaaDoorMath3
import Derived.Test.YtnmgecaflildoaaDoorRec1
namespace Go.Proofs.YtnmgecaflildoaaDoor

def showVal (v : ValT) : List UInt8 := varS v.id ++ varS v.power
/-- What ShowVals returns. -/
def showValsS (l : List ValT) : List UInt8 := if valsOkB l then varS (l.length : Int) ++ l.flatMap showVal else []
theorem showVal_take (l : List ValT) (k : Nat) (h : k < l.length) : (l.take (k + 1)).flatMap showVal = (l.take k).flatMap showVal ++ (varS l[k].id ++ varS l[k].power) := by
  rw [List.take_succ_eq_append_getElem h, List.flatMap_append]; simp [showVal]
theorem showVal_len (l : List ValT) : (l.flatMap showVal).length ≤ 16 * l.length := by
  induction l with
  | nil => simp
  | cons v l ih =>
    have h1 := varS_len v.id
    have h2 := varS_len v.power
    simp only [List.flatMap_cons, List.length_append, showVal, List.length_cons] at ih ⊢
    omega
/-- A text behind its length. -/
def sizedS (l : List UInt8) : List UInt8 := varS (l.length : Int) ++ l
/-- What ShowHeader returns. -/
def showHeadS (x : HeadT) : List UInt8 := if headOkB x then varS x.h ++ varS x.t ++ sizedS x.last ++ sizedS x.vals ++ sizedS x.next ++ sizedS x.data else []
end Go.Proofs.YtnmgecaflildoaaDoor
