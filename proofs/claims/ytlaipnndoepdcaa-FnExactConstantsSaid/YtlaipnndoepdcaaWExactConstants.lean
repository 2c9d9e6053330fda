/-
  The law FnExactConstants: the walk.
-/
import Derived.Test.YtlaipnndoepdcaaBase
namespace Go.Proofs.Ytlaipnndoepdcaa.fnExactConstants
open Go.ChangeShapes Go.WideShapes Go.ChangeAt Go.RowKit
set_option linter.unusedVariables false
set_option maxRecDepth 100000

theorem walk (w : World) :
    Calls Try.prog 3 #[] w fun e w' => e = .returned (.bool true) ∧ Below w.heap.size w w' := by
  go_enter Try.func3, Try.ntmps3
  go_wp2
  go_ret
  exact ⟨rfl, Below.refl _ _⟩
end Go.Proofs.Ytlaipnndoepdcaa.fnExactConstants
