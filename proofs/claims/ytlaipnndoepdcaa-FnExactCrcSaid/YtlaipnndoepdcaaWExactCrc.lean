/-
  The law FnExactCrc: the walk.
-/
import Derived.Test.YtlaipnndoepdcaaNum6
namespace Go.Proofs.Ytlaipnndoepdcaa.fnExactCrc
open Go.ChangeShapes Go.WideShapes Go.ChangeAt Go.RowKit
set_option linter.unusedVariables false
set_option maxRecDepth 100000

theorem walk (l : List UInt8) (w : World) (hl : l.length ≤ 9223372036854775807) :
    Calls Try.prog 10 #[.string (S l)] w fun e w' => e = .returned (.bool true) ∧ Below w.heap.size w w' := by
  go_enter Try.func10, Try.ntmps10
  go_wp2_with (first
    | (go_at_call 35; refine (sCrc_any _ _ hl).mono ?_; rintro e w1 ⟨rfl, rfl⟩)
    | (go_at_call 36; refine (iCrc_any _ _ hl).mono ?_; rintro e w2 ⟨rfl, rfl⟩))
  all_goals (go_ret; exact ⟨rfl, Below.refl _ _⟩)
end Go.Proofs.Ytlaipnndoepdcaa.fnExactCrc
