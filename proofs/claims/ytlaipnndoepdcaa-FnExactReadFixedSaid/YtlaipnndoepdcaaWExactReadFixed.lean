/-
  The law FnExactReadFixed: the walk.
-/
import Derived.Test.YtlaipnndoepdcaaNum4
namespace Go.Proofs.Ytlaipnndoepdcaa.fnExactReadFixed
open Go.ChangeShapes Go.WideShapes Go.ChangeAt Go.RowKit
set_option linter.unusedVariables false
set_option maxRecDepth 100000

theorem walk (l : List UInt8) (n : Int) (w : World) (hl : l.length ≤ 9223372036854775807) (h1 : n ≤ 9223372036854775807) (_ : -9223372036854775808 ≤ n) :
    Calls Try.prog 5 #[.string (S l), .int .i64 n] w fun e w' => e = .returned (.bool true) ∧ Below w.heap.size w w' := by
  go_enter Try.func5, Try.ntmps5
  go_wp2_with (first
    | (go_at_call 17; refine (sReadFixed_any _ _ _ hl).mono ?_; rintro e w1 ⟨rfl, rfl⟩)
    | (go_at_call 18; refine (iReadFixed_any _ _ _ hl).mono ?_; rintro e w2 ⟨rfl, rfl⟩))
  all_goals (go_ret; exact ⟨rfl, Below.refl _ _⟩)
end Go.Proofs.Ytlaipnndoepdcaa.fnExactReadFixed
