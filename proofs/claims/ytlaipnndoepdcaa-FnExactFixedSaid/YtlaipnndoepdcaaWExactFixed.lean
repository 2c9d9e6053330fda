/-
  The law FnExactFixed: the walk.
-/
import Derived.Test.YtlaipnndoepdcaaNum2
import Derived.Test.YtlaipnndoepdcaaNum3
namespace Go.Proofs.Ytlaipnndoepdcaa.fnExactFixed
open Go.ChangeShapes Go.WideShapes Go.ChangeAt Go.RowKit
set_option linter.unusedVariables false
set_option maxRecDepth 100000

theorem walk (n width : Int) (w : World) (h1 : n ≤ 9223372036854775807) (_ : -9223372036854775808 ≤ n) (_ : width ≤ 9223372036854775807) (_ : -9223372036854775808 ≤ width) :
    Calls Try.prog 7 #[.int .i64 n, .int .i64 width] w fun e w' => e = .returned (.bool true) ∧ Below w.heap.size w w' := by
  go_enter Try.func7, Try.ntmps7
  go_wp2_with (first
    | (go_at_call 21; refine (sFixed_any _ _ _ h1).mono ?_; rintro e w1 ⟨rfl, hb1⟩)
    | (go_at_call 22; refine (iFixed_any _ _ _ h1).mono ?_; rintro e w2 ⟨rfl, hb2⟩))
  go_ret
  exact ⟨rfl, hb1.trans (hb2.mono hb1.size)⟩
end Go.Proofs.Ytlaipnndoepdcaa.fnExactFixed
