/-
  The law FnExactDec: the walk.
-/
import Derived.Test.YtlaipnndoepdcaaNum7
import Derived.Test.YtlaipnndoepdcaaNum8
namespace Go.Proofs.Ytlaipnndoepdcaa.fnExactDec
open Go.ChangeShapes Go.WideShapes Go.ChangeAt Go.RowKit
set_option linter.unusedVariables false
set_option maxRecDepth 100000

theorem walk (n : Int) (w : World) (h1 : n ≤ 9223372036854775807) (h2 : -9223372036854775808 ≤ n) :
    Calls Try.prog 11 #[.int .i64 n] w fun e w' => e = .returned (.bool true) ∧ Below w.heap.size w w' := by
  go_enter Try.func11, Try.ntmps11
  go_wp2_with (first
    | (go_at_call 37; refine (sDec_any _ _ h1 h2).mono ?_; rintro e w1 ⟨rfl, hb1⟩)
    | (go_at_call 38; refine (iDec_any _ _ h1 h2).mono ?_; rintro e w2 ⟨rfl, hb2⟩))
  go_ret
  exact ⟨rfl, hb1.trans (hb2.mono hb1.size)⟩
end Go.Proofs.Ytlaipnndoepdcaa.fnExactDec
