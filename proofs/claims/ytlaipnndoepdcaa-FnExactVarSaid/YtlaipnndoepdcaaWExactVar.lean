/-
  The law FnExactVar: the walk.
-/
import Derived.Test.YtlaipnndoepdcaaNum5
namespace Go.Proofs.Ytlaipnndoepdcaa.fnExactVar
open Go.ChangeShapes Go.WideShapes Go.ChangeAt Go.RowKit
set_option linter.unusedVariables false
set_option maxRecDepth 100000

theorem walk (n : Int) (w : World) (h1 : n ≤ 9223372036854775807) (_ : -9223372036854775808 ≤ n) :
    Calls Try.prog 6 #[.int .i64 n] w fun e w' => e = .returned (.bool true) ∧ Below w.heap.size w w' := by
  go_enter Try.func6, Try.ntmps6
  go_wp2_with (first
    | (go_at_call 19; refine (sVar_any _ _).mono ?_; rintro e w1 ⟨rfl, hb1⟩)
    | (go_at_call 20; refine (iVar_any _ _).mono ?_; rintro e w2 ⟨rfl, hb2⟩))
  go_ret
  exact ⟨rfl, hb1.trans (hb2.mono hb1.size)⟩
end Go.Proofs.Ytlaipnndoepdcaa.fnExactVar
