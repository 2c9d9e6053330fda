/-
  Contracts of within, l1In, and of Fixed, in one seat's numbers.
-/
import Derived.Test.YtnmgecaflildoaaBase
namespace Go.Proofs.Ytnmgecaflildoaa
open Go.ChangeShapes Go.WideShapes Go.ChangeAt Go.RowKit

theorem info_u8 : (Try.prog.info? 5).map (fun i => (i.zero, i.size, i.bytes)) = some (some (.int .u8 0), 1, 1) := by kernel_rfl
theorem within_any (x lo hi : Int) (w : World) :
    Calls Try.prog 23 #[.int .i64 x, .int .i64 lo, .int .i64 hi] w fun e w' => e = .returned (.bool (decide (lo ≤ x) && decide (x ≤ hi))) ∧ w = w' := by
  go_enter Try.func23, Try.ntmps23
  go_wp2
  all_goals (go_ret; exact ⟨ret_bool (by simp <;> omega), rfl⟩)
theorem l1In_any (x lo hi : Int) (w : World) :
    Calls Try.prog 22 #[.int .i64 x, .int .i64 lo, .int .i64 hi] w fun e w' => e = .returned (.bool (decide (lo ≤ x) && decide (x ≤ hi))) ∧ w = w' := by
  go_enter Try.func22, Try.ntmps22
  go_wp2
  all_goals (go_ret; exact ⟨ret_bool (by simp <;> omega), rfl⟩)
theorem within_yes (x lo hi : Int) (w : World) (h1 : lo ≤ x) (h2 : x ≤ hi) :
    Calls Try.prog 23 #[.int .i64 x, .int .i64 lo, .int .i64 hi] w fun e w' => e = .returned (.bool true) ∧ w = w' :=
  (within_any x lo hi w).mono fun e w' ⟨he, hw⟩ => ⟨by rw [he, decide_eq_true h1, decide_eq_true h2]; rfl, hw⟩
theorem within_not (x lo hi : Int) (w : World) (h : x < lo ∨ hi < x) :
    Calls Try.prog 23 #[.int .i64 x, .int .i64 lo, .int .i64 hi] w fun e w' => e = .returned (.bool false) ∧ w = w' :=
  (within_any x lo hi w).mono fun e w' ⟨he, hw⟩ => ⟨by rw [he]; refine ret_bool ?_; simp; omega, hw⟩
theorem l1In_yes (x lo hi : Int) (w : World) (h1 : lo ≤ x) (h2 : x ≤ hi) :
    Calls Try.prog 22 #[.int .i64 x, .int .i64 lo, .int .i64 hi] w fun e w' => e = .returned (.bool true) ∧ w = w' :=
  (l1In_any x lo hi w).mono fun e w' ⟨he, hw⟩ => ⟨by rw [he, decide_eq_true h1, decide_eq_true h2]; rfl, hw⟩
theorem l1In_not (x lo hi : Int) (w : World) (h : x < lo ∨ hi < x) :
    Calls Try.prog 22 #[.int .i64 x, .int .i64 lo, .int .i64 hi] w fun e w' => e = .returned (.bool false) ∧ w = w' :=
  (l1In_any x lo hi w).mono fun e w' ⟨he, hw⟩ => ⟨by rw [he]; refine ret_bool ?_; simp; omega, hw⟩
/-- Is a number from one to another one? -/
def inB (x lo hi : Int) : Bool := decide (lo ≤ x) && decide (x ≤ hi)
theorem within_b (x lo hi : Int) (w : World) :
    Calls Try.prog 23 #[.int .i64 x, .int .i64 lo, .int .i64 hi] w fun e w' => e = .returned (.bool (inB x lo hi)) ∧ w = w' := within_any x lo hi w
theorem l1In_b (x lo hi : Int) (w : World) :
    Calls Try.prog 22 #[.int .i64 x, .int .i64 lo, .int .i64 hi] w fun e w' => e = .returned (.bool (inB x lo hi)) ∧ w = w' := l1In_any x lo hi w
theorem inB_true {x lo hi : Int} (h : inB x lo hi = true) : lo ≤ x ∧ x ≤ hi := by simpa [inB] using h
theorem inB_false {x lo hi : Int} (h : inB x lo hi = false) : x < lo ∨ hi < x := by
  by_cases h1 : lo ≤ x <;> by_cases h2 : x ≤ hi
  · rw [inB, decide_eq_true h1, decide_eq_true h2] at h; cases h
  all_goals omega
end Go.Proofs.Ytnmgecaflildoaa
