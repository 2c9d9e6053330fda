/-
  toVote, szVote.
-/
import Derived.Test.YteajphbbmobaaaaRec1
namespace Go.Proofs.Yteajphbbmobaaaa
open Go.ChangeShapes Go.WideShapes Go.ChangeAt Go.RowKit
set_option linter.unusedVariables false
set_option maxRecDepth 100000

theorem toVote_any (x : VoteT) (w : World) :
    Calls Try.prog 21 #[x.val] w fun e w' => e = .returned x.val ∧ Below w.heap.size w w' := by
  obtain ⟨h, r, s, id, v⟩ := x
  simp only [VoteT.val]
  go_enter Try.func21, Try.ntmps21
  go_wp2
  refine bodyPost_ret (v := .agg #[.int .i64 h, .int .i64 r, .int .i64 s, .string (S id), .int .i64 v]) (by simp [results, Try.results21, go_sem]) rfl ⟨rfl, ?_⟩
  repeat (first | exact Below.refl _ _ | refine Below.setCell ?_ (by simp <;> omega) _ | refine Below.alloc ?_ (by simp <;> omega) _)

theorem szVote_yes (x : VoteT) (l : Int) (w : World) (hl : (x.id.length : Int) ≤ l) (h2 : l ≤ 9223372036854775807) :
    Calls Try.prog 19 #[x.val, .int .i64 l] w fun e w' => e = .returned (.int .i64 (l - x.id.length)) ∧ Below w.heap.size w w' := by
  obtain ⟨h, r, s, id, v⟩ := x
  simp only [VoteT.val] at hl ⊢
  go_enter Try.func19, Try.ntmps19
  go_wp2
  go_ret
  exact ⟨rfl, (Below.refl _ _).alloc (Nat.le_refl _) _⟩
theorem szVote_no (x : VoteT) (l : Int) (w : World) (hl : l < (x.id.length : Int)) (h0 : 0 ≤ l) (h2 : x.id.length ≤ 9223372036854775807) :
    Calls Try.prog 19 #[x.val, .int .i64 l] w fun e w' => e = .returned (.int .i64 (-1)) ∧ Below w.heap.size w w' := by
  obtain ⟨h, r, s, id, v⟩ := x
  simp only [VoteT.val] at hl h2 ⊢
  go_enter Try.func19, Try.ntmps19
  go_wp2
  go_ret
  exact ⟨rfl, (Below.refl _ _).alloc (Nat.le_refl _) _⟩
end Go.Proofs.Yteajphbbmobaaaa
