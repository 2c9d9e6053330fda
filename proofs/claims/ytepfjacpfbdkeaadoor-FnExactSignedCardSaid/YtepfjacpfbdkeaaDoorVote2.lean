/-
  toVote, szVote.
-/
import Derived.Test.YtepfjacpfbdkeaaDoorRec1
namespace Go.Proofs.YtepfjacpfbdkeaaDoor
open Go.ChangeShapes Go.WideShapes Go.ChangeAt Go.RowKit
set_option linter.unusedVariables false
set_option maxRecDepth 100000

theorem toVote_any (x : VoteT) (w : World) :
    Calls Tryd.prog 13 #[x.val] w fun e w' => e = .returned x.val ∧ Below w.heap.size w w' := by
  obtain ⟨h, r, s, id, v⟩ := x
  simp only [VoteT.val]
  go_enter Tryd.func13, Tryd.ntmps13
  go_wp2
  refine bodyPost_ret (v := .agg #[.int .i64 h, .int .i64 r, .int .i64 s, .string (S id), .int .i64 v]) (by simp [results, Tryd.results13, go_sem]) rfl ⟨rfl, ?_⟩
  repeat (first | exact Below.refl _ _ | refine Below.setCell ?_ (by simp <;> omega) _ | refine Below.alloc ?_ (by simp <;> omega) _)

theorem szVote_yes (x : VoteT) (l : Int) (w : World) (hl : (x.id.length : Int) ≤ l) (h2 : l ≤ 9223372036854775807) :
    Calls Tryd.prog 11 #[x.val, .int .i64 l] w fun e w' => e = .returned (.int .i64 (l - x.id.length)) ∧ Below w.heap.size w w' := by
  obtain ⟨h, r, s, id, v⟩ := x
  simp only [VoteT.val] at hl ⊢
  go_enter Tryd.func11, Tryd.ntmps11
  go_wp2
  go_ret
  exact ⟨rfl, (Below.refl _ _).alloc (Nat.le_refl _) _⟩
theorem szVote_no (x : VoteT) (l : Int) (w : World) (hl : l < (x.id.length : Int)) (h0 : 0 ≤ l) (h2 : x.id.length ≤ 9223372036854775807) :
    Calls Tryd.prog 11 #[x.val, .int .i64 l] w fun e w' => e = .returned (.int .i64 (-1)) ∧ Below w.heap.size w w' := by
  obtain ⟨h, r, s, id, v⟩ := x
  simp only [VoteT.val] at hl h2 ⊢
  go_enter Tryd.func11, Tryd.ntmps11
  go_wp2
  go_ret
  exact ⟨rfl, (Below.refl _ _).alloc (Nat.le_refl _) _⟩
end Go.Proofs.YtepfjacpfbdkeaaDoor
