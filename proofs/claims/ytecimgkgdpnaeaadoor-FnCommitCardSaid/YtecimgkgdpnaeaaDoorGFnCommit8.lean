/-
  Texts of this proof, laid into one: Vote3.
-/
import Derived.Test.YtecimgkgdpnaeaaDoorGFnCommit7
/-
  VoteOk of the program.
-/
namespace Go.Proofs.YtecimgkgdpnaeaaDoor
open Go.ChangeShapes Go.WideShapes Go.ChangeAt Go.RowKit
set_option linter.unusedVariables false
set_option linter.unusedSimpArgs false
set_option maxRecDepth 100000

theorem iVoteOk_any (x : VoteT) (w : World) (hl : x.id.length ≤ 9223372036854775807) :
    Calls Tryd.prog 98 #[x.val] w fun e w' => e = .returned (.bool (voteOkB x)) ∧ Below w.heap.size w w' := by
  obtain ⟨h, r, s, id, v⟩ := x
  simp only [VoteT.val] at hl ⊢
  cases h1 : inB h 1 1000000
  · skip
    go_enter Tryd.func98, Tryd.ntmps98
    go_wp2_with (first
      | (go_at_call 55; refine (within_b _ _ _ _).mono ?_; rintro e w' ⟨rfl, rfl⟩)
      | (go_at_call 54; refine (isHeight_b _ _).mono ?_; rintro e w' ⟨rfl, rfl⟩)
      | (go_at_call 57; refine (isVal_b _ _).mono ?_; rintro e w' ⟨rfl, rfl⟩)
      | (go_at_call 56; refine (isId_b _ _ (by simpa using hl)).mono ?_; rintro e w' ⟨rfl, rfl⟩))
    go_ret
    exact ⟨ret_bool (by simp [voteOkB, isIdB, *]), (Below.refl _ _).alloc (Nat.le_refl _) _⟩
  · cases h2 : inB r 0 1000
    · skip
      go_enter Tryd.func98, Tryd.ntmps98
      go_wp2_with (first
        | (go_at_call 55; refine (within_b _ _ _ _).mono ?_; rintro e w' ⟨rfl, rfl⟩)
        | (go_at_call 54; refine (isHeight_b _ _).mono ?_; rintro e w' ⟨rfl, rfl⟩)
        | (go_at_call 57; refine (isVal_b _ _).mono ?_; rintro e w' ⟨rfl, rfl⟩)
        | (go_at_call 56; refine (isId_b _ _ (by simpa using hl)).mono ?_; rintro e w' ⟨rfl, rfl⟩))
      go_ret
      exact ⟨ret_bool (by simp [voteOkB, isIdB, *]), (Below.refl _ _).alloc (Nat.le_refl _) _⟩
    · cases h3 : inB s 1 2
      · skip
        go_enter Tryd.func98, Tryd.ntmps98
        go_wp2_with (first
          | (go_at_call 55; refine (within_b _ _ _ _).mono ?_; rintro e w' ⟨rfl, rfl⟩)
          | (go_at_call 54; refine (isHeight_b _ _).mono ?_; rintro e w' ⟨rfl, rfl⟩)
          | (go_at_call 57; refine (isVal_b _ _).mono ?_; rintro e w' ⟨rfl, rfl⟩)
          | (go_at_call 56; refine (isId_b _ _ (by simpa using hl)).mono ?_; rintro e w' ⟨rfl, rfl⟩))
        go_ret
        exact ⟨ret_bool (by simp [voteOkB, isIdB, *]), (Below.refl _ _).alloc (Nat.le_refl _) _⟩
      · cases h4 : isIdB id
        · skip
          go_enter Tryd.func98, Tryd.ntmps98
          go_wp2_with (first
            | (go_at_call 55; refine (within_b _ _ _ _).mono ?_; rintro e w' ⟨rfl, rfl⟩)
            | (go_at_call 54; refine (isHeight_b _ _).mono ?_; rintro e w' ⟨rfl, rfl⟩)
            | (go_at_call 57; refine (isVal_b _ _).mono ?_; rintro e w' ⟨rfl, rfl⟩)
            | (go_at_call 56; refine (isId_b _ _ (by simpa using hl)).mono ?_; rintro e w' ⟨rfl, rfl⟩))
          go_ret
          exact ⟨ret_bool (by simp [voteOkB, *]), (Below.refl _ _).alloc (Nat.le_refl _) _⟩
        · cases h5 : inB v 1 99
          · skip
            go_enter Tryd.func98, Tryd.ntmps98
            go_wp2_with (first
              | (go_at_call 55; refine (within_b _ _ _ _).mono ?_; rintro e w' ⟨rfl, rfl⟩)
              | (go_at_call 54; refine (isHeight_b _ _).mono ?_; rintro e w' ⟨rfl, rfl⟩)
              | (go_at_call 57; refine (isVal_b _ _).mono ?_; rintro e w' ⟨rfl, rfl⟩)
              | (go_at_call 56; refine (isId_b _ _ (by simpa using hl)).mono ?_; rintro e w' ⟨rfl, rfl⟩))
            go_ret
            exact ⟨ret_bool (by simp [voteOkB, *]), (Below.refl _ _).alloc (Nat.le_refl _) _⟩
          · skip
            go_enter Tryd.func98, Tryd.ntmps98
            go_wp2_with (first
              | (go_at_call 55; refine (within_b _ _ _ _).mono ?_; rintro e w' ⟨rfl, rfl⟩)
              | (go_at_call 54; refine (isHeight_b _ _).mono ?_; rintro e w' ⟨rfl, rfl⟩)
              | (go_at_call 57; refine (isVal_b _ _).mono ?_; rintro e w' ⟨rfl, rfl⟩)
              | (go_at_call 56; refine (isId_b _ _ (by simpa using hl)).mono ?_; rintro e w' ⟨rfl, rfl⟩))
            go_ret
            exact ⟨ret_bool (by simp [voteOkB, *]), (Below.refl _ _).alloc (Nat.le_refl _) _⟩
end Go.Proofs.YtecimgkgdpnaeaaDoor
