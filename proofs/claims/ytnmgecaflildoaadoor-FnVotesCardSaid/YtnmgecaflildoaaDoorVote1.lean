/-
  VoteOk, both; toVote, szVote.
-/
import Derived.Test.YtnmgecaflildoaaDoorRec1
namespace Go.Proofs.YtnmgecaflildoaaDoor
open Go.ChangeShapes Go.WideShapes Go.ChangeAt Go.RowKit
set_option linter.unusedVariables false
set_option maxRecDepth 100000

theorem sVoteOk_any (x : VoteT) (w : World) (hl : x.id.length ≤ 9223372036854775807) :
    Calls Tryd.prog 24 #[x.val] w fun e w' => e = .returned (.bool (voteOkB x)) ∧ Below w.heap.size w w' := by
  obtain ⟨h, r, s, id, v⟩ := x
  simp only [VoteT.val] at hl ⊢
  cases h1 : inB h 1 1000000
  · skip
    go_enter Tryd.func24, Tryd.ntmps24
    go_wp2_with (go_at_call 44; refine (l1In_b _ _ _ _).mono ?_; rintro e w' ⟨rfl, rfl⟩)
    go_ret
    exact ⟨ret_bool (by simp [voteOkB, isIdB, *]), (Below.refl _ _).alloc (Nat.le_refl _) _⟩
  · cases h2 : inB r 0 1000
    · skip
      go_enter Tryd.func24, Tryd.ntmps24
      go_wp2_with (go_at_call 44; refine (l1In_b _ _ _ _).mono ?_; rintro e w' ⟨rfl, rfl⟩)
      go_ret
      exact ⟨ret_bool (by simp [voteOkB, isIdB, *]), (Below.refl _ _).alloc (Nat.le_refl _) _⟩
    · cases h3 : inB s 1 2
      · skip
        go_enter Tryd.func24, Tryd.ntmps24
        go_wp2_with (go_at_call 44; refine (l1In_b _ _ _ _).mono ?_; rintro e w' ⟨rfl, rfl⟩)
        go_ret
        exact ⟨ret_bool (by simp [voteOkB, isIdB, *]), (Below.refl _ _).alloc (Nat.le_refl _) _⟩
      · cases id with
        | nil =>
          cases h5 : inB v 1 99 <;> skip
          all_goals skip
          · skip
            go_enter Tryd.func24, Tryd.ntmps24
            go_wp2_with (go_at_call 44; refine (l1In_b _ _ _ _).mono ?_; rintro e w' ⟨rfl, rfl⟩)
            go_ret
            exact ⟨ret_bool (by simp [voteOkB, isIdB, *]), (Below.refl _ _).alloc (Nat.le_refl _) _⟩
          · skip
            go_enter Tryd.func24, Tryd.ntmps24
            go_wp2_with (go_at_call 44; refine (l1In_b _ _ _ _).mono ?_; rintro e w' ⟨rfl, rfl⟩)
            go_ret
            exact ⟨ret_bool (by simp [voteOkB, isIdB, *]), (Below.refl _ _).alloc (Nat.le_refl _) _⟩
        | cons b t =>
          simp only [List.length_cons] at hl
          rcases Nat.lt_trichotomy t.length 7 with h8 | h8 | h8
          · skip
            go_enter Tryd.func24, Tryd.ntmps24
            go_wp2_with (go_at_call 44; refine (l1In_b _ _ _ _).mono ?_; rintro e w' ⟨rfl, rfl⟩)
            go_ret
            exact ⟨ret_bool (by simp [voteOkB, isIdB, Nat.ne_of_lt h8, *]), (Below.refl _ _).alloc (Nat.le_refl _) _⟩
          · have h8' : 7 ≤ t.length ∧ t.length ≤ 7 := by omega
            have H8 := Lib.hid h8
            clear h8
            obtain ⟨h8a, h8b⟩ := h8'
            cases h5 : inB v 1 99
            · skip
              go_enter Tryd.func24, Tryd.ntmps24
              go_wp2_with (go_at_call 44; refine (l1In_b _ _ _ _).mono ?_; rintro e w' ⟨rfl, rfl⟩)
              go_ret
              exact ⟨ret_bool (by simp [voteOkB, isIdB, H8.out, *]), (Below.refl _ _).alloc (Nat.le_refl _) _⟩
            · skip
              go_enter Tryd.func24, Tryd.ntmps24
              go_wp2_with (go_at_call 44; refine (l1In_b _ _ _ _).mono ?_; rintro e w' ⟨rfl, rfl⟩)
              go_ret
              exact ⟨ret_bool (by simp [voteOkB, isIdB, H8.out, *]), (Below.refl _ _).alloc (Nat.le_refl _) _⟩
          · skip
            go_enter Tryd.func24, Tryd.ntmps24
            go_wp2_with (go_at_call 44; refine (l1In_b _ _ _ _).mono ?_; rintro e w' ⟨rfl, rfl⟩)
            go_ret
            exact ⟨ret_bool (by simp [voteOkB, isIdB, Nat.ne_of_gt h8, *]), (Below.refl _ _).alloc (Nat.le_refl _) _⟩
theorem isHeight_b (x : Int) (w : World) :
    Calls Tryd.prog 48 #[.int .i64 x] w fun e w' => e = .returned (.bool (inB x 1 1000000)) ∧ w = w' := by
  go_enter Tryd.func48, Tryd.ntmps48
  go_wp2_with (go_at_call 36; refine (within_b _ _ _ _).mono ?_; rintro e w' ⟨rfl, rfl⟩)
  go_ret
  exact ⟨rfl, rfl⟩
theorem isVal_b (x : Int) (w : World) :
    Calls Tryd.prog 25 #[.int .i64 x] w fun e w' => e = .returned (.bool (inB x 1 99)) ∧ w = w' := by
  go_enter Tryd.func25, Tryd.ntmps25
  go_wp2_with (go_at_call 36; refine (within_b _ _ _ _).mono ?_; rintro e w' ⟨rfl, rfl⟩)
  go_ret
  exact ⟨rfl, rfl⟩
theorem isId_b (id : List UInt8) (w : World) (hl : id.length ≤ 9223372036854775807) :
    Calls Tryd.prog 49 #[.string (S id)] w fun e w' => e = .returned (.bool (isIdB id)) ∧ w = w' := by
  cases id with
  | nil =>
    go_enter Tryd.func49, Tryd.ntmps49
    go_wp2
    go_ret
    exact ⟨rfl, rfl⟩
  | cons b t =>
    simp only [List.length_cons] at hl
    rcases Nat.lt_trichotomy t.length 7 with h8 | h8 | h8
    · go_enter Tryd.func49, Tryd.ntmps49
      go_wp2
      go_ret
      exact ⟨ret_bool (by simp [isIdB]; rw [Bool.eq_iff_iff]; simp; omega), rfl⟩
    · have h8' : 7 ≤ t.length ∧ t.length ≤ 7 := by omega
      have H8 := Lib.hid h8
      clear h8
      obtain ⟨h8a, h8b⟩ := h8'
      go_enter Tryd.func49, Tryd.ntmps49
      go_wp2
      go_ret
      exact ⟨ret_bool (by simp [isIdB, H8.out]), rfl⟩
    · go_enter Tryd.func49, Tryd.ntmps49
      go_wp2
      go_ret
      exact ⟨ret_bool (by simp [isIdB]; rw [Bool.eq_iff_iff]; simp; omega), rfl⟩
end Go.Proofs.YtnmgecaflildoaaDoor
