/-
  Texts of this proof, laid into one: Head2, Vote3.
-/
import Derived.Test.YtecimgkgdpnaeaaDoorGFnExactCommitOk5
/-
  The laws' helpers over headers: toHeader, szHeader.
-/
namespace Go.Proofs.YtecimgkgdpnaeaaDoor
open Go.ChangeShapes Go.WideShapes Go.ChangeAt Go.RowKit
set_option linter.unusedVariables false
set_option maxRecDepth 100000

theorem toHeader_any (x : HeadT) (w : World) :
    Calls Tryd.prog 39 #[x.val] w fun e w' => e = .returned x.val ∧ Below w.heap.size w w' := by
  obtain ⟨h, t, last, vals, next, data⟩ := x
  simp only [HeadT.val]
  go_enter Tryd.func39, Tryd.ntmps39
  go_wp2
  refine bodyPost_ret (v := .agg #[.int .i64 h, .int .i64 t, .string (S last), .string (S vals), .string (S next), .string (S data)]) (by simp [results, Tryd.results39, go_sem]) rfl ⟨rfl, ?_⟩
  repeat (first | exact Below.refl _ _ | refine Below.setCell ?_ (by simp <;> omega) _ | refine Below.alloc ?_ (by simp <;> omega) _)

/-- szHeader: what is left, or -1. -/
def szHeadI (x : HeadT) (l : Int) : Int := if (x.last.length : Int) + x.vals.length + x.next.length + x.data.length ≤ l then l - x.last.length - x.vals.length - x.next.length - x.data.length else -1
theorem szHeader_any (x : HeadT) (l : Int) (w : World) (h1 : x.last.length ≤ 9223372036854775807) (h2 : x.vals.length ≤ 9223372036854775807) (h3 : x.next.length ≤ 9223372036854775807) (h4 : x.data.length ≤ 9223372036854775807) (hl0 : 0 ≤ l) (hl : l ≤ 9223372036854775807) :
    Calls Tryd.prog 37 #[x.val, .int .i64 l] w fun e w' => e = .returned (.int .i64 (szHeadI x l)) ∧ Below w.heap.size w w' := by
  obtain ⟨h, t, last, vals, next, data⟩ := x
  simp only [HeadT.val] at h1 h2 h3 h4 ⊢
  by_cases c1 : (last.length : Int) ≤ l
  · by_cases c2 : (last.length : Int) + vals.length ≤ l
    · by_cases c3 : (last.length : Int) + vals.length + next.length ≤ l
      · by_cases c4 : (last.length : Int) + vals.length + next.length + data.length ≤ l
        · have HV : Hid (szHeadI ⟨h, t, last, vals, next, data⟩ l = l - last.length - vals.length - next.length - data.length) := by unfold Hid szHeadI; rw [if_pos c4]
          go_enter Tryd.func37, Tryd.ntmps37
          go_wp2
          go_ret
          exact ⟨ret_int HV.out.symm, (Below.refl _ _).alloc (Nat.le_refl _) _⟩
        · have HV : Hid (szHeadI ⟨h, t, last, vals, next, data⟩ l = -1) := by unfold Hid szHeadI; rw [if_neg c4]
          go_enter Tryd.func37, Tryd.ntmps37
          go_wp2
          go_ret
          exact ⟨ret_int HV.out.symm, (Below.refl _ _).alloc (Nat.le_refl _) _⟩
      · have HV : Hid (szHeadI ⟨h, t, last, vals, next, data⟩ l = -1) := by unfold Hid szHeadI; rw [if_neg (by simp only; omega)]
        go_enter Tryd.func37, Tryd.ntmps37
        go_wp2
        go_ret
        exact ⟨ret_int HV.out.symm, (Below.refl _ _).alloc (Nat.le_refl _) _⟩
    · have HV : Hid (szHeadI ⟨h, t, last, vals, next, data⟩ l = -1) := by unfold Hid szHeadI; rw [if_neg (by simp only; omega)]
      go_enter Tryd.func37, Tryd.ntmps37
      go_wp2
      go_ret
      exact ⟨ret_int HV.out.symm, (Below.refl _ _).alloc (Nat.le_refl _) _⟩
  · have HV : Hid (szHeadI ⟨h, t, last, vals, next, data⟩ l = -1) := by unfold Hid szHeadI; rw [if_neg (by simp only; omega)]
    go_enter Tryd.func37, Tryd.ntmps37
    go_wp2
    go_ret
    exact ⟨ret_int HV.out.symm, (Below.refl _ _).alloc (Nat.le_refl _) _⟩
end Go.Proofs.YtecimgkgdpnaeaaDoor

/-
  VoteOk of the program.
-/
namespace Go.Proofs.YtecimgkgdpnaeaaDoor
open Go.ChangeShapes Go.WideShapes Go.ChangeAt Go.RowKit
set_option linter.unusedVariables false
set_option linter.unusedSimpArgs false
set_option maxRecDepth 100000

theorem iVoteOk_any (x : VoteT) (w : World) (hl : x.id.length ≤ 9223372036854775807) :
    Calls Tryd.prog 98 #[x.val] w fun e w' => e = .returned (.bool (voteOkB x)) ∧ Below w.heap.size w w' := by
  obtain ⟨h, r, s, id, v⟩ := x
  simp only [VoteT.val] at hl ⊢
  cases h1 : inB h 1 1000000
  · skip
    go_enter Tryd.func98, Tryd.ntmps98
    go_wp2_with (first
      | (go_at_call 55; refine (within_b _ _ _ _).mono ?_; rintro e w' ⟨rfl, rfl⟩)
      | (go_at_call 54; refine (isHeight_b _ _).mono ?_; rintro e w' ⟨rfl, rfl⟩)
      | (go_at_call 57; refine (isVal_b _ _).mono ?_; rintro e w' ⟨rfl, rfl⟩)
      | (go_at_call 56; refine (isId_b _ _ (by simpa using hl)).mono ?_; rintro e w' ⟨rfl, rfl⟩))
    go_ret
    exact ⟨ret_bool (by simp [voteOkB, isIdB, *]), (Below.refl _ _).alloc (Nat.le_refl _) _⟩
  · cases h2 : inB r 0 1000
    · skip
      go_enter Tryd.func98, Tryd.ntmps98
      go_wp2_with (first
        | (go_at_call 55; refine (within_b _ _ _ _).mono ?_; rintro e w' ⟨rfl, rfl⟩)
        | (go_at_call 54; refine (isHeight_b _ _).mono ?_; rintro e w' ⟨rfl, rfl⟩)
        | (go_at_call 57; refine (isVal_b _ _).mono ?_; rintro e w' ⟨rfl, rfl⟩)
        | (go_at_call 56; refine (isId_b _ _ (by simpa using hl)).mono ?_; rintro e w' ⟨rfl, rfl⟩))
      go_ret
      exact ⟨ret_bool (by simp [voteOkB, isIdB, *]), (Below.refl _ _).alloc (Nat.le_refl _) _⟩
    · cases h3 : inB s 1 2
      · skip
        go_enter Tryd.func98, Tryd.ntmps98
        go_wp2_with (first
          | (go_at_call 55; refine (within_b _ _ _ _).mono ?_; rintro e w' ⟨rfl, rfl⟩)
          | (go_at_call 54; refine (isHeight_b _ _).mono ?_; rintro e w' ⟨rfl, rfl⟩)
          | (go_at_call 57; refine (isVal_b _ _).mono ?_; rintro e w' ⟨rfl, rfl⟩)
          | (go_at_call 56; refine (isId_b _ _ (by simpa using hl)).mono ?_; rintro e w' ⟨rfl, rfl⟩))
        go_ret
        exact ⟨ret_bool (by simp [voteOkB, isIdB, *]), (Below.refl _ _).alloc (Nat.le_refl _) _⟩
      · cases h4 : isIdB id
        · skip
          go_enter Tryd.func98, Tryd.ntmps98
          go_wp2_with (first
            | (go_at_call 55; refine (within_b _ _ _ _).mono ?_; rintro e w' ⟨rfl, rfl⟩)
            | (go_at_call 54; refine (isHeight_b _ _).mono ?_; rintro e w' ⟨rfl, rfl⟩)
            | (go_at_call 57; refine (isVal_b _ _).mono ?_; rintro e w' ⟨rfl, rfl⟩)
            | (go_at_call 56; refine (isId_b _ _ (by simpa using hl)).mono ?_; rintro e w' ⟨rfl, rfl⟩))
          go_ret
          exact ⟨ret_bool (by simp [voteOkB, *]), (Below.refl _ _).alloc (Nat.le_refl _) _⟩
        · cases h5 : inB v 1 99
          · skip
            go_enter Tryd.func98, Tryd.ntmps98
            go_wp2_with (first
              | (go_at_call 55; refine (within_b _ _ _ _).mono ?_; rintro e w' ⟨rfl, rfl⟩)
              | (go_at_call 54; refine (isHeight_b _ _).mono ?_; rintro e w' ⟨rfl, rfl⟩)
              | (go_at_call 57; refine (isVal_b _ _).mono ?_; rintro e w' ⟨rfl, rfl⟩)
              | (go_at_call 56; refine (isId_b _ _ (by simpa using hl)).mono ?_; rintro e w' ⟨rfl, rfl⟩))
            go_ret
            exact ⟨ret_bool (by simp [voteOkB, *]), (Below.refl _ _).alloc (Nat.le_refl _) _⟩
          · skip
            go_enter Tryd.func98, Tryd.ntmps98
            go_wp2_with (first
              | (go_at_call 55; refine (within_b _ _ _ _).mono ?_; rintro e w' ⟨rfl, rfl⟩)
              | (go_at_call 54; refine (isHeight_b _ _).mono ?_; rintro e w' ⟨rfl, rfl⟩)
              | (go_at_call 57; refine (isVal_b _ _).mono ?_; rintro e w' ⟨rfl, rfl⟩)
              | (go_at_call 56; refine (isId_b _ _ (by simpa using hl)).mono ?_; rintro e w' ⟨rfl, rfl⟩))
            go_ret
            exact ⟨ret_bool (by simp [voteOkB, *]), (Below.refl _ _).alloc (Nat.le_refl _) _⟩
end Go.Proofs.YtecimgkgdpnaeaaDoor
