/-
  Texts of this proof, laid into one: Vote1, Head1, Vote3.
-/
import Derived.Test.YtecimgkgdpnaeaaDoorGFnExactCommitVals3
/-
  VoteOk, both; toVote, szVote.
-/
namespace Go.Proofs.YtecimgkgdpnaeaaDoor
open Go.ChangeShapes Go.WideShapes Go.ChangeAt Go.RowKit
set_option linter.unusedVariables false
set_option maxRecDepth 100000

theorem sVoteOk_any (x : VoteT) (w : World) (hl : x.id.length ≤ 9223372036854775807) :
    Calls Tryd.prog 59 #[x.val] w fun e w' => e = .returned (.bool (voteOkB x)) ∧ Below w.heap.size w w' := by
  obtain ⟨h, r, s, id, v⟩ := x
  simp only [VoteT.val] at hl ⊢
  cases h1 : inB h 1 1000000
  · skip
    go_enter Tryd.func59, Tryd.ntmps59
    go_wp2_with (go_at_call 58; refine (l1In_b _ _ _ _).mono ?_; rintro e w' ⟨rfl, rfl⟩)
    go_ret
    exact ⟨ret_bool (by simp [voteOkB, isIdB, *]), (Below.refl _ _).alloc (Nat.le_refl _) _⟩
  · cases h2 : inB r 0 1000
    · skip
      go_enter Tryd.func59, Tryd.ntmps59
      go_wp2_with (go_at_call 58; refine (l1In_b _ _ _ _).mono ?_; rintro e w' ⟨rfl, rfl⟩)
      go_ret
      exact ⟨ret_bool (by simp [voteOkB, isIdB, *]), (Below.refl _ _).alloc (Nat.le_refl _) _⟩
    · cases h3 : inB s 1 2
      · skip
        go_enter Tryd.func59, Tryd.ntmps59
        go_wp2_with (go_at_call 58; refine (l1In_b _ _ _ _).mono ?_; rintro e w' ⟨rfl, rfl⟩)
        go_ret
        exact ⟨ret_bool (by simp [voteOkB, isIdB, *]), (Below.refl _ _).alloc (Nat.le_refl _) _⟩
      · cases id with
        | nil =>
          cases h5 : inB v 1 99 <;> skip
          all_goals skip
          · skip
            go_enter Tryd.func59, Tryd.ntmps59
            go_wp2_with (go_at_call 58; refine (l1In_b _ _ _ _).mono ?_; rintro e w' ⟨rfl, rfl⟩)
            go_ret
            exact ⟨ret_bool (by simp [voteOkB, isIdB, *]), (Below.refl _ _).alloc (Nat.le_refl _) _⟩
          · skip
            go_enter Tryd.func59, Tryd.ntmps59
            go_wp2_with (go_at_call 58; refine (l1In_b _ _ _ _).mono ?_; rintro e w' ⟨rfl, rfl⟩)
            go_ret
            exact ⟨ret_bool (by simp [voteOkB, isIdB, *]), (Below.refl _ _).alloc (Nat.le_refl _) _⟩
        | cons b t =>
          simp only [List.length_cons] at hl
          rcases Nat.lt_trichotomy t.length 7 with h8 | h8 | h8
          · skip
            go_enter Tryd.func59, Tryd.ntmps59
            go_wp2_with (go_at_call 58; refine (l1In_b _ _ _ _).mono ?_; rintro e w' ⟨rfl, rfl⟩)
            go_ret
            exact ⟨ret_bool (by simp [voteOkB, isIdB, Nat.ne_of_lt h8, *]), (Below.refl _ _).alloc (Nat.le_refl _) _⟩
          · have h8' : 7 ≤ t.length ∧ t.length ≤ 7 := by omega
            have H8 := Lib.hid h8
            clear h8
            obtain ⟨h8a, h8b⟩ := h8'
            cases h5 : inB v 1 99
            · skip
              go_enter Tryd.func59, Tryd.ntmps59
              go_wp2_with (go_at_call 58; refine (l1In_b _ _ _ _).mono ?_; rintro e w' ⟨rfl, rfl⟩)
              go_ret
              exact ⟨ret_bool (by simp [voteOkB, isIdB, H8.out, *]), (Below.refl _ _).alloc (Nat.le_refl _) _⟩
            · skip
              go_enter Tryd.func59, Tryd.ntmps59
              go_wp2_with (go_at_call 58; refine (l1In_b _ _ _ _).mono ?_; rintro e w' ⟨rfl, rfl⟩)
              go_ret
              exact ⟨ret_bool (by simp [voteOkB, isIdB, H8.out, *]), (Below.refl _ _).alloc (Nat.le_refl _) _⟩
          · skip
            go_enter Tryd.func59, Tryd.ntmps59
            go_wp2_with (go_at_call 58; refine (l1In_b _ _ _ _).mono ?_; rintro e w' ⟨rfl, rfl⟩)
            go_ret
            exact ⟨ret_bool (by simp [voteOkB, isIdB, Nat.ne_of_gt h8, *]), (Below.refl _ _).alloc (Nat.le_refl _) _⟩
theorem isHeight_b (x : Int) (w : World) :
    Calls Tryd.prog 54 #[.int .i64 x] w fun e w' => e = .returned (.bool (inB x 1 1000000)) ∧ w = w' := by
  go_enter Tryd.func54, Tryd.ntmps54
  go_wp2_with (go_at_call 55; refine (within_b _ _ _ _).mono ?_; rintro e w' ⟨rfl, rfl⟩)
  go_ret
  exact ⟨rfl, rfl⟩
theorem isVal_b (x : Int) (w : World) :
    Calls Tryd.prog 57 #[.int .i64 x] w fun e w' => e = .returned (.bool (inB x 1 99)) ∧ w = w' := by
  go_enter Tryd.func57, Tryd.ntmps57
  go_wp2_with (go_at_call 55; refine (within_b _ _ _ _).mono ?_; rintro e w' ⟨rfl, rfl⟩)
  go_ret
  exact ⟨rfl, rfl⟩
theorem isId_b (id : List UInt8) (w : World) (hl : id.length ≤ 9223372036854775807) :
    Calls Tryd.prog 56 #[.string (S id)] w fun e w' => e = .returned (.bool (isIdB id)) ∧ w = w' := by
  cases id with
  | nil =>
    go_enter Tryd.func56, Tryd.ntmps56
    go_wp2
    go_ret
    exact ⟨rfl, rfl⟩
  | cons b t =>
    simp only [List.length_cons] at hl
    rcases Nat.lt_trichotomy t.length 7 with h8 | h8 | h8
    · go_enter Tryd.func56, Tryd.ntmps56
      go_wp2
      go_ret
      exact ⟨ret_bool (by simp [isIdB]; rw [Bool.eq_iff_iff]; simp; omega), rfl⟩
    · have h8' : 7 ≤ t.length ∧ t.length ≤ 7 := by omega
      have H8 := Lib.hid h8
      clear h8
      obtain ⟨h8a, h8b⟩ := h8'
      go_enter Tryd.func56, Tryd.ntmps56
      go_wp2
      go_ret
      exact ⟨ret_bool (by simp [isIdB, H8.out]), rfl⟩
    · go_enter Tryd.func56, Tryd.ntmps56
      go_wp2
      go_ret
      exact ⟨ret_bool (by simp [isIdB]; rw [Bool.eq_iff_iff]; simp; omega), rfl⟩
end Go.Proofs.YtecimgkgdpnaeaaDoor

/-
  HeaderOk, both; isTime; toHeader, szHeader.
-/
namespace Go.Proofs.YtecimgkgdpnaeaaDoor
open Go.ChangeShapes Go.WideShapes Go.ChangeAt Go.RowKit
set_option linter.unusedVariables false
set_option maxRecDepth 100000

theorem isTime_b (x : Int) (w : World) :
    Calls Tryd.prog 87 #[.int .i64 x] w fun e w' => e = .returned (.bool (inB x 0 1000000)) ∧ w = w' := by
  go_enter Tryd.func87, Tryd.ntmps87
  go_wp2_with (go_at_call 55; refine (within_b _ _ _ _).mono ?_; rintro e w' ⟨rfl, rfl⟩)
  go_ret
  exact ⟨rfl, rfl⟩
theorem beq_nat (a : Nat) (k : Nat) : ((a : Int) == (k : Int)) = (a == k) := by rw [Bool.eq_iff_iff, beq_iff_eq, beq_iff_eq]; omega
theorem beq_nat8 (a : Nat) : ((a : Int) == 8) = (a == 8) := beq_nat a 8
theorem beq_nat0 (a : Nat) : ((a : Int) == 0) = (a == 0) := beq_nat a 0
theorem inB_one : inB 1 1 1000000 = true := rfl

theorem sHeaderOk_any (x : HeadT) (w : World) (h1 : x.last.length ≤ 9223372036854775807) (h2 : x.vals.length ≤ 9223372036854775807) (h3 : x.next.length ≤ 9223372036854775807) (h4 : x.data.length ≤ 9223372036854775807) :
    Calls Tryd.prog 18 #[x.val] w fun e w' => e = .returned (.bool (headOkB x)) ∧ Below w.heap.size w w' := by
  obtain ⟨h, t, last, vals, next, data⟩ := x
  simp only [HeadT.val] at h1 h2 h3 h4 ⊢
  have b3 := Lib.hid (beq_nat8 vals.length)
  have b4 := Lib.hid (beq_nat8 next.length)
  by_cases e1 : h = 1
  · subst e1
    have b5 := Lib.hid (beq_nat0 last.length)
    have hin := inB_one
    cases c2 : inB t 0 1000000
    · skip
      have HV : Hid (headOkB ⟨1, t, last, vals, next, data⟩ = false) := by
        unfold Hid headOkB
        simp only [if_true, inB_one, c2]
        first | rfl | simp | (simp; omega)
      go_enter Tryd.func18, Tryd.ntmps18
      go_wp2_with (go_at_call 58; refine (l1In_b _ _ _ _).mono ?_; rintro e w' ⟨rfl, rfl⟩)
      go_ret
      exact ⟨ret_bool (by rw [HV.out]; first | done | rfl | (simp; omega) | simp), (Below.refl _ _).alloc (Nat.le_refl _) _⟩
    · skip
      cases c3 : ((vals.length : Int) == 8)
      · skip
        have HV : Hid (headOkB ⟨1, t, last, vals, next, data⟩ = false) := by
          have c3' := c3
          rw [b3.out] at c3'
          unfold Hid headOkB
          simp only [if_true, inB_one, c2, c3']
          first | rfl | simp | (simp; omega)
        go_enter Tryd.func18, Tryd.ntmps18
        go_wp2_with (go_at_call 58; refine (l1In_b _ _ _ _).mono ?_; rintro e w' ⟨rfl, rfl⟩)
        go_ret
        exact ⟨ret_bool (by rw [HV.out]; first | done | rfl | (simp; omega) | simp), (Below.refl _ _).alloc (Nat.le_refl _) _⟩
      · skip
        cases c4 : ((next.length : Int) == 8)
        · skip
          have HV : Hid (headOkB ⟨1, t, last, vals, next, data⟩ = false) := by
            have c3' := c3
            rw [b3.out] at c3'
            have c4' := c4
            rw [b4.out] at c4'
            unfold Hid headOkB
            simp only [if_true, inB_one, c2, c3', c4']
            first | rfl | simp | (simp; omega)
          go_enter Tryd.func18, Tryd.ntmps18
          go_wp2_with (go_at_call 58; refine (l1In_b _ _ _ _).mono ?_; rintro e w' ⟨rfl, rfl⟩)
          go_ret
          exact ⟨ret_bool (by rw [HV.out]; first | done | rfl | (simp; omega) | simp), (Below.refl _ _).alloc (Nat.le_refl _) _⟩
        · skip
          cases c5 : ((last.length : Int) == 0)
          · skip
            have HV : Hid (headOkB ⟨1, t, last, vals, next, data⟩ = false) := by
              have c3' := c3
              rw [b3.out] at c3'
              have c4' := c4
              rw [b4.out] at c4'
              have c5' := c5
              rw [b5.out] at c5'
              unfold Hid headOkB
              simp only [if_true, inB_one, c2, c3', c4', c5']
              first | rfl | simp | (simp; omega)
            go_enter Tryd.func18, Tryd.ntmps18
            go_wp2_with (go_at_call 58; refine (l1In_b _ _ _ _).mono ?_; rintro e w' ⟨rfl, rfl⟩)
            go_ret
            exact ⟨ret_bool (by rw [HV.out]; first | done | rfl | (simp; omega) | simp), (Below.refl _ _).alloc (Nat.le_refl _) _⟩
          · skip
            by_cases c6 : data.length ≤ 20
            · skip
              have HV : Hid (headOkB ⟨1, t, last, vals, next, data⟩ = true) := by
                have c3' := c3
                rw [b3.out] at c3'
                have c4' := c4
                rw [b4.out] at c4'
                have c5' := c5
                rw [b5.out] at c5'
                unfold Hid headOkB
                simp only [if_true, inB_one, c2, c3', c4', c5', c6]
                first | rfl | simp | (simp; omega)
              go_enter Tryd.func18, Tryd.ntmps18
              go_wp2_with (go_at_call 58; refine (l1In_b _ _ _ _).mono ?_; rintro e w' ⟨rfl, rfl⟩)
              go_ret
              exact ⟨ret_bool (by rw [HV.out]; first | done | rfl | (simp; omega) | simp), (Below.refl _ _).alloc (Nat.le_refl _) _⟩
            · skip
              have HV : Hid (headOkB ⟨1, t, last, vals, next, data⟩ = false) := by
                have c3' := c3
                rw [b3.out] at c3'
                have c4' := c4
                rw [b4.out] at c4'
                have c5' := c5
                rw [b5.out] at c5'
                unfold Hid headOkB
                simp only [if_true, inB_one, c2, c3', c4', c5', c6]
                first | rfl | simp | (simp; omega)
              go_enter Tryd.func18, Tryd.ntmps18
              go_wp2_with (go_at_call 58; refine (l1In_b _ _ _ _).mono ?_; rintro e w' ⟨rfl, rfl⟩)
              go_ret
              exact ⟨ret_bool (by rw [HV.out]; first | done | rfl | (simp; omega) | simp), (Below.refl _ _).alloc (Nat.le_refl _) _⟩
  · have hne : (h == 1) = false := by simpa using e1
    have b5 := Lib.hid (beq_nat8 last.length)
    have HNE := Lib.hid e1
    clear e1
    cases c1 : inB h 1 1000000
    · skip
      have HV : Hid (headOkB ⟨h, t, last, vals, next, data⟩ = false) := by
        unfold Hid headOkB
        simp only [if_neg HNE.out, c1]
        first | rfl | simp | (simp; omega)
      go_enter Tryd.func18, Tryd.ntmps18
      go_wp2_with (go_at_call 58; refine (l1In_b _ _ _ _).mono ?_; rintro e w' ⟨rfl, rfl⟩)
      go_ret
      exact ⟨ret_bool (by rw [HV.out]; first | done | rfl | (simp; omega) | simp), (Below.refl _ _).alloc (Nat.le_refl _) _⟩
    · skip
      cases c2 : inB t 0 1000000
      · skip
        have HV : Hid (headOkB ⟨h, t, last, vals, next, data⟩ = false) := by
          unfold Hid headOkB
          simp only [if_neg HNE.out, c1, c2]
          first | rfl | simp | (simp; omega)
        go_enter Tryd.func18, Tryd.ntmps18
        go_wp2_with (go_at_call 58; refine (l1In_b _ _ _ _).mono ?_; rintro e w' ⟨rfl, rfl⟩)
        go_ret
        exact ⟨ret_bool (by rw [HV.out]; first | done | rfl | (simp; omega) | simp), (Below.refl _ _).alloc (Nat.le_refl _) _⟩
      · skip
        cases c3 : ((vals.length : Int) == 8)
        · skip
          have HV : Hid (headOkB ⟨h, t, last, vals, next, data⟩ = false) := by
            have c3' := c3
            rw [b3.out] at c3'
            unfold Hid headOkB
            simp only [if_neg HNE.out, c1, c2, c3']
            first | rfl | simp | (simp; omega)
          go_enter Tryd.func18, Tryd.ntmps18
          go_wp2_with (go_at_call 58; refine (l1In_b _ _ _ _).mono ?_; rintro e w' ⟨rfl, rfl⟩)
          go_ret
          exact ⟨ret_bool (by rw [HV.out]; first | done | rfl | (simp; omega) | simp), (Below.refl _ _).alloc (Nat.le_refl _) _⟩
        · skip
          cases c4 : ((next.length : Int) == 8)
          · skip
            have HV : Hid (headOkB ⟨h, t, last, vals, next, data⟩ = false) := by
              have c3' := c3
              rw [b3.out] at c3'
              have c4' := c4
              rw [b4.out] at c4'
              unfold Hid headOkB
              simp only [if_neg HNE.out, c1, c2, c3', c4']
              first | rfl | simp | (simp; omega)
            go_enter Tryd.func18, Tryd.ntmps18
            go_wp2_with (go_at_call 58; refine (l1In_b _ _ _ _).mono ?_; rintro e w' ⟨rfl, rfl⟩)
            go_ret
            exact ⟨ret_bool (by rw [HV.out]; first | done | rfl | (simp; omega) | simp), (Below.refl _ _).alloc (Nat.le_refl _) _⟩
          · skip
            cases c5 : ((last.length : Int) == 8)
            · skip
              have HV : Hid (headOkB ⟨h, t, last, vals, next, data⟩ = false) := by
                have c3' := c3
                rw [b3.out] at c3'
                have c4' := c4
                rw [b4.out] at c4'
                have c5' := c5
                rw [b5.out] at c5'
                unfold Hid headOkB
                simp only [if_neg HNE.out, c1, c2, c3', c4', c5']
                first | rfl | simp | (simp; omega)
              go_enter Tryd.func18, Tryd.ntmps18
              go_wp2_with (go_at_call 58; refine (l1In_b _ _ _ _).mono ?_; rintro e w' ⟨rfl, rfl⟩)
              go_ret
              exact ⟨ret_bool (by rw [HV.out]; first | done | rfl | (simp; omega) | simp), (Below.refl _ _).alloc (Nat.le_refl _) _⟩
            · skip
              by_cases c6 : data.length ≤ 20
              · skip
                have HV : Hid (headOkB ⟨h, t, last, vals, next, data⟩ = true) := by
                  have c3' := c3
                  rw [b3.out] at c3'
                  have c4' := c4
                  rw [b4.out] at c4'
                  have c5' := c5
                  rw [b5.out] at c5'
                  unfold Hid headOkB
                  simp only [if_neg HNE.out, c1, c2, c3', c4', c5', c6]
                  first | rfl | simp | (simp; omega)
                go_enter Tryd.func18, Tryd.ntmps18
                go_wp2_with (go_at_call 58; refine (l1In_b _ _ _ _).mono ?_; rintro e w' ⟨rfl, rfl⟩)
                go_ret
                exact ⟨ret_bool (by rw [HV.out]; first | done | rfl | (simp; omega) | simp), (Below.refl _ _).alloc (Nat.le_refl _) _⟩
              · skip
                have HV : Hid (headOkB ⟨h, t, last, vals, next, data⟩ = false) := by
                  have c3' := c3
                  rw [b3.out] at c3'
                  have c4' := c4
                  rw [b4.out] at c4'
                  have c5' := c5
                  rw [b5.out] at c5'
                  unfold Hid headOkB
                  simp only [if_neg HNE.out, c1, c2, c3', c4', c5', c6]
                  first | rfl | simp | (simp; omega)
                go_enter Tryd.func18, Tryd.ntmps18
                go_wp2_with (go_at_call 58; refine (l1In_b _ _ _ _).mono ?_; rintro e w' ⟨rfl, rfl⟩)
                go_ret
                exact ⟨ret_bool (by rw [HV.out]; first | done | rfl | (simp; omega) | simp), (Below.refl _ _).alloc (Nat.le_refl _) _⟩

theorem iHeaderOk_any (x : HeadT) (w : World) (h1 : x.last.length ≤ 9223372036854775807) (h2 : x.vals.length ≤ 9223372036854775807) (h3 : x.next.length ≤ 9223372036854775807) (h4 : x.data.length ≤ 9223372036854775807) :
    Calls Tryd.prog 45 #[x.val] w fun e w' => e = .returned (.bool (headOkB x)) ∧ Below w.heap.size w w' := by
  obtain ⟨h, t, last, vals, next, data⟩ := x
  simp only [HeadT.val] at h1 h2 h3 h4 ⊢
  have b3 := Lib.hid (beq_nat8 vals.length)
  have b4 := Lib.hid (beq_nat8 next.length)
  by_cases e1 : h = 1
  · subst e1
    have b5 := Lib.hid (beq_nat0 last.length)
    have hin := inB_one
    cases c2 : inB t 0 1000000
    · skip
      have HV : Hid (headOkB ⟨1, t, last, vals, next, data⟩ = false) := by
        unfold Hid headOkB
        simp only [if_true, inB_one, c2]
        first | rfl | simp | (simp; omega)
      go_enter Tryd.func45, Tryd.ntmps45
      go_wp2_with (first | (go_at_call 54; refine (isHeight_b _ _).mono ?_; rintro e w' ⟨rfl, rfl⟩) | (go_at_call 87; refine (isTime_b _ _).mono ?_; rintro e w' ⟨rfl, rfl⟩))
      go_ret
      exact ⟨ret_bool (by rw [HV.out]; first | done | rfl | (simp; omega) | simp), (Below.refl _ _).alloc (Nat.le_refl _) _⟩
    · skip
      cases c3 : ((vals.length : Int) == 8)
      · skip
        have HV : Hid (headOkB ⟨1, t, last, vals, next, data⟩ = false) := by
          have c3' := c3
          rw [b3.out] at c3'
          unfold Hid headOkB
          simp only [if_true, inB_one, c2, c3']
          first | rfl | simp | (simp; omega)
        go_enter Tryd.func45, Tryd.ntmps45
        go_wp2_with (first | (go_at_call 54; refine (isHeight_b _ _).mono ?_; rintro e w' ⟨rfl, rfl⟩) | (go_at_call 87; refine (isTime_b _ _).mono ?_; rintro e w' ⟨rfl, rfl⟩))
        go_ret
        exact ⟨ret_bool (by rw [HV.out]; first | done | rfl | (simp; omega) | simp), (Below.refl _ _).alloc (Nat.le_refl _) _⟩
      · skip
        cases c4 : ((next.length : Int) == 8)
        · skip
          have HV : Hid (headOkB ⟨1, t, last, vals, next, data⟩ = false) := by
            have c3' := c3
            rw [b3.out] at c3'
            have c4' := c4
            rw [b4.out] at c4'
            unfold Hid headOkB
            simp only [if_true, inB_one, c2, c3', c4']
            first | rfl | simp | (simp; omega)
          go_enter Tryd.func45, Tryd.ntmps45
          go_wp2_with (first | (go_at_call 54; refine (isHeight_b _ _).mono ?_; rintro e w' ⟨rfl, rfl⟩) | (go_at_call 87; refine (isTime_b _ _).mono ?_; rintro e w' ⟨rfl, rfl⟩))
          go_ret
          exact ⟨ret_bool (by rw [HV.out]; first | done | rfl | (simp; omega) | simp), (Below.refl _ _).alloc (Nat.le_refl _) _⟩
        · skip
          cases c5 : ((last.length : Int) == 0)
          · skip
            have HV : Hid (headOkB ⟨1, t, last, vals, next, data⟩ = false) := by
              have c3' := c3
              rw [b3.out] at c3'
              have c4' := c4
              rw [b4.out] at c4'
              have c5' := c5
              rw [b5.out] at c5'
              unfold Hid headOkB
              simp only [if_true, inB_one, c2, c3', c4', c5']
              first | rfl | simp | (simp; omega)
            go_enter Tryd.func45, Tryd.ntmps45
            go_wp2_with (first | (go_at_call 54; refine (isHeight_b _ _).mono ?_; rintro e w' ⟨rfl, rfl⟩) | (go_at_call 87; refine (isTime_b _ _).mono ?_; rintro e w' ⟨rfl, rfl⟩))
            go_ret
            exact ⟨ret_bool (by rw [HV.out]; first | done | rfl | (simp; omega) | simp), (Below.refl _ _).alloc (Nat.le_refl _) _⟩
          · skip
            by_cases c6 : data.length ≤ 20
            · skip
              have HV : Hid (headOkB ⟨1, t, last, vals, next, data⟩ = true) := by
                have c3' := c3
                rw [b3.out] at c3'
                have c4' := c4
                rw [b4.out] at c4'
                have c5' := c5
                rw [b5.out] at c5'
                unfold Hid headOkB
                simp only [if_true, inB_one, c2, c3', c4', c5', c6]
                first | rfl | simp | (simp; omega)
              go_enter Tryd.func45, Tryd.ntmps45
              go_wp2_with (first | (go_at_call 54; refine (isHeight_b _ _).mono ?_; rintro e w' ⟨rfl, rfl⟩) | (go_at_call 87; refine (isTime_b _ _).mono ?_; rintro e w' ⟨rfl, rfl⟩))
              go_ret
              exact ⟨ret_bool (by rw [HV.out]; first | done | rfl | (simp; omega) | simp), (Below.refl _ _).alloc (Nat.le_refl _) _⟩
            · skip
              have HV : Hid (headOkB ⟨1, t, last, vals, next, data⟩ = false) := by
                have c3' := c3
                rw [b3.out] at c3'
                have c4' := c4
                rw [b4.out] at c4'
                have c5' := c5
                rw [b5.out] at c5'
                unfold Hid headOkB
                simp only [if_true, inB_one, c2, c3', c4', c5', c6]
                first | rfl | simp | (simp; omega)
              go_enter Tryd.func45, Tryd.ntmps45
              go_wp2_with (first | (go_at_call 54; refine (isHeight_b _ _).mono ?_; rintro e w' ⟨rfl, rfl⟩) | (go_at_call 87; refine (isTime_b _ _).mono ?_; rintro e w' ⟨rfl, rfl⟩))
              go_ret
              exact ⟨ret_bool (by rw [HV.out]; first | done | rfl | (simp; omega) | simp), (Below.refl _ _).alloc (Nat.le_refl _) _⟩
  · have hne : (h == 1) = false := by simpa using e1
    have b5 := Lib.hid (beq_nat8 last.length)
    have HNE := Lib.hid e1
    clear e1
    cases c1 : inB h 1 1000000
    · skip
      have HV : Hid (headOkB ⟨h, t, last, vals, next, data⟩ = false) := by
        unfold Hid headOkB
        simp only [if_neg HNE.out, c1]
        first | rfl | simp | (simp; omega)
      go_enter Tryd.func45, Tryd.ntmps45
      go_wp2_with (first | (go_at_call 54; refine (isHeight_b _ _).mono ?_; rintro e w' ⟨rfl, rfl⟩) | (go_at_call 87; refine (isTime_b _ _).mono ?_; rintro e w' ⟨rfl, rfl⟩))
      go_ret
      exact ⟨ret_bool (by rw [HV.out]; first | done | rfl | (simp; omega) | simp), (Below.refl _ _).alloc (Nat.le_refl _) _⟩
    · skip
      cases c2 : inB t 0 1000000
      · skip
        have HV : Hid (headOkB ⟨h, t, last, vals, next, data⟩ = false) := by
          unfold Hid headOkB
          simp only [if_neg HNE.out, c1, c2]
          first | rfl | simp | (simp; omega)
        go_enter Tryd.func45, Tryd.ntmps45
        go_wp2_with (first | (go_at_call 54; refine (isHeight_b _ _).mono ?_; rintro e w' ⟨rfl, rfl⟩) | (go_at_call 87; refine (isTime_b _ _).mono ?_; rintro e w' ⟨rfl, rfl⟩))
        go_ret
        exact ⟨ret_bool (by rw [HV.out]; first | done | rfl | (simp; omega) | simp), (Below.refl _ _).alloc (Nat.le_refl _) _⟩
      · skip
        cases c3 : ((vals.length : Int) == 8)
        · skip
          have HV : Hid (headOkB ⟨h, t, last, vals, next, data⟩ = false) := by
            have c3' := c3
            rw [b3.out] at c3'
            unfold Hid headOkB
            simp only [if_neg HNE.out, c1, c2, c3']
            first | rfl | simp | (simp; omega)
          go_enter Tryd.func45, Tryd.ntmps45
          go_wp2_with (first | (go_at_call 54; refine (isHeight_b _ _).mono ?_; rintro e w' ⟨rfl, rfl⟩) | (go_at_call 87; refine (isTime_b _ _).mono ?_; rintro e w' ⟨rfl, rfl⟩))
          go_ret
          exact ⟨ret_bool (by rw [HV.out]; first | done | rfl | (simp; omega) | simp), (Below.refl _ _).alloc (Nat.le_refl _) _⟩
        · skip
          cases c4 : ((next.length : Int) == 8)
          · skip
            have HV : Hid (headOkB ⟨h, t, last, vals, next, data⟩ = false) := by
              have c3' := c3
              rw [b3.out] at c3'
              have c4' := c4
              rw [b4.out] at c4'
              unfold Hid headOkB
              simp only [if_neg HNE.out, c1, c2, c3', c4']
              first | rfl | simp | (simp; omega)
            go_enter Tryd.func45, Tryd.ntmps45
            go_wp2_with (first | (go_at_call 54; refine (isHeight_b _ _).mono ?_; rintro e w' ⟨rfl, rfl⟩) | (go_at_call 87; refine (isTime_b _ _).mono ?_; rintro e w' ⟨rfl, rfl⟩))
            go_ret
            exact ⟨ret_bool (by rw [HV.out]; first | done | rfl | (simp; omega) | simp), (Below.refl _ _).alloc (Nat.le_refl _) _⟩
          · skip
            cases c5 : ((last.length : Int) == 8)
            · skip
              have HV : Hid (headOkB ⟨h, t, last, vals, next, data⟩ = false) := by
                have c3' := c3
                rw [b3.out] at c3'
                have c4' := c4
                rw [b4.out] at c4'
                have c5' := c5
                rw [b5.out] at c5'
                unfold Hid headOkB
                simp only [if_neg HNE.out, c1, c2, c3', c4', c5']
                first | rfl | simp | (simp; omega)
              go_enter Tryd.func45, Tryd.ntmps45
              go_wp2_with (first | (go_at_call 54; refine (isHeight_b _ _).mono ?_; rintro e w' ⟨rfl, rfl⟩) | (go_at_call 87; refine (isTime_b _ _).mono ?_; rintro e w' ⟨rfl, rfl⟩))
              go_ret
              exact ⟨ret_bool (by rw [HV.out]; first | done | rfl | (simp; omega) | simp), (Below.refl _ _).alloc (Nat.le_refl _) _⟩
            · skip
              by_cases c6 : data.length ≤ 20
              · skip
                have HV : Hid (headOkB ⟨h, t, last, vals, next, data⟩ = true) := by
                  have c3' := c3
                  rw [b3.out] at c3'
                  have c4' := c4
                  rw [b4.out] at c4'
                  have c5' := c5
                  rw [b5.out] at c5'
                  unfold Hid headOkB
                  simp only [if_neg HNE.out, c1, c2, c3', c4', c5', c6]
                  first | rfl | simp | (simp; omega)
                go_enter Tryd.func45, Tryd.ntmps45
                go_wp2_with (first | (go_at_call 54; refine (isHeight_b _ _).mono ?_; rintro e w' ⟨rfl, rfl⟩) | (go_at_call 87; refine (isTime_b _ _).mono ?_; rintro e w' ⟨rfl, rfl⟩))
                go_ret
                exact ⟨ret_bool (by rw [HV.out]; first | done | rfl | (simp; omega) | simp), (Below.refl _ _).alloc (Nat.le_refl _) _⟩
              · skip
                have HV : Hid (headOkB ⟨h, t, last, vals, next, data⟩ = false) := by
                  have c3' := c3
                  rw [b3.out] at c3'
                  have c4' := c4
                  rw [b4.out] at c4'
                  have c5' := c5
                  rw [b5.out] at c5'
                  unfold Hid headOkB
                  simp only [if_neg HNE.out, c1, c2, c3', c4', c5', c6]
                  first | rfl | simp | (simp; omega)
                go_enter Tryd.func45, Tryd.ntmps45
                go_wp2_with (first | (go_at_call 54; refine (isHeight_b _ _).mono ?_; rintro e w' ⟨rfl, rfl⟩) | (go_at_call 87; refine (isTime_b _ _).mono ?_; rintro e w' ⟨rfl, rfl⟩))
                go_ret
                exact ⟨ret_bool (by rw [HV.out]; first | done | rfl | (simp; omega) | simp), (Below.refl _ _).alloc (Nat.le_refl _) _⟩
end Go.Proofs.YtecimgkgdpnaeaaDoor

/-
  VoteOk of the program.
-/
namespace Go.Proofs.YtecimgkgdpnaeaaDoor
open Go.ChangeShapes Go.WideShapes Go.ChangeAt Go.RowKit
set_option linter.unusedVariables false
set_option linter.unusedSimpArgs false
set_option maxRecDepth 100000

theorem iVoteOk_any (x : VoteT) (w : World) (hl : x.id.length ≤ 9223372036854775807) :
    Calls Tryd.prog 98 #[x.val] w fun e w' => e = .returned (.bool (voteOkB x)) ∧ Below w.heap.size w w' := by
  obtain ⟨h, r, s, id, v⟩ := x
  simp only [VoteT.val] at hl ⊢
  cases h1 : inB h 1 1000000
  · skip
    go_enter Tryd.func98, Tryd.ntmps98
    go_wp2_with (first
      | (go_at_call 55; refine (within_b _ _ _ _).mono ?_; rintro e w' ⟨rfl, rfl⟩)
      | (go_at_call 54; refine (isHeight_b _ _).mono ?_; rintro e w' ⟨rfl, rfl⟩)
      | (go_at_call 57; refine (isVal_b _ _).mono ?_; rintro e w' ⟨rfl, rfl⟩)
      | (go_at_call 56; refine (isId_b _ _ (by simpa using hl)).mono ?_; rintro e w' ⟨rfl, rfl⟩))
    go_ret
    exact ⟨ret_bool (by simp [voteOkB, isIdB, *]), (Below.refl _ _).alloc (Nat.le_refl _) _⟩
  · cases h2 : inB r 0 1000
    · skip
      go_enter Tryd.func98, Tryd.ntmps98
      go_wp2_with (first
        | (go_at_call 55; refine (within_b _ _ _ _).mono ?_; rintro e w' ⟨rfl, rfl⟩)
        | (go_at_call 54; refine (isHeight_b _ _).mono ?_; rintro e w' ⟨rfl, rfl⟩)
        | (go_at_call 57; refine (isVal_b _ _).mono ?_; rintro e w' ⟨rfl, rfl⟩)
        | (go_at_call 56; refine (isId_b _ _ (by simpa using hl)).mono ?_; rintro e w' ⟨rfl, rfl⟩))
      go_ret
      exact ⟨ret_bool (by simp [voteOkB, isIdB, *]), (Below.refl _ _).alloc (Nat.le_refl _) _⟩
    · cases h3 : inB s 1 2
      · skip
        go_enter Tryd.func98, Tryd.ntmps98
        go_wp2_with (first
          | (go_at_call 55; refine (within_b _ _ _ _).mono ?_; rintro e w' ⟨rfl, rfl⟩)
          | (go_at_call 54; refine (isHeight_b _ _).mono ?_; rintro e w' ⟨rfl, rfl⟩)
          | (go_at_call 57; refine (isVal_b _ _).mono ?_; rintro e w' ⟨rfl, rfl⟩)
          | (go_at_call 56; refine (isId_b _ _ (by simpa using hl)).mono ?_; rintro e w' ⟨rfl, rfl⟩))
        go_ret
        exact ⟨ret_bool (by simp [voteOkB, isIdB, *]), (Below.refl _ _).alloc (Nat.le_refl _) _⟩
      · cases h4 : isIdB id
        · skip
          go_enter Tryd.func98, Tryd.ntmps98
          go_wp2_with (first
            | (go_at_call 55; refine (within_b _ _ _ _).mono ?_; rintro e w' ⟨rfl, rfl⟩)
            | (go_at_call 54; refine (isHeight_b _ _).mono ?_; rintro e w' ⟨rfl, rfl⟩)
            | (go_at_call 57; refine (isVal_b _ _).mono ?_; rintro e w' ⟨rfl, rfl⟩)
            | (go_at_call 56; refine (isId_b _ _ (by simpa using hl)).mono ?_; rintro e w' ⟨rfl, rfl⟩))
          go_ret
          exact ⟨ret_bool (by simp [voteOkB, *]), (Below.refl _ _).alloc (Nat.le_refl _) _⟩
        · cases h5 : inB v 1 99
          · skip
            go_enter Tryd.func98, Tryd.ntmps98
            go_wp2_with (first
              | (go_at_call 55; refine (within_b _ _ _ _).mono ?_; rintro e w' ⟨rfl, rfl⟩)
              | (go_at_call 54; refine (isHeight_b _ _).mono ?_; rintro e w' ⟨rfl, rfl⟩)
              | (go_at_call 57; refine (isVal_b _ _).mono ?_; rintro e w' ⟨rfl, rfl⟩)
              | (go_at_call 56; refine (isId_b _ _ (by simpa using hl)).mono ?_; rintro e w' ⟨rfl, rfl⟩))
            go_ret
            exact ⟨ret_bool (by simp [voteOkB, *]), (Below.refl _ _).alloc (Nat.le_refl _) _⟩
          · skip
            go_enter Tryd.func98, Tryd.ntmps98
            go_wp2_with (first
              | (go_at_call 55; refine (within_b _ _ _ _).mono ?_; rintro e w' ⟨rfl, rfl⟩)
              | (go_at_call 54; refine (isHeight_b _ _).mono ?_; rintro e w' ⟨rfl, rfl⟩)
              | (go_at_call 57; refine (isVal_b _ _).mono ?_; rintro e w' ⟨rfl, rfl⟩)
              | (go_at_call 56; refine (isId_b _ _ (by simpa using hl)).mono ?_; rintro e w' ⟨rfl, rfl⟩))
            go_ret
            exact ⟨ret_bool (by simp [voteOkB, *]), (Below.refl _ _).alloc (Nat.le_refl _) _⟩
end Go.Proofs.YtecimgkgdpnaeaaDoor
