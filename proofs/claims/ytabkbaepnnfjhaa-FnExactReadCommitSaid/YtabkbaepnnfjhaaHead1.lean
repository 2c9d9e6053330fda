/-
  HeaderOk, both; isTime; toHeader, szHeader.
-/
import Derived.Test.YtabkbaepnnfjhaaVote1
namespace Go.Proofs.Ytabkbaepnnfjhaa
open Go.ChangeShapes Go.WideShapes Go.ChangeAt Go.RowKit
set_option linter.unusedVariables false
set_option maxRecDepth 100000

theorem isTime_b (x : Int) (w : World) :
    Calls Try.prog 96 #[.int .i64 x] w fun e w' => e = .returned (.bool (inB x 0 1000000)) ∧ w = w' := by
  go_enter Try.func96, Try.ntmps96
  go_wp2_with (go_at_call 63; refine (within_b _ _ _ _).mono ?_; rintro e w' ⟨rfl, rfl⟩)
  go_ret
  exact ⟨rfl, rfl⟩
theorem beq_nat (a : Nat) (k : Nat) : ((a : Int) == (k : Int)) = (a == k) := by rw [Bool.eq_iff_iff, beq_iff_eq, beq_iff_eq]; omega
theorem beq_nat8 (a : Nat) : ((a : Int) == 8) = (a == 8) := beq_nat a 8
theorem beq_nat0 (a : Nat) : ((a : Int) == 0) = (a == 0) := beq_nat a 0
theorem inB_one : inB 1 1 1000000 = true := rfl

theorem sHeaderOk_any (x : HeadT) (w : World) (h1 : x.last.length ≤ 9223372036854775807) (h2 : x.vals.length ≤ 9223372036854775807) (h3 : x.next.length ≤ 9223372036854775807) (h4 : x.data.length ≤ 9223372036854775807) :
    Calls Try.prog 91 #[x.val] w fun e w' => e = .returned (.bool (headOkB x)) ∧ Below w.heap.size w w' := by
  obtain ⟨h, t, last, vals, next, data⟩ := x
  simp only [HeadT.val] at h1 h2 h3 h4 ⊢
  have b3 := Lib.hid (beq_nat8 vals.length)
  have b4 := Lib.hid (beq_nat8 next.length)
  by_cases e1 : h = 1
  · subst e1
    have b5 := Lib.hid (beq_nat0 last.length)
    have hin := inB_one
    cases c2 : inB t 0 1000000
    · skip
      have HV : Hid (headOkB ⟨1, t, last, vals, next, data⟩ = false) := by
        unfold Hid headOkB
        simp only [if_true, inB_one, c2]
        first | rfl | simp | (simp; omega)
      go_enter Try.func91, Try.ntmps91
      go_wp2_with (go_at_call 60; refine (l1In_b _ _ _ _).mono ?_; rintro e w' ⟨rfl, rfl⟩)
      go_ret
      exact ⟨ret_bool (by rw [HV.out]; first | done | rfl | (simp; omega) | simp), (Below.refl _ _).alloc (Nat.le_refl _) _⟩
    · skip
      cases c3 : ((vals.length : Int) == 8)
      · skip
        have HV : Hid (headOkB ⟨1, t, last, vals, next, data⟩ = false) := by
          have c3' := c3
          rw [b3.out] at c3'
          unfold Hid headOkB
          simp only [if_true, inB_one, c2, c3']
          first | rfl | simp | (simp; omega)
        go_enter Try.func91, Try.ntmps91
        go_wp2_with (go_at_call 60; refine (l1In_b _ _ _ _).mono ?_; rintro e w' ⟨rfl, rfl⟩)
        go_ret
        exact ⟨ret_bool (by rw [HV.out]; first | done | rfl | (simp; omega) | simp), (Below.refl _ _).alloc (Nat.le_refl _) _⟩
      · skip
        cases c4 : ((next.length : Int) == 8)
        · skip
          have HV : Hid (headOkB ⟨1, t, last, vals, next, data⟩ = false) := by
            have c3' := c3
            rw [b3.out] at c3'
            have c4' := c4
            rw [b4.out] at c4'
            unfold Hid headOkB
            simp only [if_true, inB_one, c2, c3', c4']
            first | rfl | simp | (simp; omega)
          go_enter Try.func91, Try.ntmps91
          go_wp2_with (go_at_call 60; refine (l1In_b _ _ _ _).mono ?_; rintro e w' ⟨rfl, rfl⟩)
          go_ret
          exact ⟨ret_bool (by rw [HV.out]; first | done | rfl | (simp; omega) | simp), (Below.refl _ _).alloc (Nat.le_refl _) _⟩
        · skip
          cases c5 : ((last.length : Int) == 0)
          · skip
            have HV : Hid (headOkB ⟨1, t, last, vals, next, data⟩ = false) := by
              have c3' := c3
              rw [b3.out] at c3'
              have c4' := c4
              rw [b4.out] at c4'
              have c5' := c5
              rw [b5.out] at c5'
              unfold Hid headOkB
              simp only [if_true, inB_one, c2, c3', c4', c5']
              first | rfl | simp | (simp; omega)
            go_enter Try.func91, Try.ntmps91
            go_wp2_with (go_at_call 60; refine (l1In_b _ _ _ _).mono ?_; rintro e w' ⟨rfl, rfl⟩)
            go_ret
            exact ⟨ret_bool (by rw [HV.out]; first | done | rfl | (simp; omega) | simp), (Below.refl _ _).alloc (Nat.le_refl _) _⟩
          · skip
            by_cases c6 : data.length ≤ 20
            · skip
              have HV : Hid (headOkB ⟨1, t, last, vals, next, data⟩ = true) := by
                have c3' := c3
                rw [b3.out] at c3'
                have c4' := c4
                rw [b4.out] at c4'
                have c5' := c5
                rw [b5.out] at c5'
                unfold Hid headOkB
                simp only [if_true, inB_one, c2, c3', c4', c5', c6]
                first | rfl | simp | (simp; omega)
              go_enter Try.func91, Try.ntmps91
              go_wp2_with (go_at_call 60; refine (l1In_b _ _ _ _).mono ?_; rintro e w' ⟨rfl, rfl⟩)
              go_ret
              exact ⟨ret_bool (by rw [HV.out]; first | done | rfl | (simp; omega) | simp), (Below.refl _ _).alloc (Nat.le_refl _) _⟩
            · skip
              have HV : Hid (headOkB ⟨1, t, last, vals, next, data⟩ = false) := by
                have c3' := c3
                rw [b3.out] at c3'
                have c4' := c4
                rw [b4.out] at c4'
                have c5' := c5
                rw [b5.out] at c5'
                unfold Hid headOkB
                simp only [if_true, inB_one, c2, c3', c4', c5', c6]
                first | rfl | simp | (simp; omega)
              go_enter Try.func91, Try.ntmps91
              go_wp2_with (go_at_call 60; refine (l1In_b _ _ _ _).mono ?_; rintro e w' ⟨rfl, rfl⟩)
              go_ret
              exact ⟨ret_bool (by rw [HV.out]; first | done | rfl | (simp; omega) | simp), (Below.refl _ _).alloc (Nat.le_refl _) _⟩
  · have hne : (h == 1) = false := by simpa using e1
    have b5 := Lib.hid (beq_nat8 last.length)
    have HNE := Lib.hid e1
    clear e1
    cases c1 : inB h 1 1000000
    · skip
      have HV : Hid (headOkB ⟨h, t, last, vals, next, data⟩ = false) := by
        unfold Hid headOkB
        simp only [if_neg HNE.out, c1]
        first | rfl | simp | (simp; omega)
      go_enter Try.func91, Try.ntmps91
      go_wp2_with (go_at_call 60; refine (l1In_b _ _ _ _).mono ?_; rintro e w' ⟨rfl, rfl⟩)
      go_ret
      exact ⟨ret_bool (by rw [HV.out]; first | done | rfl | (simp; omega) | simp), (Below.refl _ _).alloc (Nat.le_refl _) _⟩
    · skip
      cases c2 : inB t 0 1000000
      · skip
        have HV : Hid (headOkB ⟨h, t, last, vals, next, data⟩ = false) := by
          unfold Hid headOkB
          simp only [if_neg HNE.out, c1, c2]
          first | rfl | simp | (simp; omega)
        go_enter Try.func91, Try.ntmps91
        go_wp2_with (go_at_call 60; refine (l1In_b _ _ _ _).mono ?_; rintro e w' ⟨rfl, rfl⟩)
        go_ret
        exact ⟨ret_bool (by rw [HV.out]; first | done | rfl | (simp; omega) | simp), (Below.refl _ _).alloc (Nat.le_refl _) _⟩
      · skip
        cases c3 : ((vals.length : Int) == 8)
        · skip
          have HV : Hid (headOkB ⟨h, t, last, vals, next, data⟩ = false) := by
            have c3' := c3
            rw [b3.out] at c3'
            unfold Hid headOkB
            simp only [if_neg HNE.out, c1, c2, c3']
            first | rfl | simp | (simp; omega)
          go_enter Try.func91, Try.ntmps91
          go_wp2_with (go_at_call 60; refine (l1In_b _ _ _ _).mono ?_; rintro e w' ⟨rfl, rfl⟩)
          go_ret
          exact ⟨ret_bool (by rw [HV.out]; first | done | rfl | (simp; omega) | simp), (Below.refl _ _).alloc (Nat.le_refl _) _⟩
        · skip
          cases c4 : ((next.length : Int) == 8)
          · skip
            have HV : Hid (headOkB ⟨h, t, last, vals, next, data⟩ = false) := by
              have c3' := c3
              rw [b3.out] at c3'
              have c4' := c4
              rw [b4.out] at c4'
              unfold Hid headOkB
              simp only [if_neg HNE.out, c1, c2, c3', c4']
              first | rfl | simp | (simp; omega)
            go_enter Try.func91, Try.ntmps91
            go_wp2_with (go_at_call 60; refine (l1In_b _ _ _ _).mono ?_; rintro e w' ⟨rfl, rfl⟩)
            go_ret
            exact ⟨ret_bool (by rw [HV.out]; first | done | rfl | (simp; omega) | simp), (Below.refl _ _).alloc (Nat.le_refl _) _⟩
          · skip
            cases c5 : ((last.length : Int) == 8)
            · skip
              have HV : Hid (headOkB ⟨h, t, last, vals, next, data⟩ = false) := by
                have c3' := c3
                rw [b3.out] at c3'
                have c4' := c4
                rw [b4.out] at c4'
                have c5' := c5
                rw [b5.out] at c5'
                unfold Hid headOkB
                simp only [if_neg HNE.out, c1, c2, c3', c4', c5']
                first | rfl | simp | (simp; omega)
              go_enter Try.func91, Try.ntmps91
              go_wp2_with (go_at_call 60; refine (l1In_b _ _ _ _).mono ?_; rintro e w' ⟨rfl, rfl⟩)
              go_ret
              exact ⟨ret_bool (by rw [HV.out]; first | done | rfl | (simp; omega) | simp), (Below.refl _ _).alloc (Nat.le_refl _) _⟩
            · skip
              by_cases c6 : data.length ≤ 20
              · skip
                have HV : Hid (headOkB ⟨h, t, last, vals, next, data⟩ = true) := by
                  have c3' := c3
                  rw [b3.out] at c3'
                  have c4' := c4
                  rw [b4.out] at c4'
                  have c5' := c5
                  rw [b5.out] at c5'
                  unfold Hid headOkB
                  simp only [if_neg HNE.out, c1, c2, c3', c4', c5', c6]
                  first | rfl | simp | (simp; omega)
                go_enter Try.func91, Try.ntmps91
                go_wp2_with (go_at_call 60; refine (l1In_b _ _ _ _).mono ?_; rintro e w' ⟨rfl, rfl⟩)
                go_ret
                exact ⟨ret_bool (by rw [HV.out]; first | done | rfl | (simp; omega) | simp), (Below.refl _ _).alloc (Nat.le_refl _) _⟩
              · skip
                have HV : Hid (headOkB ⟨h, t, last, vals, next, data⟩ = false) := by
                  have c3' := c3
                  rw [b3.out] at c3'
                  have c4' := c4
                  rw [b4.out] at c4'
                  have c5' := c5
                  rw [b5.out] at c5'
                  unfold Hid headOkB
                  simp only [if_neg HNE.out, c1, c2, c3', c4', c5', c6]
                  first | rfl | simp | (simp; omega)
                go_enter Try.func91, Try.ntmps91
                go_wp2_with (go_at_call 60; refine (l1In_b _ _ _ _).mono ?_; rintro e w' ⟨rfl, rfl⟩)
                go_ret
                exact ⟨ret_bool (by rw [HV.out]; first | done | rfl | (simp; omega) | simp), (Below.refl _ _).alloc (Nat.le_refl _) _⟩

theorem iHeaderOk_any (x : HeadT) (w : World) (h1 : x.last.length ≤ 9223372036854775807) (h2 : x.vals.length ≤ 9223372036854775807) (h3 : x.next.length ≤ 9223372036854775807) (h4 : x.data.length ≤ 9223372036854775807) :
    Calls Try.prog 93 #[x.val] w fun e w' => e = .returned (.bool (headOkB x)) ∧ Below w.heap.size w w' := by
  obtain ⟨h, t, last, vals, next, data⟩ := x
  simp only [HeadT.val] at h1 h2 h3 h4 ⊢
  have b3 := Lib.hid (beq_nat8 vals.length)
  have b4 := Lib.hid (beq_nat8 next.length)
  by_cases e1 : h = 1
  · subst e1
    have b5 := Lib.hid (beq_nat0 last.length)
    have hin := inB_one
    cases c2 : inB t 0 1000000
    · skip
      have HV : Hid (headOkB ⟨1, t, last, vals, next, data⟩ = false) := by
        unfold Hid headOkB
        simp only [if_true, inB_one, c2]
        first | rfl | simp | (simp; omega)
      go_enter Try.func93, Try.ntmps93
      go_wp2_with (first | (go_at_call 62; refine (isHeight_b _ _).mono ?_; rintro e w' ⟨rfl, rfl⟩) | (go_at_call 96; refine (isTime_b _ _).mono ?_; rintro e w' ⟨rfl, rfl⟩))
      go_ret
      exact ⟨ret_bool (by rw [HV.out]; first | done | rfl | (simp; omega) | simp), (Below.refl _ _).alloc (Nat.le_refl _) _⟩
    · skip
      cases c3 : ((vals.length : Int) == 8)
      · skip
        have HV : Hid (headOkB ⟨1, t, last, vals, next, data⟩ = false) := by
          have c3' := c3
          rw [b3.out] at c3'
          unfold Hid headOkB
          simp only [if_true, inB_one, c2, c3']
          first | rfl | simp | (simp; omega)
        go_enter Try.func93, Try.ntmps93
        go_wp2_with (first | (go_at_call 62; refine (isHeight_b _ _).mono ?_; rintro e w' ⟨rfl, rfl⟩) | (go_at_call 96; refine (isTime_b _ _).mono ?_; rintro e w' ⟨rfl, rfl⟩))
        go_ret
        exact ⟨ret_bool (by rw [HV.out]; first | done | rfl | (simp; omega) | simp), (Below.refl _ _).alloc (Nat.le_refl _) _⟩
      · skip
        cases c4 : ((next.length : Int) == 8)
        · skip
          have HV : Hid (headOkB ⟨1, t, last, vals, next, data⟩ = false) := by
            have c3' := c3
            rw [b3.out] at c3'
            have c4' := c4
            rw [b4.out] at c4'
            unfold Hid headOkB
            simp only [if_true, inB_one, c2, c3', c4']
            first | rfl | simp | (simp; omega)
          go_enter Try.func93, Try.ntmps93
          go_wp2_with (first | (go_at_call 62; refine (isHeight_b _ _).mono ?_; rintro e w' ⟨rfl, rfl⟩) | (go_at_call 96; refine (isTime_b _ _).mono ?_; rintro e w' ⟨rfl, rfl⟩))
          go_ret
          exact ⟨ret_bool (by rw [HV.out]; first | done | rfl | (simp; omega) | simp), (Below.refl _ _).alloc (Nat.le_refl _) _⟩
        · skip
          cases c5 : ((last.length : Int) == 0)
          · skip
            have HV : Hid (headOkB ⟨1, t, last, vals, next, data⟩ = false) := by
              have c3' := c3
              rw [b3.out] at c3'
              have c4' := c4
              rw [b4.out] at c4'
              have c5' := c5
              rw [b5.out] at c5'
              unfold Hid headOkB
              simp only [if_true, inB_one, c2, c3', c4', c5']
              first | rfl | simp | (simp; omega)
            go_enter Try.func93, Try.ntmps93
            go_wp2_with (first | (go_at_call 62; refine (isHeight_b _ _).mono ?_; rintro e w' ⟨rfl, rfl⟩) | (go_at_call 96; refine (isTime_b _ _).mono ?_; rintro e w' ⟨rfl, rfl⟩))
            go_ret
            exact ⟨ret_bool (by rw [HV.out]; first | done | rfl | (simp; omega) | simp), (Below.refl _ _).alloc (Nat.le_refl _) _⟩
          · skip
            by_cases c6 : data.length ≤ 20
            · skip
              have HV : Hid (headOkB ⟨1, t, last, vals, next, data⟩ = true) := by
                have c3' := c3
                rw [b3.out] at c3'
                have c4' := c4
                rw [b4.out] at c4'
                have c5' := c5
                rw [b5.out] at c5'
                unfold Hid headOkB
                simp only [if_true, inB_one, c2, c3', c4', c5', c6]
                first | rfl | simp | (simp; omega)
              go_enter Try.func93, Try.ntmps93
              go_wp2_with (first | (go_at_call 62; refine (isHeight_b _ _).mono ?_; rintro e w' ⟨rfl, rfl⟩) | (go_at_call 96; refine (isTime_b _ _).mono ?_; rintro e w' ⟨rfl, rfl⟩))
              go_ret
              exact ⟨ret_bool (by rw [HV.out]; first | done | rfl | (simp; omega) | simp), (Below.refl _ _).alloc (Nat.le_refl _) _⟩
            · skip
              have HV : Hid (headOkB ⟨1, t, last, vals, next, data⟩ = false) := by
                have c3' := c3
                rw [b3.out] at c3'
                have c4' := c4
                rw [b4.out] at c4'
                have c5' := c5
                rw [b5.out] at c5'
                unfold Hid headOkB
                simp only [if_true, inB_one, c2, c3', c4', c5', c6]
                first | rfl | simp | (simp; omega)
              go_enter Try.func93, Try.ntmps93
              go_wp2_with (first | (go_at_call 62; refine (isHeight_b _ _).mono ?_; rintro e w' ⟨rfl, rfl⟩) | (go_at_call 96; refine (isTime_b _ _).mono ?_; rintro e w' ⟨rfl, rfl⟩))
              go_ret
              exact ⟨ret_bool (by rw [HV.out]; first | done | rfl | (simp; omega) | simp), (Below.refl _ _).alloc (Nat.le_refl _) _⟩
  · have hne : (h == 1) = false := by simpa using e1
    have b5 := Lib.hid (beq_nat8 last.length)
    have HNE := Lib.hid e1
    clear e1
    cases c1 : inB h 1 1000000
    · skip
      have HV : Hid (headOkB ⟨h, t, last, vals, next, data⟩ = false) := by
        unfold Hid headOkB
        simp only [if_neg HNE.out, c1]
        first | rfl | simp | (simp; omega)
      go_enter Try.func93, Try.ntmps93
      go_wp2_with (first | (go_at_call 62; refine (isHeight_b _ _).mono ?_; rintro e w' ⟨rfl, rfl⟩) | (go_at_call 96; refine (isTime_b _ _).mono ?_; rintro e w' ⟨rfl, rfl⟩))
      go_ret
      exact ⟨ret_bool (by rw [HV.out]; first | done | rfl | (simp; omega) | simp), (Below.refl _ _).alloc (Nat.le_refl _) _⟩
    · skip
      cases c2 : inB t 0 1000000
      · skip
        have HV : Hid (headOkB ⟨h, t, last, vals, next, data⟩ = false) := by
          unfold Hid headOkB
          simp only [if_neg HNE.out, c1, c2]
          first | rfl | simp | (simp; omega)
        go_enter Try.func93, Try.ntmps93
        go_wp2_with (first | (go_at_call 62; refine (isHeight_b _ _).mono ?_; rintro e w' ⟨rfl, rfl⟩) | (go_at_call 96; refine (isTime_b _ _).mono ?_; rintro e w' ⟨rfl, rfl⟩))
        go_ret
        exact ⟨ret_bool (by rw [HV.out]; first | done | rfl | (simp; omega) | simp), (Below.refl _ _).alloc (Nat.le_refl _) _⟩
      · skip
        cases c3 : ((vals.length : Int) == 8)
        · skip
          have HV : Hid (headOkB ⟨h, t, last, vals, next, data⟩ = false) := by
            have c3' := c3
            rw [b3.out] at c3'
            unfold Hid headOkB
            simp only [if_neg HNE.out, c1, c2, c3']
            first | rfl | simp | (simp; omega)
          go_enter Try.func93, Try.ntmps93
          go_wp2_with (first | (go_at_call 62; refine (isHeight_b _ _).mono ?_; rintro e w' ⟨rfl, rfl⟩) | (go_at_call 96; refine (isTime_b _ _).mono ?_; rintro e w' ⟨rfl, rfl⟩))
          go_ret
          exact ⟨ret_bool (by rw [HV.out]; first | done | rfl | (simp; omega) | simp), (Below.refl _ _).alloc (Nat.le_refl _) _⟩
        · skip
          cases c4 : ((next.length : Int) == 8)
          · skip
            have HV : Hid (headOkB ⟨h, t, last, vals, next, data⟩ = false) := by
              have c3' := c3
              rw [b3.out] at c3'
              have c4' := c4
              rw [b4.out] at c4'
              unfold Hid headOkB
              simp only [if_neg HNE.out, c1, c2, c3', c4']
              first | rfl | simp | (simp; omega)
            go_enter Try.func93, Try.ntmps93
            go_wp2_with (first | (go_at_call 62; refine (isHeight_b _ _).mono ?_; rintro e w' ⟨rfl, rfl⟩) | (go_at_call 96; refine (isTime_b _ _).mono ?_; rintro e w' ⟨rfl, rfl⟩))
            go_ret
            exact ⟨ret_bool (by rw [HV.out]; first | done | rfl | (simp; omega) | simp), (Below.refl _ _).alloc (Nat.le_refl _) _⟩
          · skip
            cases c5 : ((last.length : Int) == 8)
            · skip
              have HV : Hid (headOkB ⟨h, t, last, vals, next, data⟩ = false) := by
                have c3' := c3
                rw [b3.out] at c3'
                have c4' := c4
                rw [b4.out] at c4'
                have c5' := c5
                rw [b5.out] at c5'
                unfold Hid headOkB
                simp only [if_neg HNE.out, c1, c2, c3', c4', c5']
                first | rfl | simp | (simp; omega)
              go_enter Try.func93, Try.ntmps93
              go_wp2_with (first | (go_at_call 62; refine (isHeight_b _ _).mono ?_; rintro e w' ⟨rfl, rfl⟩) | (go_at_call 96; refine (isTime_b _ _).mono ?_; rintro e w' ⟨rfl, rfl⟩))
              go_ret
              exact ⟨ret_bool (by rw [HV.out]; first | done | rfl | (simp; omega) | simp), (Below.refl _ _).alloc (Nat.le_refl _) _⟩
            · skip
              by_cases c6 : data.length ≤ 20
              · skip
                have HV : Hid (headOkB ⟨h, t, last, vals, next, data⟩ = true) := by
                  have c3' := c3
                  rw [b3.out] at c3'
                  have c4' := c4
                  rw [b4.out] at c4'
                  have c5' := c5
                  rw [b5.out] at c5'
                  unfold Hid headOkB
                  simp only [if_neg HNE.out, c1, c2, c3', c4', c5', c6]
                  first | rfl | simp | (simp; omega)
                go_enter Try.func93, Try.ntmps93
                go_wp2_with (first | (go_at_call 62; refine (isHeight_b _ _).mono ?_; rintro e w' ⟨rfl, rfl⟩) | (go_at_call 96; refine (isTime_b _ _).mono ?_; rintro e w' ⟨rfl, rfl⟩))
                go_ret
                exact ⟨ret_bool (by rw [HV.out]; first | done | rfl | (simp; omega) | simp), (Below.refl _ _).alloc (Nat.le_refl _) _⟩
              · skip
                have HV : Hid (headOkB ⟨h, t, last, vals, next, data⟩ = false) := by
                  have c3' := c3
                  rw [b3.out] at c3'
                  have c4' := c4
                  rw [b4.out] at c4'
                  have c5' := c5
                  rw [b5.out] at c5'
                  unfold Hid headOkB
                  simp only [if_neg HNE.out, c1, c2, c3', c4', c5', c6]
                  first | rfl | simp | (simp; omega)
                go_enter Try.func93, Try.ntmps93
                go_wp2_with (first | (go_at_call 62; refine (isHeight_b _ _).mono ?_; rintro e w' ⟨rfl, rfl⟩) | (go_at_call 96; refine (isTime_b _ _).mono ?_; rintro e w' ⟨rfl, rfl⟩))
                go_ret
                exact ⟨ret_bool (by rw [HV.out]; first | done | rfl | (simp; omega) | simp), (Below.refl _ _).alloc (Nat.le_refl _) _⟩
end Go.Proofs.Ytabkbaepnnfjhaa
