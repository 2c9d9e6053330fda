/-
  Numbers written are read back; plain facts. No program in sight.
-/
import Derived.Test.YtgabmlpbedbdlaaMath2
import Derived.Test.YtgabmlpbedbdlaaMath8
import Derived.Test.YtgabmlpbedbdlaaMath7
import Derived.Test.YtgabmlpbedbdlaaMath10
import Derived.Test.YtgabmlpbedbdlaaMath11
import Derived.Test.YtgabmlpbedbdlaaMath1
namespace Go.Proofs.Ytgabmlpbedbdlaa
set_option linter.unusedVariables false

theorem varS_size (n : Int) : ((varS n).length = 0 ∧ (n < 0 ∨ 562949953421311 < n)) ∨ (1 ≤ (varS n).length ∧ (varS n).length ≤ 7 ∧ 0 ≤ n ∧ n ≤ 562949953421311) := by
  by_cases h : n < 0 ∨ 562949953421311 < n
  · left; rw [varS_no h]; exact ⟨rfl, h⟩
  · right
    obtain ⟨m, rfl⟩ := Int.eq_ofNat_of_zero_le (a := n) (by omega)
    rw [varS_yes (by omega)]
    have h1 := varL_pos m
    have h2 := varL_le7 m (by omega)
    omega
theorem readVar_varS {n : Int} (h0 : 0 ≤ n) (h1 : n ≤ 562949953421311) (t : List UInt8) : ((readVarS (varS n ++ t)).1 : Int) = n ∧ (readVarS (varS n ++ t)).2 = (varS n).length := by
  obtain ⟨m, rfl⟩ := Int.eq_ofNat_of_zero_le (a := n) h0
  rw [varS_yes (by omega), readVar_app m (by omega) t]
  exact ⟨rfl, rfl⟩
theorem beNat_fixedL (k : Nat) : ∀ n, n < 256 ^ k → beNat (fixedL k n) = n := by
  induction k with
  | zero => intro n h; simp [fixedL, beNat]; omega
  | succ k ih =>
    intro n h
    rw [fixedL, beNat_snoc, ih (n / 256) (by rw [Nat.pow_succ] at h; omega), UInt8.toNat_ofNat', Nat.mod_mod_of_dvd _ (by decide)]
    omega
theorem fixed7_size (n : Int) : ((fixedS n 7).length = 0 ∧ (n < 0 ∨ 72057594037927936 ≤ n)) ∨ ((fixedS n 7).length = 7 ∧ 0 ≤ n ∧ n < 72057594037927936) := by
  by_cases h : n < 0
  · left; rw [fixedS_no (.inr (.inr h))]; exact ⟨rfl, .inl h⟩
  · obtain ⟨m, rfl⟩ := Int.eq_ofNat_of_zero_le (a := n) (by omega)
    by_cases h2 : 256 ^ 7 ≤ m
    · left
      have := fixedS_big h2
      rw [show ((7 : Nat) : Int) = 7 from rfl] at this
      rw [this]
      exact ⟨rfl, .inr (by omega)⟩
    · right
      have := fixedS_yes (m := m) (v := 7) (by omega) (by omega) (by omega)
      rw [show ((7 : Nat) : Int) = 7 from rfl] at this
      rw [this, fixedL_length]
      omega
theorem readFixed_fixed {n : Int} (h0 : 0 ≤ n) (h1 : n < 72057594037927936) (t : List UInt8) : ((readFixedS (fixedS n 7 ++ t) 7).1 : Int) = n ∧ (readFixedS (fixedS n 7 ++ t) 7).2 = true := by
  obtain ⟨m, rfl⟩ := Int.eq_ofNat_of_zero_le (a := n) h0
  have h2 := fixedS_yes (m := m) (v := 7) (by omega) (by omega) (by omega)
  rw [show ((7 : Nat) : Int) = 7 from rfl] at h2
  rw [h2]
  have h3 := readFixedS_yes (l := fixedL 7 m ++ t) (v := 7) (by omega) (by omega) (by simp)
  rw [show ((7 : Nat) : Int) = 7 from rfl] at h3
  rw [h3, List.take_left' (by simp), beNat_fixedL 7 m (by omega)]
  exact ⟨rfl, rfl⟩
theorem readDec_dec (n : Int) (h1 : n ≤ 9223372036854775807) (h2 : -9223372036854775808 ≤ n) : (n > -1000000000 ∧ n < 1000000000 ∧ readDecS (decS n) = (n, true)) ∨ ((n ≤ -1000000000 ∨ 1000000000 ≤ n) ∧ readDecS (decS n) = (0, false)) := by
  obtain ⟨hd, hv, _, hj, _⟩ := decS_read n (by omega)
  by_cases h : n.natAbs < 10 ^ 9
  · left
    refine ⟨by omega, by omega, ?_⟩
    unfold readDecS
    rw [hv, if_pos ⟨hj 9 (by omega) h, rfl⟩]
  · right
    refine ⟨by omega, ?_⟩
    unfold readDecS
    rw [if_neg]
    rintro ⟨h9, _⟩
    have h3 := dval_dig _ hd
    have h4 : n.natAbs = dval (bodyD (decS n)) := by
      unfold numD sgnD at hv
      split at hv <;> omega
    have h5 : 10 ^ (bodyD (decS n)).length ≤ 10 ^ 9 := Nat.pow_le_pow_right (by omega) h9
    omega
theorem unhex_hex (l : List UInt8) : unhexS (hexL l) = (l, true) := by
  refine unhexS_some ?_
  induction l with
  | nil => rfl
  | cons b l ih =>
    rw [hexL_cons, unhexF, hexV_of _ (by have := b.toNat_lt; omega), hexV_of _ (by omega), if_neg (by omega), ih]
    simp only [Option.map_some, Option.some.injEq, List.cons.injEq, and_true]
    rw [show 16 * (((b.toNat / 16 : Nat) : Int)).toNat + (((b.toNat % 16 : Nat) : Int)).toNat = b.toNat from by omega]
    simp
theorem readVar_back (l : List UInt8) : (readVarS l).2 = 0 ∨ (1 ≤ (readVarS l).2 ∧ (readVarS l).2 ≤ l.length ∧ varS ((readVarS l).1 : Int) = l.take (readVarS l).2) := by
  rcases readVar_spec l with h | h
  · exact .inl h.1
  · right
    rw [varS_yes (by omega)]
    exact ⟨h.1, h.2.1, h.2.2.2.2⟩
end Go.Proofs.Ytgabmlpbedbdlaa
