/-
  Plain functions on numbers and bytes: Dec.
-/
import Derived.Test.YtgabmlpbedbdlaaMath1
namespace Go.Proofs.Ytgabmlpbedbdlaa

/-- A number's decimal digits, none for nought. -/
def decF : Nat → Nat → List UInt8
  | 0, _ => []
  | k + 1, m => if m = 0 then [] else decF k (m / 10) ++ [UInt8.ofNat (48 + m % 10)]
theorem decF_zero (k : Nat) : decF k 0 = [] := by cases k <;> simp [decF]
theorem decF_step (k m : Nat) (h : 0 < m) (hk : m < 10 ^ k) : ∃ j, k = j + 1 ∧ m / 10 < 10 ^ j ∧ decF k m = decF j (m / 10) ++ [UInt8.ofNat (48 + m % 10)] := by
  cases k with
  | zero => simp at hk; omega
  | succ j => exact ⟨j, rfl, by rw [Nat.pow_succ] at hk; omega, by rw [decF, if_neg (by omega)]⟩
theorem decF_len (k : Nat) : ∀ m, (decF k m).length ≤ k := by
  induction k with
  | zero => intro m; simp [decF]
  | succ k ih => intro m; rw [decF]; split <;> simp; exact ih _
/-- What Dec returns. -/
def decS (n : Int) : List UInt8 := if n = 0 then [48] else if n < 0 then 45 :: decF 19 n.natAbs else decF 19 n.natAbs
theorem decS_zero : decS 0 = [48] := rfl
theorem decS_pos {m : Nat} (h : 0 < m) : decS m = decF 19 m := by unfold decS; rw [if_neg (by omega), if_neg (by omega)]; rfl
theorem decS_neg {m : Nat} (h : 0 < m) : decS (-(m : Int)) = 45 :: decF 19 m := by unfold decS; rw [if_neg (by omega), if_pos (by omega)]; simp
theorem tmod_neg (q : Nat) : (-(q : Int)).tmod 10 = -((q : Int) % 10) := by
  rw [Int.neg_tmod, Int.tmod_eq_emod_of_nonneg (by omega)]
theorem tdiv_neg (q : Nat) : (-(q : Int)).tdiv 10 = -((q : Int) / 10) := by
  rw [Int.neg_tdiv, Int.tdiv_eq_ediv_of_nonneg (by omega)]
end Go.Proofs.Ytgabmlpbedbdlaa
