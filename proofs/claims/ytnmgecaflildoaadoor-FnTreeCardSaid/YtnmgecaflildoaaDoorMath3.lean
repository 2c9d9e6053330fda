/-
  Plain functions on numbers and bytes: Var.
-/
import Derived.Test.YtnmgecaflildoaaDoorMath1
namespace Go.Proofs.YtnmgecaflildoaaDoor

/-- A number in groups of seven bits, at most k + 1 of them. -/
def varF : Nat → Nat → List UInt8
  | 0, n => [UInt8.ofNat n]
  | k + 1, n => if n < 128 then [UInt8.ofNat n] else UInt8.ofNat (128 + n % 128) :: varF k (n / 128)
def varL (n : Nat) : List UInt8 := varF 7 n
theorem varF_end (k n : Nat) (h : n < 128) : varF k n = [UInt8.ofNat n] := by
  cases k <;> simp [varF, h]
theorem varF_step (k n : Nat) (h : 128 ≤ n) (hk : n < 128 ^ k) : ∃ j, k = j + 1 ∧ n / 128 < 128 ^ j ∧ varF k n = UInt8.ofNat (128 + n % 128) :: varF j (n / 128) := by
  cases k with
  | zero => simp at hk; omega
  | succ j => exact ⟨j, rfl, by rw [Nat.pow_succ] at hk; omega, by rw [varF, if_neg (by omega)]⟩
theorem varF_len (k : Nat) : ∀ n, (varF k n).length ≤ k + 1 := by
  induction k with
  | zero => intro n; simp [varF]
  | succ k ih => intro n; rw [varF]; split <;> simp; exact ih _
theorem varF_pos (k : Nat) (n : Nat) : 1 ≤ (varF k n).length := by
  cases k <;> rw [varF] <;> try split
  all_goals simp
theorem varL_len (n : Nat) : (varL n).length ≤ 8 := varF_len 7 n
/-- What Var returns. -/
def varS (n : Int) : List UInt8 := if 0 ≤ n ∧ n ≤ 562949953421311 then varL n.toNat else []
theorem varS_no {n : Int} (h : n < 0 ∨ 562949953421311 < n) : varS n = [] := by unfold varS; rw [if_neg (by omega)]
theorem varS_yes {n : Nat} (h : n ≤ 562949953421311) : varS n = varL n := by unfold varS; rw [if_pos (by omega)]; rfl
theorem varS_len (n : Int) : (varS n).length ≤ 8 := by unfold varS; split <;> simp [varL_len]
end Go.Proofs.YtnmgecaflildoaaDoor
