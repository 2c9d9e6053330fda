/-
  Texts of this proof, laid into one: Math1.
-/
import Derived.Test.YtecimgkgdpnaeaaDoorGFnCommit1
/-
  Plain functions on numbers and bytes; no program in sight.
-/
namespace Go.Proofs.YtecimgkgdpnaeaaDoor

/-- The lowest k bytes of a number, the most significant first. -/
def fixedL : Nat → Nat → List UInt8
  | 0, _ => []
  | k + 1, n => fixedL k (n / 256) ++ [UInt8.ofNat (n % 256)]
@[simp] theorem fixedL_length (k : Nat) : ∀ n, (fixedL k n).length = k := by
  induction k with
  | zero => intro n; rfl
  | succ k ih => intro n; simp [fixedL, ih]
theorem fixedL_succ (k : Nat) : ∀ n, fixedL (k + 1) n = UInt8.ofNat (n / 256 ^ k % 256) :: fixedL k n := by
  induction k with
  | zero => intro n; simp [fixedL]
  | succ k ih =>
    intro n
    rw [fixedL, ih, fixedL, Nat.div_div_eq_div_mul, ← Nat.pow_succ', List.cons_append]
/-- What Fixed returns. -/
def fixedS (n width : Int) : List UInt8 :=
  if 1 ≤ width ∧ width ≤ 7 ∧ 0 ≤ n ∧ n.toNat < 256 ^ width.toNat then fixedL width.toNat n.toNat else []
theorem fixedS_yes {m v : Nat} (h1 : 1 ≤ v) (h2 : v ≤ 7) (h : m < 256 ^ v) : fixedS m v = fixedL v m := by
  unfold fixedS; rw [if_pos (by simp; omega)]; simp
theorem fixedS_no {n width : Int} (h : width < 1 ∨ 7 < width ∨ n < 0) : fixedS n width = [] := by
  unfold fixedS; rw [if_neg (by omega)]
theorem fixedS_big {m v : Nat} (h : 256 ^ v ≤ m) : fixedS m v = [] := by
  unfold fixedS; rw [if_neg (by simp; omega)]
theorem div_pow_pos {m v : Nat} : 0 < m / 256 ^ v ↔ 256 ^ v ≤ m := by
  have hp : 0 < 256 ^ v := Nat.pow_pos (by omega)
  exact ⟨fun h => by
    rcases Nat.lt_or_ge m (256 ^ v) with h' | h'
    · rw [Nat.div_eq_of_lt h'] at h; omega
    · exact h', fun h => Nat.div_pos h hp⟩
end Go.Proofs.YtecimgkgdpnaeaaDoor
