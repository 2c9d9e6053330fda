/-
  Plain functions on numbers and bytes: ReadFixed.
-/
import Derived.Test.YtgabmlpbedbdlaaMath1
namespace Go.Proofs.Ytgabmlpbedbdlaa

/-- Bytes as a number, the most significant first. -/
def beNat (l : List UInt8) : Nat := l.foldl (fun n b => n * 256 + b.toNat) 0
@[simp] theorem beNat_nil : beNat [] = 0 := rfl
theorem beNat_snoc (l : List UInt8) (b : UInt8) : beNat (l ++ [b]) = beNat l * 256 + b.toNat := by simp [beNat]
theorem beNat_take (l : List UInt8) (k : Nat) (h : k < l.length) : beNat (l.take (k + 1)) = beNat (l.take k) * 256 + (l[k].toNat) := by rw [take_succ_get l k h, beNat_snoc]
theorem beNat_lt (l : List UInt8) : ∀ k, k ≤ l.length → beNat (l.take k) < 256 ^ k := by
  intro k
  induction k with
  | zero => intro _; simp
  | succ k ih =>
    intro h
    rw [beNat_take l k (by omega), Nat.pow_succ]
    have := ih (by omega)
    have := l[k].toNat_lt
    omega
theorem beNat_lt6 (l : List UInt8) (k : Nat) (h : k ≤ l.length) (h6 : k ≤ 6) : beNat (l.take k) < 281474976710656 :=
  Nat.lt_of_lt_of_le (beNat_lt l k h) (by have := Nat.pow_le_pow_right (n := 256) (by omega) h6; omega)
/-- What ReadFixed returns. -/
def readFixedS (l : List UInt8) (width : Int) : Nat × Bool :=
  if 1 ≤ width ∧ width ≤ 7 ∧ width ≤ l.length then (beNat (l.take width.toNat), true) else (0, false)
theorem readFixedS_no {l : List UInt8} {width : Int} (h : width < 1 ∨ 7 < width ∨ (l.length : Int) < width) : readFixedS l width = (0, false) := by
  unfold readFixedS; rw [if_neg (by omega)]
theorem readFixedS_yes {l : List UInt8} {v : Nat} (h1 : 1 ≤ v) (h2 : v ≤ 7) (h3 : v ≤ l.length) : readFixedS l v = (beNat (l.take v), true) := by
  unfold readFixedS; rw [if_pos (by omega)]; rfl
end Go.Proofs.Ytgabmlpbedbdlaa
