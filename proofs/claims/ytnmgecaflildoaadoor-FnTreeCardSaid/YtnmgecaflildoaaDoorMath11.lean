/-
  Plain functions on numbers and bytes: ReadVar reads what Var writes.
-/
import Derived.Test.YtnmgecaflildoaaDoorMath9
namespace Go.Proofs.YtnmgecaflildoaaDoor
set_option linter.unusedVariables false
set_option linter.unusedSimpArgs false

theorem varF_le (k : Nat) : ∀ j n, n < 128 ^ j → 1 ≤ j → (varF k n).length ≤ j := by
  induction k with
  | zero => intro j n _ h1; simpa [varF] using h1
  | succ k ih =>
    intro j n h h1
    rw [varF]
    by_cases hn : n < 128
    · rw [if_pos hn]; simpa using h1
    · rw [if_neg hn]
      match j, h1 with
      | 1, _ => simp at h; omega
      | j + 2, _ =>
        have := ih (j + 1) (n / 128) (by rw [Nat.pow_succ] at h; omega) (by omega)
        simp only [List.length_cons]; omega
theorem le7_varF (k : Nat) : ∀ n, n < 128 ^ (k + 1) → le7 (varF k n) = n := by
  induction k with
  | zero =>
    intro n h
    simp only [varF, le7, UInt8.toNat_ofNat']
    simp at h
    omega
  | succ k ih =>
    intro n h
    rw [varF]
    by_cases hn : n < 128
    · rw [if_pos hn]; simp only [le7, UInt8.toNat_ofNat']; omega
    · rw [if_neg hn]
      simp only [le7, UInt8.toNat_ofNat']
      rw [ih (n / 128) (by rw [Nat.pow_succ] at h; omega)]
      omega
theorem varL_le7 (n : Nat) (h : n < 562949953421312) : (varL n).length ≤ 7 := varF_le 7 7 n h (by omega)
theorem varL_pos (n : Nat) : 1 ≤ (varL n).length := varF_pos 7 n
theorem le7_varL (n : Nat) (h : n < 562949953421312) : le7 (varL n) = n := le7_varF 7 n (Nat.lt_trans h (by decide))
theorem rvF_varL (n : Nat) (hn : n < 562949953421312) (t : List UInt8) (f i : Nat) (hi : i < (varL n).length) (hf : (varL n).length ≤ f + i) : rvF f (varL n ++ t) i = (n, (varL n).length) := by
  induction f generalizing i with
  | zero => omega
  | succ f ih =>
    have hlt : i < (varL n ++ t).length := by simp; omega
    have hg : (varL n ++ t)[i] = (varL n)[i] := List.getElem_append_left hi
    have hb := varL_bytes n hn i (varL n)[i] (List.getElem?_eq_getElem hi)
    by_cases hl : i + 1 = (varL n).length
    · rw [rvF_end hlt (by rw [hg]; exact hb.2 hl), hl, List.take_left, le7_varL n hn, if_pos rfl]
    · rw [rvF_more hlt (by rw [hg]; exact fun h => hl (hb.1 h)), ih (i + 1) (by omega) (by omega)]
/-- ReadVar reads what Var writes, whatever follows. -/
theorem readVar_app (n : Nat) (hn : n < 562949953421312) (t : List UInt8) : readVarS (varL n ++ t) = (n, (varL n).length) :=
  rvF_varL n hn t 7 0 (varL_pos n) (by have := varL_le7 n hn; omega)
theorem rvF_spec (l : List UInt8) (f : Nat) : ∀ i, f + i ≤ 7 → ((rvF f l i).2 = 0 ∧ (rvF f l i).1 = 0) ∨ (1 ≤ (rvF f l i).2 ∧ (rvF f l i).2 ≤ l.length ∧ (rvF f l i).2 ≤ 7 ∧ (rvF f l i).1 < 562949953421312 ∧ varL (rvF f l i).1 = l.take (rvF f l i).2) := by
  induction f with
  | zero => intro i _; exact .inl ⟨rfl, rfl⟩
  | succ f ih =>
    intro i hi
    rcases Nat.lt_or_ge i l.length with h | h
    · by_cases hb : l[i].toNat < 128
      · rw [rvF_end h hb]
        by_cases hv : varL (le7 (l.take (i + 1))) = l.take (i + 1)
        · rw [if_pos hv]
          exact .inr ⟨by simp, h, by show i + 1 ≤ 7; omega, le7_take_lt l (i + 1) (by omega), hv⟩
        · rw [if_neg hv]; exact .inl ⟨rfl, rfl⟩
      · rw [rvF_more h hb]; exact ih (i + 1) (by omega)
    · rw [rvF_none (.inr h)]; exact .inl ⟨rfl, rfl⟩
theorem readVar_spec (l : List UInt8) : ((readVarS l).2 = 0 ∧ (readVarS l).1 = 0) ∨ (1 ≤ (readVarS l).2 ∧ (readVarS l).2 ≤ l.length ∧ (readVarS l).2 ≤ 7 ∧ (readVarS l).1 < 562949953421312 ∧ varL (readVarS l).1 = l.take (readVarS l).2) :=
  rvF_spec l 7 0 (by omega)
end Go.Proofs.YtnmgecaflildoaaDoor
