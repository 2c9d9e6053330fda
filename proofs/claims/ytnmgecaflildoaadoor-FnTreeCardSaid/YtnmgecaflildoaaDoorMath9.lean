/-
  Plain functions on numbers and bytes: ReadVar.
-/
import Derived.Test.YtnmgecaflildoaaDoorMath3
namespace Go.Proofs.YtnmgecaflildoaaDoor

/-- Groups of seven bits as a number, the lowest first. -/
def le7 : List UInt8 → Nat
  | [] => 0
  | b :: t => b.toNat % 128 + 128 * le7 t
theorem le7_lt (l : List UInt8) : le7 l < 128 ^ l.length := by
  induction l with
  | nil => simp [le7]
  | cons b t ih => simp only [le7, List.length_cons, Nat.pow_succ]; have := Nat.mod_lt b.toNat (show 0 < 128 by omega); omega
theorem le7_append (a : List UInt8) (b : UInt8) : le7 (a ++ [b]) = le7 a + b.toNat % 128 * 128 ^ a.length := by
  induction a with
  | nil => simp [le7]
  | cons x t ih =>
    simp only [List.cons_append, le7, ih, List.length_cons, Nat.pow_succ]
    rw [Nat.mul_add, Nat.add_assoc, ← Nat.mul_assoc, Nat.mul_comm 128 (b.toNat % 128), Nat.mul_assoc, Nat.mul_comm 128 (128 ^ t.length)]
theorem le7_take_lt (l : List UInt8) (k : Nat) (h : k ≤ 7) : le7 (l.take k) < 562949953421312 := by
  have h1 := le7_lt (l.take k)
  have h2 : (l.take k).length ≤ 7 := by simp; omega
  have h3 := Nat.pow_le_pow_right (n := 128) (by omega) h2
  have h4 : (128 : Nat) ^ 7 = 562949953421312 := rfl
  omega
/-- In a varint all bytes but the last are 128 and more. -/
theorem varF_bytes (k : Nat) : ∀ n, n < 128 ^ (k + 1) → ∀ i b, (varF k n)[i]? = some b → (b.toNat < 128 ↔ i + 1 = (varF k n).length) := by
  induction k with
  | zero =>
    intro n h i b hb
    simp only [varF] at hb ⊢
    match i, hb with
    | 0, hb => simp at hb; subst hb; simp at h ⊢; omega
  | succ k ih =>
    intro n h i b hb
    rw [varF] at hb ⊢
    by_cases hn : n < 128
    · rw [if_pos hn] at hb ⊢
      match i, hb with
      | 0, hb => simp at hb; subst hb; simp; omega
    · rw [if_neg hn] at hb ⊢
      match i, hb with
      | 0, hb =>
        simp at hb; subst hb
        have := varF_pos k (n / 128)
        simp only [List.length_cons]
        constructor
        · intro h'; exfalso; revert h'; simp; omega
        · intro h'; omega
      | i + 1, hb =>
        simp only [List.getElem?_cons_succ] at hb
        have := ih (n / 128) (by rw [Nat.pow_succ] at h; omega) i b hb
        simp only [List.length_cons]
        omega
theorem varL_bytes (n : Nat) (h : n < 562949953421312) (i : Nat) (b : UInt8) (hb : (varL n)[i]? = some b) : b.toNat < 128 ↔ i + 1 = (varL n).length :=
  varF_bytes 7 n (Nat.lt_trans h (by decide)) i b hb
/-- ReadVar from byte i on, with so many rounds left. -/
def rvF : Nat → List UInt8 → Nat → Nat × Nat
  | 0, _, _ => (0, 0)
  | f + 1, l, i => match l[i]? with
    | none => (0, 0)
    | some b => if b.toNat < 128 then (if varL (le7 (l.take (i + 1))) = l.take (i + 1) then (le7 (l.take (i + 1)), i + 1) else (0, 0)) else rvF f l (i + 1)
/-- What ReadVar returns. -/
def readVarS (l : List UInt8) : Nat × Nat := rvF 7 l 0
theorem rvF_none {f : Nat} {l : List UInt8} {i : Nat} (h : f = 0 ∨ l.length ≤ i) : rvF f l i = (0, 0) := by
  cases f with
  | zero => rfl
  | succ f =>
    rcases h with h | h
    · omega
    · rw [rvF, List.getElem?_eq_none h]
theorem rvF_end {f : Nat} {l : List UInt8} {i : Nat} (h : i < l.length) (hb : l[i].toNat < 128) : rvF (f + 1) l i = if varL (le7 (l.take (i + 1))) = l.take (i + 1) then (le7 (l.take (i + 1)), i + 1) else (0, 0) := by
  rw [rvF, List.getElem?_eq_getElem h]
  exact if_pos hb
theorem rvF_more {f : Nat} {l : List UInt8} {i : Nat} (h : i < l.length) (hb : ¬ l[i].toNat < 128) : rvF (f + 1) l i = rvF f l (i + 1) := by
  rw [rvF, List.getElem?_eq_getElem h]
  exact if_neg hb
/-- What the reference's loop knows at the head of round k. -/
def RvAt (l : List UInt8) (k : Nat) : Prop :=
  (readVarS l = rvF (8 - k) l (k - 1)) ∨ (readVarS l = (0, 0) ∧ ∃ j, ∃ h : j < l.length, j + 1 < k ∧ l[j].toNat < 128)
theorem RvAt.start (l : List UInt8) : RvAt l 1 := .inl rfl
theorem RvAt.hit {l : List UInt8} {k : Nat} (h : RvAt l k) (h1 : 1 ≤ k) (h7 : k ≤ 7) (hk : k ≤ l.length) (hT : varL (le7 (l.take k)) = l.take k) : readVarS l = (le7 (l.take k), k) := by
  have hn := le7_take_lt l k h7
  have hl : (l.take k).length = k := by simp; omega
  rcases h with h | ⟨_, j, hj, hjk, hb⟩
  · obtain ⟨i, rfl⟩ : ∃ i, k = i + 1 := ⟨k - 1, by omega⟩
    have hb := (varL_bytes _ hn i (l[i]) (by rw [hT, List.getElem?_take, if_pos (by omega)]; exact List.getElem?_eq_getElem (by omega))).2 (by rw [hT, hl])
    rw [h, show 8 - (i + 1) = (6 - i) + 1 from by omega, show i + 1 - 1 = i from rfl, rvF_end (by omega) hb, if_pos hT]
  · have := (varL_bytes _ hn j (l[j]) (by rw [hT, List.getElem?_take, if_pos (by omega)]; exact List.getElem?_eq_getElem (by omega))).1 hb
    rw [hT, hl] at this
    omega
theorem RvAt.miss {l : List UInt8} {k : Nat} (h : RvAt l k) (h1 : 1 ≤ k) (h7 : k ≤ 7) (hk : k ≤ l.length) (hT : varL (le7 (l.take k)) ≠ l.take k) : RvAt l (k + 1) := by
  rcases h with h | ⟨h0, j, hj, hjk, hb⟩
  · obtain ⟨i, rfl⟩ : ∃ i, k = i + 1 := ⟨k - 1, by omega⟩
    rw [show 8 - (i + 1) = (6 - i) + 1 from by omega, show i + 1 - 1 = i from rfl] at h
    by_cases hb : l[i].toNat < 128
    · rw [rvF_end (by omega) hb, if_neg hT] at h
      exact .inr ⟨h, i, by omega, by omega, hb⟩
    · rw [rvF_more (by omega) hb] at h
      exact .inl (by rw [h, show 8 - (i + 1 + 1) = 6 - i from by omega]; rfl)
  · exact .inr ⟨h0, j, hj, by omega, hb⟩
theorem RvAt.fin {l : List UInt8} {k : Nat} (h : RvAt l k) (hk : 8 ≤ k ∨ l.length < k) : readVarS l = (0, 0) := by
  rcases h with h | h
  · rw [h]; exact rvF_none (by omega)
  · exact h.1
open Go.RowKit in
theorem le7_shift (l : List UInt8) (k q : Nat) (hk : k < l.length) (h7 : k < 7) (hq : q = le7 (l.take k)) :
    bits .or .i64 (q : Int) (wrap64 ((l[k].toNat : Int) % 128 * 2 ^ (7 * k))) = ((le7 (l.take (k + 1)) : Nat) : Int) := by
  have hx := Nat.mod_lt l[k].toNat (show 0 < 128 by omega)
  have hlen : (l.take k).length = k := by simp; omega
  have hql : q < 2 ^ (7 * k) := by
    rw [hq, Nat.pow_mul]
    have := le7_lt (l.take k)
    rw [hlen] at this
    exact this
  have hp : 2 ^ (7 * k) ≤ 2 ^ 42 := Nat.pow_le_pow_right (by omega) (by omega)
  have h42 : (2 : Nat) ^ 42 = 4398046511104 := rfl
  have hv : 2 ^ (7 * k) * (l[k].toNat % 128) ≤ 2 ^ (7 * k) * 127 := Nat.mul_le_mul_left _ (by omega)
  have hcast : (l[k].toNat : Int) % 128 * 2 ^ (7 * k) = ((2 ^ (7 * k) * (l[k].toNat % 128) : Nat) : Int) := by
    rw [Int.natCast_mul, Int.natCast_pow, Int.mul_comm]; rfl
  rw [hcast, take_succ_get l k hk, le7_append, hlen, show (128 : Nat) = 2 ^ 7 from rfl, ← Nat.pow_mul, ← hq]
  rw [show wrap64 ((2 ^ (7 * k) * (l[k].toNat % 2 ^ 7) : Nat) : Int) = ((2 ^ (7 * k) * (l[k].toNat % 2 ^ 7) : Nat) : Int) from IntWalk.wrap64_in _ ⟨by omega, by have : l[k].toNat % 2 ^ 7 = l[k].toNat % 128 := rfl; rw [this]; omega⟩]
  rw [or_i64 _ _ (by omega) (by have : l[k].toNat % 2 ^ 7 = l[k].toNat % 128 := rfl; rw [this]; omega), Nat.or_comm, ← Nat.two_pow_add_eq_or_of_lt hql]
  rw [Nat.add_comm, Nat.mul_comm]
theorem le7_drop_lt (l : List UInt8) (k j : Nat) (h : k ≤ 7) : le7 ((l.take k).drop j) < 562949953421312 := by
  have h1 := le7_lt ((l.take k).drop j)
  have h2 : ((l.take k).drop j).length ≤ 7 := by simp; omega
  have h3 := Nat.pow_le_pow_right (n := 128) (by omega) h2
  have h4 : (128 : Nat) ^ 7 = 562949953421312 := rfl
  omega
theorem le7_drop (l : List UInt8) (k j : Nat) (hj : j < k) (hk : k ≤ l.length) : le7 ((l.take k).drop j) = l[j].toNat % 128 + 128 * le7 ((l.take k).drop (j + 1)) := by
  rw [List.drop_eq_getElem_cons (by simp; omega)]
  simp [le7]
theorem S_extract (l : List UInt8) (n : Nat) : (S l).extract 0 n = S (l.take n) := by
  unfold S
  rw [ByteArray.extract_mk]
  simp
end Go.Proofs.YtnmgecaflildoaaDoor
