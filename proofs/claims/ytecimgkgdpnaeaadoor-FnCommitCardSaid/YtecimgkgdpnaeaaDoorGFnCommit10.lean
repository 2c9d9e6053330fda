/-
  Texts of this proof, laid into one: Math3, Math9, Math11, Num2.
-/
import Derived.Test.YtecimgkgdpnaeaaDoorGFnCommit9
import Derived.Test.YtecimgkgdpnaeaaDoorGFnCommit2
/-
  Plain functions on numbers and bytes: Var.
-/
namespace Go.Proofs.YtecimgkgdpnaeaaDoor

/-- A number in groups of seven bits, at most k + 1 of them. -/
def varF : Nat → Nat → List UInt8
  | 0, n => [UInt8.ofNat n]
  | k + 1, n => if n < 128 then [UInt8.ofNat n] else UInt8.ofNat (128 + n % 128) :: varF k (n / 128)
def varL (n : Nat) : List UInt8 := varF 7 n
theorem varF_end (k n : Nat) (h : n < 128) : varF k n = [UInt8.ofNat n] := by
  cases k <;> simp [varF, h]
theorem varF_step (k n : Nat) (h : 128 ≤ n) (hk : n < 128 ^ k) : ∃ j, k = j + 1 ∧ n / 128 < 128 ^ j ∧ varF k n = UInt8.ofNat (128 + n % 128) :: varF j (n / 128) := by
  cases k with
  | zero => simp at hk; omega
  | succ j => exact ⟨j, rfl, by rw [Nat.pow_succ] at hk; omega, by rw [varF, if_neg (by omega)]⟩
theorem varF_len (k : Nat) : ∀ n, (varF k n).length ≤ k + 1 := by
  induction k with
  | zero => intro n; simp [varF]
  | succ k ih => intro n; rw [varF]; split <;> simp; exact ih _
theorem varF_pos (k : Nat) (n : Nat) : 1 ≤ (varF k n).length := by
  cases k <;> rw [varF] <;> try split
  all_goals simp
theorem varL_len (n : Nat) : (varL n).length ≤ 8 := varF_len 7 n
/-- What Var returns. -/
def varS (n : Int) : List UInt8 := if 0 ≤ n ∧ n ≤ 562949953421311 then varL n.toNat else []
theorem varS_no {n : Int} (h : n < 0 ∨ 562949953421311 < n) : varS n = [] := by unfold varS; rw [if_neg (by omega)]
theorem varS_yes {n : Nat} (h : n ≤ 562949953421311) : varS n = varL n := by unfold varS; rw [if_pos (by omega)]; rfl
theorem varS_len (n : Int) : (varS n).length ≤ 8 := by unfold varS; split <;> simp [varL_len]
end Go.Proofs.YtecimgkgdpnaeaaDoor

/-
  Plain functions on numbers and bytes: ReadVar.
-/
namespace Go.Proofs.YtecimgkgdpnaeaaDoor

/-- Groups of seven bits as a number, the lowest first. -/
def le7 : List UInt8 → Nat
  | [] => 0
  | b :: t => b.toNat % 128 + 128 * le7 t
theorem le7_lt (l : List UInt8) : le7 l < 128 ^ l.length := by
  induction l with
  | nil => simp [le7]
  | cons b t ih => simp only [le7, List.length_cons, Nat.pow_succ]; have := Nat.mod_lt b.toNat (show 0 < 128 by omega); omega
theorem le7_append (a : List UInt8) (b : UInt8) : le7 (a ++ [b]) = le7 a + b.toNat % 128 * 128 ^ a.length := by
  induction a with
  | nil => simp [le7]
  | cons x t ih =>
    simp only [List.cons_append, le7, ih, List.length_cons, Nat.pow_succ]
    rw [Nat.mul_add, Nat.add_assoc, ← Nat.mul_assoc, Nat.mul_comm 128 (b.toNat % 128), Nat.mul_assoc, Nat.mul_comm 128 (128 ^ t.length)]
theorem le7_take_lt (l : List UInt8) (k : Nat) (h : k ≤ 7) : le7 (l.take k) < 562949953421312 := by
  have h1 := le7_lt (l.take k)
  have h2 : (l.take k).length ≤ 7 := by simp; omega
  have h3 := Nat.pow_le_pow_right (n := 128) (by omega) h2
  have h4 : (128 : Nat) ^ 7 = 562949953421312 := rfl
  omega
/-- In a varint all bytes but the last are 128 and more. -/
theorem varF_bytes (k : Nat) : ∀ n, n < 128 ^ (k + 1) → ∀ i b, (varF k n)[i]? = some b → (b.toNat < 128 ↔ i + 1 = (varF k n).length) := by
  induction k with
  | zero =>
    intro n h i b hb
    simp only [varF] at hb ⊢
    match i, hb with
    | 0, hb => simp at hb; subst hb; simp at h ⊢; omega
  | succ k ih =>
    intro n h i b hb
    rw [varF] at hb ⊢
    by_cases hn : n < 128
    · rw [if_pos hn] at hb ⊢
      match i, hb with
      | 0, hb => simp at hb; subst hb; simp; omega
    · rw [if_neg hn] at hb ⊢
      match i, hb with
      | 0, hb =>
        simp at hb; subst hb
        have := varF_pos k (n / 128)
        simp only [List.length_cons]
        constructor
        · intro h'; exfalso; revert h'; simp; omega
        · intro h'; omega
      | i + 1, hb =>
        simp only [List.getElem?_cons_succ] at hb
        have := ih (n / 128) (by rw [Nat.pow_succ] at h; omega) i b hb
        simp only [List.length_cons]
        omega
theorem varL_bytes (n : Nat) (h : n < 562949953421312) (i : Nat) (b : UInt8) (hb : (varL n)[i]? = some b) : b.toNat < 128 ↔ i + 1 = (varL n).length :=
  varF_bytes 7 n (Nat.lt_trans h (by decide)) i b hb
/-- ReadVar from byte i on, with so many rounds left. -/
def rvF : Nat → List UInt8 → Nat → Nat × Nat
  | 0, _, _ => (0, 0)
  | f + 1, l, i => match l[i]? with
    | none => (0, 0)
    | some b => if b.toNat < 128 then (if varL (le7 (l.take (i + 1))) = l.take (i + 1) then (le7 (l.take (i + 1)), i + 1) else (0, 0)) else rvF f l (i + 1)
/-- What ReadVar returns. -/
def readVarS (l : List UInt8) : Nat × Nat := rvF 7 l 0
theorem rvF_none {f : Nat} {l : List UInt8} {i : Nat} (h : f = 0 ∨ l.length ≤ i) : rvF f l i = (0, 0) := by
  cases f with
  | zero => rfl
  | succ f =>
    rcases h with h | h
    · omega
    · rw [rvF, List.getElem?_eq_none h]
theorem rvF_end {f : Nat} {l : List UInt8} {i : Nat} (h : i < l.length) (hb : l[i].toNat < 128) : rvF (f + 1) l i = if varL (le7 (l.take (i + 1))) = l.take (i + 1) then (le7 (l.take (i + 1)), i + 1) else (0, 0) := by
  rw [rvF, List.getElem?_eq_getElem h]
  exact if_pos hb
theorem rvF_more {f : Nat} {l : List UInt8} {i : Nat} (h : i < l.length) (hb : ¬ l[i].toNat < 128) : rvF (f + 1) l i = rvF f l (i + 1) := by
  rw [rvF, List.getElem?_eq_getElem h]
  exact if_neg hb
/-- What the reference's loop knows at the head of round k. -/
def RvAt (l : List UInt8) (k : Nat) : Prop :=
  (readVarS l = rvF (8 - k) l (k - 1)) ∨ (readVarS l = (0, 0) ∧ ∃ j, ∃ h : j < l.length, j + 1 < k ∧ l[j].toNat < 128)
theorem RvAt.start (l : List UInt8) : RvAt l 1 := .inl rfl
theorem RvAt.hit {l : List UInt8} {k : Nat} (h : RvAt l k) (h1 : 1 ≤ k) (h7 : k ≤ 7) (hk : k ≤ l.length) (hT : varL (le7 (l.take k)) = l.take k) : readVarS l = (le7 (l.take k), k) := by
  have hn := le7_take_lt l k h7
  have hl : (l.take k).length = k := by simp; omega
  rcases h with h | ⟨_, j, hj, hjk, hb⟩
  · obtain ⟨i, rfl⟩ : ∃ i, k = i + 1 := ⟨k - 1, by omega⟩
    have hb := (varL_bytes _ hn i (l[i]) (by rw [hT, List.getElem?_take, if_pos (by omega)]; exact List.getElem?_eq_getElem (by omega))).2 (by rw [hT, hl])
    rw [h, show 8 - (i + 1) = (6 - i) + 1 from by omega, show i + 1 - 1 = i from rfl, rvF_end (by omega) hb, if_pos hT]
  · have := (varL_bytes _ hn j (l[j]) (by rw [hT, List.getElem?_take, if_pos (by omega)]; exact List.getElem?_eq_getElem (by omega))).1 hb
    rw [hT, hl] at this
    omega
theorem RvAt.miss {l : List UInt8} {k : Nat} (h : RvAt l k) (h1 : 1 ≤ k) (h7 : k ≤ 7) (hk : k ≤ l.length) (hT : varL (le7 (l.take k)) ≠ l.take k) : RvAt l (k + 1) := by
  rcases h with h | ⟨h0, j, hj, hjk, hb⟩
  · obtain ⟨i, rfl⟩ : ∃ i, k = i + 1 := ⟨k - 1, by omega⟩
    rw [show 8 - (i + 1) = (6 - i) + 1 from by omega, show i + 1 - 1 = i from rfl] at h
    by_cases hb : l[i].toNat < 128
    · rw [rvF_end (by omega) hb, if_neg hT] at h
      exact .inr ⟨h, i, by omega, by omega, hb⟩
    · rw [rvF_more (by omega) hb] at h
      exact .inl (by rw [h, show 8 - (i + 1 + 1) = 6 - i from by omega]; rfl)
  · exact .inr ⟨h0, j, hj, by omega, hb⟩
theorem RvAt.fin {l : List UInt8} {k : Nat} (h : RvAt l k) (hk : 8 ≤ k ∨ l.length < k) : readVarS l = (0, 0) := by
  rcases h with h | h
  · rw [h]; exact rvF_none (by omega)
  · exact h.1
open Go.RowKit in
theorem le7_shift (l : List UInt8) (k q : Nat) (hk : k < l.length) (h7 : k < 7) (hq : q = le7 (l.take k)) :
    bits .or .i64 (q : Int) (wrap64 ((l[k].toNat : Int) % 128 * 2 ^ (7 * k))) = ((le7 (l.take (k + 1)) : Nat) : Int) := by
  have hx := Nat.mod_lt l[k].toNat (show 0 < 128 by omega)
  have hlen : (l.take k).length = k := by simp; omega
  have hql : q < 2 ^ (7 * k) := by
    rw [hq, Nat.pow_mul]
    have := le7_lt (l.take k)
    rw [hlen] at this
    exact this
  have hp : 2 ^ (7 * k) ≤ 2 ^ 42 := Nat.pow_le_pow_right (by omega) (by omega)
  have h42 : (2 : Nat) ^ 42 = 4398046511104 := rfl
  have hv : 2 ^ (7 * k) * (l[k].toNat % 128) ≤ 2 ^ (7 * k) * 127 := Nat.mul_le_mul_left _ (by omega)
  have hcast : (l[k].toNat : Int) % 128 * 2 ^ (7 * k) = ((2 ^ (7 * k) * (l[k].toNat % 128) : Nat) : Int) := by
    rw [Int.natCast_mul, Int.natCast_pow, Int.mul_comm]; rfl
  rw [hcast, take_succ_get l k hk, le7_append, hlen, show (128 : Nat) = 2 ^ 7 from rfl, ← Nat.pow_mul, ← hq]
  rw [show wrap64 ((2 ^ (7 * k) * (l[k].toNat % 2 ^ 7) : Nat) : Int) = ((2 ^ (7 * k) * (l[k].toNat % 2 ^ 7) : Nat) : Int) from IntWalk.wrap64_in _ ⟨by omega, by have : l[k].toNat % 2 ^ 7 = l[k].toNat % 128 := rfl; rw [this]; omega⟩]
  rw [or_i64 _ _ (by omega) (by have : l[k].toNat % 2 ^ 7 = l[k].toNat % 128 := rfl; rw [this]; omega), Nat.or_comm, ← Nat.two_pow_add_eq_or_of_lt hql]
  rw [Nat.add_comm, Nat.mul_comm]
theorem le7_drop_lt (l : List UInt8) (k j : Nat) (h : k ≤ 7) : le7 ((l.take k).drop j) < 562949953421312 := by
  have h1 := le7_lt ((l.take k).drop j)
  have h2 : ((l.take k).drop j).length ≤ 7 := by simp; omega
  have h3 := Nat.pow_le_pow_right (n := 128) (by omega) h2
  have h4 : (128 : Nat) ^ 7 = 562949953421312 := rfl
  omega
theorem le7_drop (l : List UInt8) (k j : Nat) (hj : j < k) (hk : k ≤ l.length) : le7 ((l.take k).drop j) = l[j].toNat % 128 + 128 * le7 ((l.take k).drop (j + 1)) := by
  rw [List.drop_eq_getElem_cons (by simp; omega)]
  simp [le7]
theorem S_extract (l : List UInt8) (n : Nat) : (S l).extract 0 n = S (l.take n) := by
  unfold S
  rw [ByteArray.extract_mk]
  simp
end Go.Proofs.YtecimgkgdpnaeaaDoor

/-
  Plain functions on numbers and bytes: ReadVar reads what Var writes.
-/
namespace Go.Proofs.YtecimgkgdpnaeaaDoor
set_option linter.unusedVariables false
set_option linter.unusedSimpArgs false

theorem varF_le (k : Nat) : ∀ j n, n < 128 ^ j → 1 ≤ j → (varF k n).length ≤ j := by
  induction k with
  | zero => intro j n _ h1; simpa [varF] using h1
  | succ k ih =>
    intro j n h h1
    rw [varF]
    by_cases hn : n < 128
    · rw [if_pos hn]; simpa using h1
    · rw [if_neg hn]
      match j, h1 with
      | 1, _ => simp at h; omega
      | j + 2, _ =>
        have := ih (j + 1) (n / 128) (by rw [Nat.pow_succ] at h; omega) (by omega)
        simp only [List.length_cons]; omega
theorem le7_varF (k : Nat) : ∀ n, n < 128 ^ (k + 1) → le7 (varF k n) = n := by
  induction k with
  | zero =>
    intro n h
    simp only [varF, le7, UInt8.toNat_ofNat']
    simp at h
    omega
  | succ k ih =>
    intro n h
    rw [varF]
    by_cases hn : n < 128
    · rw [if_pos hn]; simp only [le7, UInt8.toNat_ofNat']; omega
    · rw [if_neg hn]
      simp only [le7, UInt8.toNat_ofNat']
      rw [ih (n / 128) (by rw [Nat.pow_succ] at h; omega)]
      omega
theorem varL_le7 (n : Nat) (h : n < 562949953421312) : (varL n).length ≤ 7 := varF_le 7 7 n h (by omega)
theorem varL_pos (n : Nat) : 1 ≤ (varL n).length := varF_pos 7 n
theorem le7_varL (n : Nat) (h : n < 562949953421312) : le7 (varL n) = n := le7_varF 7 n (Nat.lt_trans h (by decide))
theorem rvF_varL (n : Nat) (hn : n < 562949953421312) (t : List UInt8) (f i : Nat) (hi : i < (varL n).length) (hf : (varL n).length ≤ f + i) : rvF f (varL n ++ t) i = (n, (varL n).length) := by
  induction f generalizing i with
  | zero => omega
  | succ f ih =>
    have hlt : i < (varL n ++ t).length := by simp; omega
    have hg : (varL n ++ t)[i] = (varL n)[i] := List.getElem_append_left hi
    have hb := varL_bytes n hn i (varL n)[i] (List.getElem?_eq_getElem hi)
    by_cases hl : i + 1 = (varL n).length
    · rw [rvF_end hlt (by rw [hg]; exact hb.2 hl), hl, List.take_left, le7_varL n hn, if_pos rfl]
    · rw [rvF_more hlt (by rw [hg]; exact fun h => hl (hb.1 h)), ih (i + 1) (by omega) (by omega)]
/-- ReadVar reads what Var writes, whatever follows. -/
theorem readVar_app (n : Nat) (hn : n < 562949953421312) (t : List UInt8) : readVarS (varL n ++ t) = (n, (varL n).length) :=
  rvF_varL n hn t 7 0 (varL_pos n) (by have := varL_le7 n hn; omega)
theorem rvF_spec (l : List UInt8) (f : Nat) : ∀ i, f + i ≤ 7 → ((rvF f l i).2 = 0 ∧ (rvF f l i).1 = 0) ∨ (1 ≤ (rvF f l i).2 ∧ (rvF f l i).2 ≤ l.length ∧ (rvF f l i).2 ≤ 7 ∧ (rvF f l i).1 < 562949953421312 ∧ varL (rvF f l i).1 = l.take (rvF f l i).2) := by
  induction f with
  | zero => intro i _; exact .inl ⟨rfl, rfl⟩
  | succ f ih =>
    intro i hi
    rcases Nat.lt_or_ge i l.length with h | h
    · by_cases hb : l[i].toNat < 128
      · rw [rvF_end h hb]
        by_cases hv : varL (le7 (l.take (i + 1))) = l.take (i + 1)
        · rw [if_pos hv]
          exact .inr ⟨by simp, h, by show i + 1 ≤ 7; omega, le7_take_lt l (i + 1) (by omega), hv⟩
        · rw [if_neg hv]; exact .inl ⟨rfl, rfl⟩
      · rw [rvF_more h hb]; exact ih (i + 1) (by omega)
    · rw [rvF_none (.inr h)]; exact .inl ⟨rfl, rfl⟩
theorem readVar_spec (l : List UInt8) : ((readVarS l).2 = 0 ∧ (readVarS l).1 = 0) ∨ (1 ≤ (readVarS l).2 ∧ (readVarS l).2 ≤ l.length ∧ (readVarS l).2 ≤ 7 ∧ (readVarS l).1 < 562949953421312 ∧ varL (readVarS l).1 = l.take (readVarS l).2) :=
  rvF_spec l 7 0 (by omega)
end Go.Proofs.YtecimgkgdpnaeaaDoor

/-
  Fixed of the reference.
-/
namespace Go.Proofs.YtecimgkgdpnaeaaDoor
open Go.ChangeShapes Go.WideShapes Go.ChangeAt Go.RowKit

theorem sFixed_no (n width : Int) (w : World) (h : width < 1 ∨ 7 < width ∨ n < 0) :
    Calls Tryd.prog 115 #[.int .i64 n, .int .i64 width] w fun e w' => e = .returned (.string (S (fixedS n width))) ∧ Below w.heap.size w w' := by
  rw [fixedS_no h]
  by_cases hw : 1 ≤ width ∧ width ≤ 7
  · have hn : n < 0 := by omega
    have h1 : (decide (1 ≤ width) && decide (width ≤ 7)) = true := by simp; omega
    clear h hw
    go_enter Tryd.func115, Tryd.ntmps115
    go_wp2_with (go_at_call 58; refine (l1In_any _ _ _ _).mono ?_; rintro e w' ⟨rfl, rfl⟩)
    go_ret
    exact ⟨rfl, Below.refl _ _⟩
  · have h1 : (decide (1 ≤ width) && decide (width ≤ 7)) = false := by simp; omega
    clear h hw
    go_enter Tryd.func115, Tryd.ntmps115
    go_wp2_with (go_at_call 58; refine (l1In_any _ _ _ _).mono ?_; rintro e w' ⟨rfl, rfl⟩)
    go_ret
    exact ⟨rfl, Below.refl _ _⟩

set_option maxHeartbeats 400000 in
theorem sFixed_yes (m v : Nat) (w : World) (h1 : 1 ≤ v) (h2 : v ≤ 7) (hm : m ≤ 9223372036854775807) :
    Calls Tryd.prog 115 #[.int .i64 m, .int .i64 v] w fun e w' => e = .returned (.string (S (fixedS m v))) ∧ Below w.heap.size w w' := by
  have hw : (decide ((1 : Int) ≤ v) && decide ((v : Int) ≤ 7)) = true := by simp; omega
  have hcv := conv_one (P := Tryd.prog) 22 9 5 Tryd.underlying22 Tryd.underlying5 Tryd.underlying9
  go_enter Tryd.func115, Tryd.ntmps115
  go_wp2_with (go_at_call 58; refine (l1In_any _ _ _ _).mono ?_; rintro e w' ⟨rfl, rfl⟩)
  go_loopw [0, 5, 6] (fun n out i wr => ∃ k q : Nat, k ≤ v ∧ i = .int .i64 k ∧ out = .string (S (fixedL k m)) ∧ n = .int .i64 q ∧ Hid (q = m / 256 ^ k) ∧ Below w.heap.size w wr) (fun _ _ i _ => v - (intOf i).toNat)
  case atStart => exact ⟨0, m, by omega, rfl, rfl, rfl, by simp [Hid], Below.refl _ _⟩
  case round =>
    obtain ⟨k, q, hk, rfl, rfl, rfl, HQ, hb⟩ := hrel
    have hq : q ≤ m := by rw [HQ.out]; exact Nat.div_le_self _ _
    by_cases hlt : k < v
    · have hlen := fixedL_length k m
      go_wp2
      go_roundw
      case rel => exact ⟨k + 1, q / 256, by omega, by go_num, by rw [fixedL_succ, ← HQ.out], by go_num, by rw [Hid, HQ.out, Nat.div_div_eq_div_mul, ← Nat.pow_succ], hb.alloc hb.size _⟩
      case measure => simp [intOf]; omega
    · have hkv : Hid (k = v) := by unfold Hid; omega
      go_wp2
      · have hq0 : 0 < q := by assumption
        go_ret
        refine ⟨ret_string ?_, hb⟩
        rw [fixedS_big (by rw [← div_pow_pos, ← hkv.out, ← HQ.out]; exact hq0)]; rfl
      · have hq0 : ¬ 0 < q := by assumption
        go_ret
        refine ⟨ret_string ?_, hb⟩
        rw [hkv.out] at HQ ⊢
        rw [fixedS_yes h1 h2]
        have := HQ.out
        have h3 := (div_pow_pos (m := m) (v := v)).2
        omega
/-- The reference's Fixed, at every argument. -/
theorem sFixed_any (n width : Int) (w : World) (hn : n ≤ 9223372036854775807) :
    Calls Tryd.prog 115 #[.int .i64 n, .int .i64 width] w fun e w' => e = .returned (.string (S (fixedS n width))) ∧ Below w.heap.size w w' := by
  by_cases h : width < 1 ∨ 7 < width ∨ n < 0
  · exact sFixed_no n width w h
  · obtain ⟨m, rfl⟩ := Int.eq_ofNat_of_zero_le (a := n) (by omega)
    obtain ⟨v, rfl⟩ := Int.eq_ofNat_of_zero_le (a := width) (by omega)
    exact sFixed_yes m v w (by omega) (by omega) (by omega)
end Go.Proofs.YtecimgkgdpnaeaaDoor
