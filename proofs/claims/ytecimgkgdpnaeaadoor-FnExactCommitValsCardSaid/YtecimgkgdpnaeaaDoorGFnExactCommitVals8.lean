/-
  Texts of this proof, laid into one: Math3, Math5, Math10, Mark0.
-/
import Derived.Test.YtecimgkgdpnaeaaDoorGFnExactCommitVals7
import Derived.RegionTactic
import Derived.BigRegion
import Derived.Test.YtecimgkgdpnaeaaDoorGFnExactCommitVals1
/-
  Plain functions on numbers and bytes: Var.
-/
namespace Go.Proofs.YtecimgkgdpnaeaaDoor

/-- A number in groups of seven bits, at most k + 1 of them. -/
def varF : Nat → Nat → List UInt8
  | 0, n => [UInt8.ofNat n]
  | k + 1, n => if n < 128 then [UInt8.ofNat n] else UInt8.ofNat (128 + n % 128) :: varF k (n / 128)
def varL (n : Nat) : List UInt8 := varF 7 n
theorem varF_end (k n : Nat) (h : n < 128) : varF k n = [UInt8.ofNat n] := by
  cases k <;> simp [varF, h]
theorem varF_step (k n : Nat) (h : 128 ≤ n) (hk : n < 128 ^ k) : ∃ j, k = j + 1 ∧ n / 128 < 128 ^ j ∧ varF k n = UInt8.ofNat (128 + n % 128) :: varF j (n / 128) := by
  cases k with
  | zero => simp at hk; omega
  | succ j => exact ⟨j, rfl, by rw [Nat.pow_succ] at hk; omega, by rw [varF, if_neg (by omega)]⟩
theorem varF_len (k : Nat) : ∀ n, (varF k n).length ≤ k + 1 := by
  induction k with
  | zero => intro n; simp [varF]
  | succ k ih => intro n; rw [varF]; split <;> simp; exact ih _
theorem varF_pos (k : Nat) (n : Nat) : 1 ≤ (varF k n).length := by
  cases k <;> rw [varF] <;> try split
  all_goals simp
theorem varL_len (n : Nat) : (varL n).length ≤ 8 := varF_len 7 n
/-- What Var returns. -/
def varS (n : Int) : List UInt8 := if 0 ≤ n ∧ n ≤ 562949953421311 then varL n.toNat else []
theorem varS_no {n : Int} (h : n < 0 ∨ 562949953421311 < n) : varS n = [] := by unfold varS; rw [if_neg (by omega)]
theorem varS_yes {n : Nat} (h : n ≤ 562949953421311) : varS n = varL n := by unfold varS; rw [if_pos (by omega)]; rfl
theorem varS_len (n : Int) : (varS n).length ≤ 8 := by unfold varS; split <;> simp [varL_len]
end Go.Proofs.YtecimgkgdpnaeaaDoor

/-
  Plain functions on numbers and bytes: Dec.
-/
namespace Go.Proofs.YtecimgkgdpnaeaaDoor

/-- A number's decimal digits, none for nought. -/
def decF : Nat → Nat → List UInt8
  | 0, _ => []
  | k + 1, m => if m = 0 then [] else decF k (m / 10) ++ [UInt8.ofNat (48 + m % 10)]
theorem decF_zero (k : Nat) : decF k 0 = [] := by cases k <;> simp [decF]
theorem decF_step (k m : Nat) (h : 0 < m) (hk : m < 10 ^ k) : ∃ j, k = j + 1 ∧ m / 10 < 10 ^ j ∧ decF k m = decF j (m / 10) ++ [UInt8.ofNat (48 + m % 10)] := by
  cases k with
  | zero => simp at hk; omega
  | succ j => exact ⟨j, rfl, by rw [Nat.pow_succ] at hk; omega, by rw [decF, if_neg (by omega)]⟩
theorem decF_len (k : Nat) : ∀ m, (decF k m).length ≤ k := by
  induction k with
  | zero => intro m; simp [decF]
  | succ k ih => intro m; rw [decF]; split <;> simp; exact ih _
/-- What Dec returns. -/
def decS (n : Int) : List UInt8 := if n = 0 then [48] else if n < 0 then 45 :: decF 19 n.natAbs else decF 19 n.natAbs
theorem decS_zero : decS 0 = [48] := rfl
theorem decS_pos {m : Nat} (h : 0 < m) : decS m = decF 19 m := by unfold decS; rw [if_neg (by omega), if_neg (by omega)]; rfl
theorem decS_neg {m : Nat} (h : 0 < m) : decS (-(m : Int)) = 45 :: decF 19 m := by unfold decS; rw [if_neg (by omega), if_pos (by omega)]; simp
theorem tmod_neg (q : Nat) : (-(q : Int)).tmod 10 = -((q : Int) % 10) := by
  rw [Int.neg_tmod, Int.tmod_eq_emod_of_nonneg (by omega)]
theorem tdiv_neg (q : Nat) : (-(q : Int)).tdiv 10 = -((q : Int) / 10) := by
  rw [Int.neg_tdiv, Int.tdiv_eq_ediv_of_nonneg (by omega)]
end Go.Proofs.YtecimgkgdpnaeaaDoor

/-
  Plain functions on numbers and bytes: ReadDec.
-/
namespace Go.Proofs.YtecimgkgdpnaeaaDoor
set_option linter.unusedVariables false
set_option linter.unusedSimpArgs false

def isDig (b : UInt8) : Bool := decide (48 ≤ b.toNat) && decide (b.toNat ≤ 57)
theorem isDig_iff (b : UInt8) : isDig b = true ↔ 48 ≤ b.toNat ∧ b.toNat ≤ 57 := by simp [isDig]
/-- Digits as a number. -/
def dval (l : List UInt8) : Nat := l.foldl (fun n b => 10 * n + (b.toNat - 48)) 0
theorem dval_nil : dval [] = 0 := rfl
theorem dval_snoc (l : List UInt8) (b : UInt8) : dval (l ++ [b]) = 10 * dval l + (b.toNat - 48) := by simp [dval]
theorem snoc_induct {P : List UInt8 → Prop} (h0 : P []) (h1 : ∀ l b, P l → P (l ++ [b])) (l : List UInt8) : P l := by
  rw [← List.reverse_reverse l]
  induction l.reverse with
  | nil => exact h0
  | cons b t ih => rw [List.reverse_cons]; exact h1 _ _ ih
theorem dval_any (l : List UInt8) : dval l + 23 ≤ 23 * 10 ^ l.length := by
  refine snoc_induct (P := fun l => dval l + 23 ≤ 23 * 10 ^ l.length) (by simp [dval]) (fun l b ih => ?_) l
  have := b.toNat_lt
  simp only [dval_snoc, List.length_append, List.length_singleton, Nat.pow_succ]
  omega
theorem dval_dig (l : List UInt8) : (∀ b ∈ l, isDig b = true) → dval l < 10 ^ l.length := by
  refine snoc_induct (P := fun l => (∀ b ∈ l, isDig b = true) → dval l < 10 ^ l.length) (by simp [dval]) (fun l b ih h => ?_) l
  have h1 := ih fun c hc => h c (List.mem_append_left _ hc)
  have h2 := (isDig_iff b).1 (h b (by simp))
  simp only [dval_snoc, List.length_append, List.length_singleton, Nat.pow_succ]
  omega
theorem dval_take (l : List UInt8) (k : Nat) (h : k < l.length) : dval (l.take (k + 1)) = 10 * dval (l.take k) + (l[k].toNat - 48) := by rw [take_succ_get l k h, dval_snoc]
theorem digit_of (m : Nat) : isDig (UInt8.ofNat (48 + m % 10)) = true ∧ (UInt8.ofNat (48 + m % 10)).toNat - 48 = m % 10 := by
  have : (UInt8.ofNat (48 + m % 10)).toNat = 48 + m % 10 := by rw [UInt8.toNat_ofNat']; exact Nat.mod_eq_of_lt (by omega)
  rw [isDig_iff, this]; omega
theorem decF_val (k : Nat) : ∀ m, m < 10 ^ k → (∀ b ∈ decF k m, isDig b = true) ∧ dval (decF k m) = m := by
  induction k with
  | zero => intro m h; simp at h; subst h; simp [decF, dval]
  | succ k ih =>
    intro m h
    rw [decF]
    by_cases h0 : m = 0
    · rw [if_pos h0, h0]; simp [dval]
    · rw [if_neg h0]
      obtain ⟨h1, h2⟩ := ih (m / 10) (by rw [Nat.pow_succ] at h; omega)
      obtain ⟨d1, d2⟩ := digit_of m
      refine ⟨fun b hb => ?_, by rw [dval_snoc, h2, d2]; omega⟩
      rcases List.mem_append.1 hb with hb | hb
      · exact h1 b hb
      · rw [List.mem_singleton.1 hb]; exact d1
theorem decF_short (k : Nat) : ∀ j m, m < 10 ^ j → (decF k m).length ≤ j := by
  induction k with
  | zero => intro j m h; simp [decF]
  | succ k ih =>
    intro j m h
    rw [decF]
    by_cases h0 : m = 0
    · rw [if_pos h0]; simp
    · rw [if_neg h0]
      cases j with
      | zero => simp at h; omega
      | succ j =>
        have := ih j (m / 10) (by rw [Nat.pow_succ] at h; omega)
        simp; omega
def negD (l : List UInt8) : Bool := l.head? == some 45
def atD (l : List UInt8) : Nat := if negD l then 1 else 0
def bodyD (l : List UInt8) : List UInt8 := l.drop (atD l)
def sgnD (b : Bool) (n : Nat) : Int := if b then -(n : Int) else n
def numD (l : List UInt8) : Int := sgnD (negD l) (dval (bodyD l))
/-- What ReadDec returns. -/
def readDecS (l : List UInt8) : Int × Bool := if (bodyD l).length ≤ 9 ∧ decS (numD l) = l then (numD l, true) else (0, false)
theorem decS_read (n : Int) (h : n.natAbs < 10 ^ 19) : (∀ b ∈ bodyD (decS n), isDig b = true) ∧ numD (decS n) = n ∧ (decS n).filter isDig = bodyD (decS n) ∧ (∀ j, 1 ≤ j → n.natAbs < 10 ^ j → (bodyD (decS n)).length ≤ j) ∧ 1 ≤ (bodyD (decS n)).length := by
  have f45 : isDig 45 = false := by decide
  rcases Int.lt_trichotomy n 0 with h0 | rfl | h0
  · obtain ⟨m, hm⟩ := Int.eq_ofNat_of_zero_le (a := -n) (by omega)
    obtain rfl : n = -(m : Int) := by omega
    have hm0 : 0 < m := by omega
    have e : (-(m : Int)).natAbs = m := by omega
    rw [e] at h
    obtain ⟨h1, h2⟩ := decF_val 19 m h
    have hn : negD (decS (-(m : Int))) = true := by rw [decS_neg hm0]; rfl
    have hb : bodyD (decS (-(m : Int))) = decF 19 m := by unfold bodyD atD; rw [hn, decS_neg hm0]; rfl
    refine ⟨by rw [hb]; exact h1, by unfold numD; rw [hn, hb, h2]; rfl, ?_, fun j _ hj => by rw [hb]; exact decF_short 19 j m (by omega), ?_⟩
    · rw [hb, decS_neg hm0, List.filter_cons, f45]
      exact List.filter_eq_self.2 h1
    · rw [hb]
      obtain ⟨j, _, _, e⟩ := decF_step 19 m hm0 h
      rw [e]; simp
  · exact ⟨by decide, by decide, by decide, fun j h1 _ => Nat.le_trans (Nat.le_of_eq (show (bodyD (decS 0)).length = 1 by decide)) h1, by decide⟩
  · obtain ⟨m, rfl⟩ := Int.eq_ofNat_of_zero_le (a := n) (by omega)
    have hm0 : 0 < m := by omega
    have e : ((m : Int)).natAbs = m := by omega
    rw [e] at h
    obtain ⟨h1, h2⟩ := decF_val 19 m h
    obtain ⟨j, _, _, ej⟩ := decF_step 19 m hm0 h
    have hn : negD (decS (m : Int)) = false := by
      rw [decS_pos hm0]
      have : ∀ b, (decF 19 m).head? = some b → isDig b = true := fun b hb => h1 b (List.mem_of_mem_head? hb)
      unfold negD
      rw [beq_eq_false_iff_ne]
      intro hc
      have := this _ hc
      rw [f45] at this
      cases this
    have hb : bodyD (decS (m : Int)) = decF 19 m := by unfold bodyD atD; rw [hn, decS_pos hm0]; rfl
    refine ⟨by rw [hb]; exact h1, by unfold numD; rw [hn, hb, h2]; rfl, ?_, fun j _ hj => by rw [hb]; exact decF_short 19 j m (by omega), ?_⟩
    · rw [hb, decS_pos hm0]
      exact List.filter_eq_self.2 h1
    · rw [hb, ej]; simp
theorem numD_small (l : List UInt8) (h : (bodyD l).length ≤ 9) : (numD l).natAbs < 10 ^ 11 ∧ dval (bodyD l) < 10 ^ 11 := by
  have h1 := dval_any (bodyD l)
  have h2 := Nat.pow_le_pow_right (n := 10) (by omega) h
  have e : (numD l).natAbs = dval (bodyD l) := by unfold numD sgnD; split <;> omega
  omega
theorem readDec_len {l : List UInt8} (h : (bodyD l).length = 0 ∨ 9 < (bodyD l).length) : readDecS l = (0, false) := by
  unfold readDecS
  rw [if_neg]
  rintro ⟨h1, h2⟩
  rcases h with h | h
  · have := (decS_read (numD l) (by have := (numD_small l h1).1; omega)).2.2.2.2
    rw [h2] at this
    omega
  · omega
theorem readDec_bad {l : List UInt8} (k : Nat) (hk : k < (bodyD l).length) (hb : isDig (bodyD l)[k] = false) : readDecS l = (0, false) := by
  unfold readDecS
  rw [if_neg]
  rintro ⟨h1, h2⟩
  have := (decS_read (numD l) (by have := (numD_small l h1).1; omega)).1
  rw [h2] at this
  rw [this _ (List.getElem_mem hk)] at hb
  cases hb
theorem readDec_fin {l : List UInt8} (h9 : (bodyD l).length ≤ 9) : readDecS l = if decS (numD l) = l then (numD l, true) else (0, false) := by
  unfold readDecS
  by_cases h : decS (numD l) = l
  · rw [if_pos ⟨h9, h⟩, if_pos h]
  · rw [if_neg (fun hc => h hc.2), if_neg h]
/-! What the program's loop knows. -/
def dvAt (l : List UInt8) (a k : Nat) : Nat := dval ((l.drop a).take (k - a))
theorem dvAt_start (l : List UInt8) (a : Nat) : dvAt l a a = 0 := by unfold dvAt; rw [Nat.sub_self]; rfl
theorem dvAt_step (l : List UInt8) (a k : Nat) (ha : a ≤ k) (hk : k < l.length) : dvAt l a (k + 1) = 10 * dvAt l a k + (l[k].toNat - 48) := by
  unfold dvAt
  rw [show k + 1 - a = (k - a) + 1 from by omega, dval_take _ (k - a) (by simp; omega)]
  congr 2
  rw [List.getElem_drop]
  congr 2
  omega
theorem dvAt_lt (l : List UInt8) (a k : Nat) (hk : k ≤ l.length) (h9 : l.length - a ≤ 9) : dvAt l a k ≤ 23000000000 := by
  have h1 := dval_any ((l.drop a).take (k - a))
  have h2 : ((l.drop a).take (k - a)).length ≤ 9 := by simp; omega
  have h3 := Nat.pow_le_pow_right (n := 10) (by omega) h2
  unfold dvAt
  omega
theorem dvAt_fin (l : List UInt8) (a : Nat) : dvAt l a l.length = dval (l.drop a) := by
  unfold dvAt; rw [List.take_of_length_le (by simp)]
theorem readDec_badAt {l : List UInt8} {a k : Nat} (ha : atD l = a) (hak : a ≤ k) (hk : k < l.length) (hb : isDig l[k] = false) : readDecS l = (0, false) := by
  subst ha
  refine readDec_bad (k - atD l) (by unfold bodyD; simp; omega) ?_
  unfold bodyD
  rw [List.getElem_drop]
  have e : atD l + (k - atD l) = k := by omega
  simp only [e]; exact hb
theorem readDec_lenAt {l : List UInt8} {a : Nat} (ha : atD l = a) (h : (l.length : Int) - a < 1 ∨ 9 < (l.length : Int) - a) : readDecS l = (0, false) := by
  subst ha
  refine readDec_len ?_
  unfold bodyD
  rw [List.length_drop]
  omega
theorem readDec_finAt {l : List UInt8} {a : Nat} (ha : atD l = a) (h : l.length - a ≤ 9) : readDecS l = if decS (sgnD (negD l) (dval (l.drop a))) = l then (sgnD (negD l) (dval (l.drop a)), true) else (0, false) := by
  subst ha
  exact readDec_fin (by unfold bodyD; simpa using h)
theorem atD_nil : atD [] = 0 := rfl
theorem atD_yes {l : List UInt8} (h : 0 < l.length) (hb : l[0] = 45) : atD l = 1 ∧ negD l = true := by
  cases l with
  | nil => simp at h
  | cons x t => simp at hb; subst hb; exact ⟨rfl, rfl⟩
theorem atD_no {l : List UInt8} (h : 0 < l.length) (hb : l[0] ≠ 45) : atD l = 0 ∧ negD l = false := by
  cases l with
  | nil => simp at h
  | cons x t =>
    have : negD (x :: t) = false := by unfold negD; rw [beq_eq_false_iff_ne]; intro e; simp at e; exact hb (by simpa using e)
    exact ⟨by unfold atD; rw [this]; rfl, this⟩
/-! The reference's. -/
def digsD (l : List UInt8) (k : Nat) : List UInt8 := (l.take k).filter isDig
theorem digsD_zero (l : List UInt8) : digsD l 0 = [] := rfl
theorem digsD_yes {l : List UInt8} {k : Nat} (h : k < l.length) (hd : isDig l[k] = true) : digsD l (k + 1) = digsD l k ++ [l[k]] := by
  unfold digsD; rw [take_succ_get l k h, List.filter_append]; simp [hd]
theorem digsD_no {l : List UInt8} {k : Nat} (h : k < l.length) (hd : isDig l[k] = false) : digsD l (k + 1) = digsD l k := by
  unfold digsD; rw [take_succ_get l k h, List.filter_append]; simp [hd]
theorem digsD_len (l : List UInt8) (k : Nat) : (digsD l k).length ≤ k := by
  unfold digsD; exact Nat.le_trans (List.length_filter_le _ _) (by simp; omega)
theorem digsD_lt (l : List UInt8) (k : Nat) : dval (digsD l k) < 10 ^ k := by
  have := dval_dig (digsD l k) (fun b hb => (List.mem_filter.1 hb).2)
  exact Nat.lt_of_lt_of_le this (Nat.pow_le_pow_right (by omega) (digsD_len l k))
def specD (l : List UInt8) (k : Nat) : Int := sgnD (negD l) (dval (digsD l k))
theorem readDec_spec (l : List UInt8) (k : Nat) (hk : k = l.length ∨ (k = 11 ∧ 11 ≤ l.length)) :
    readDecS l = if (digsD l k).length ≤ 9 ∧ l.length ≤ 10 ∧ decS (specD l k) = l then (specD l k, true) else (0, false) := by
  by_cases hx : ∃ n : Int, n.natAbs < 10 ^ 9 ∧ decS n = l
  · obtain ⟨n, hn, rfl⟩ := hx
    obtain ⟨h1, h2, h3, h4, h5⟩ := decS_read n (by omega)
    have h9 := h4 9 (by omega) hn
    have hl : (decS n).length ≤ 10 := by
      have : (bodyD (decS n)).length = (decS n).length - atD (decS n) := by unfold bodyD; simp
      have : atD (decS n) ≤ 1 := by unfold atD; split <;> omega
      omega
    have hd : digsD (decS n) k = bodyD (decS n) := by
      unfold digsD; rw [List.take_of_length_le (by omega), h3]
    have hs : specD (decS n) k = n := by unfold specD; rw [hd]; exact h2
    unfold readDecS
    rw [if_pos ⟨h9, by rw [h2]⟩, if_pos ⟨by rw [hd]; exact h9, hl, by rw [hs]⟩, h2, hs]
  · unfold readDecS
    rw [if_neg, if_neg]
    · rintro ⟨a, b, c⟩
      refine hx ⟨specD l k, ?_, c⟩
      have h1 := dval_dig (digsD l k) (fun b hb => (List.mem_filter.1 hb).2)
      have h2 := Nat.pow_le_pow_right (n := 10) (by omega) a
      have e : (specD l k).natAbs = dval (digsD l k) := by unfold specD sgnD; split <;> omega
      omega
    · rintro ⟨a, b⟩
      refine hx ⟨numD l, ?_, b⟩
      have hr := decS_read (numD l) (by have := (numD_small l a).1; omega)
      rw [b] at hr
      have h1 := dval_dig (bodyD l) hr.1
      have h2 := Nat.pow_le_pow_right (n := 10) (by omega) a
      have e : (numD l).natAbs = dval (bodyD l) := by unfold numD sgnD; split <;> omega
      omega
end Go.Proofs.YtecimgkgdpnaeaaDoor

/-
  The laws' markText.
-/
namespace Go.Proofs.YtecimgkgdpnaeaaDoor
open Go.ChangeShapes Go.WideShapes Go.ChangeAt Go.RowKit
set_option linter.unusedVariables false
set_option linter.unusedSimpArgs false
set_option maxRecDepth 100000

/-- A mark as a text. -/
def markT (k : Nat) : List UInt8 := 109 :: decF 19 k
theorem markText_any (k : Nat) (w : World) (h0 : 0 < k) (hk : k ≤ 8388608) :
    Calls Tryd.prog 104 #[.int .i64 k] w fun e w' => e = .returned (.string (S (markT k))) ∧ Below w.heap.size w w' := by
  have hcv := conv_one (P := Tryd.prog) 22 9 5 Tryd.underlying22 Tryd.underlying5 Tryd.underlying9
  go_enter Tryd.func104, Tryd.ntmps104
  go_wp2
  go_loopw [0, 3] (fun n out wr => ∃ (j q : Nat) (xs : List UInt8), j ≤ 19 ∧ q ≤ k ∧ xs.length + j ≤ 19 ∧ Hid (q < 10 ^ j) ∧ n = .int .i64 q ∧ out = .string (S xs) ∧ Hid (decF j q ++ xs = decF 19 k) ∧ Below w.heap.size w wr) (fun n _ _ => (intOf n).toNat)
  case atStart => exact ⟨19, k, [], by omega, by omega, by simp, by unfold Hid; omega, rfl, rfl, by simp [Hid], Below.refl _ _⟩
  case round =>
    obtain ⟨j, q, xs, hj, hqm, hxk, hqk, rfl, rfl, HX, hb⟩ := hrel
    by_cases hq : q = 0
    · subst hq
      rw [Hid, decF_zero] at HX
      have HX' := Lib.hid HX
      clear HX hqk
      go_wp2
      go_ret
      exact ⟨ret_string (by unfold markT; rw [← HX'.out]; rfl), hb⟩
    · obtain ⟨i, hi, hqj, hv⟩ := decF_step j q (by omega) hqk.out
      obtain rfl := hi
      rw [Hid, hv] at HX
      have HX' := Lib.hid HX
      have hqj' := Lib.hid hqj
      clear HX hqj hv hqk
      go_wp2
      go_roundw
      case rel => exact ⟨i, q / 10, UInt8.ofNat (48 + q % 10) :: xs, by omega, by omega, by simp; omega, hqj'.out, by go_num, by simp [UInt8.ofNat_add], by unfold Hid; rw [← HX'.out]; simp, hb.alloc hb.size _⟩
      case measure => simp [intOf]; omega
end Go.Proofs.YtecimgkgdpnaeaaDoor
