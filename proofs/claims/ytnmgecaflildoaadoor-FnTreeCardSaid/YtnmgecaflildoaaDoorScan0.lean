/-
  Reading numbers and texts one behind the other, plain; what ReadHeader and ReadVals return.
-/
import Derived.Test.YtnmgecaflildoaaDoorShow0
import Derived.Test.YtnmgecaflildoaaDoorMath11
namespace Go.Proofs.YtnmgecaflildoaaDoor
set_option linter.unusedVariables false
set_option linter.unusedSimpArgs false

/-- What is left to be read, and whether something did not stand there. -/
abbrev Sc := List UInt8 × Bool
def numP (s : Sc) : Nat × Sc := if s.2 = true ∨ (readVarS s.1).2 = 0 then (0, (s.1, true)) else ((readVarS s.1).1, (s.1.drop (readVarS s.1).2, false))
def cutP (s : Sc) (n : Int) : List UInt8 × Sc := if s.2 = true ∨ n < 0 ∨ (s.1.length : Int) < n then ([], (s.1, true)) else (s.1.take n.toNat, (s.1.drop n.toNat, false))
def textP (s : Sc) : List UInt8 × Sc := cutP (numP s).2 (numP s).1
theorem numP_bad (r : List UInt8) : numP (r, true) = (0, (r, true)) := by unfold numP; rw [if_pos (.inl rfl)]
theorem cutP_bad (r : List UInt8) (n : Int) : cutP (r, true) n = ([], (r, true)) := by unfold cutP; rw [if_pos (.inl rfl)]
theorem textP_bad (r : List UInt8) : textP (r, true) = ([], (r, true)) := by unfold textP; rw [numP_bad, cutP_bad]
theorem numP_none {r : List UInt8} (h : (readVarS r).2 = 0) : numP (r, false) = (0, (r, true)) := by unfold numP; rw [if_pos (.inr h)]
theorem numP_some {r : List UInt8} (h : (readVarS r).2 ≠ 0) : numP (r, false) = ((readVarS r).1, (r.drop (readVarS r).2, false)) := by unfold numP; rw [if_neg (by simpa using h)]
theorem cutP_no {r : List UInt8} {n : Int} (h : n < 0 ∨ (r.length : Int) < n) : cutP (r, false) n = ([], (r, true)) := by unfold cutP; rw [if_pos (.inr h)]
theorem cutP_yes {r : List UInt8} {n : Nat} (h : n ≤ r.length) : cutP (r, false) n = (r.take n, (r.drop n, false)) := by
  unfold cutP; rw [if_neg (by simp; omega)]; simp
theorem numP_len (s : Sc) : (numP s).2.1.length ≤ s.1.length := by
  unfold numP; split
  · exact Nat.le_refl _
  · simp
theorem cutP_len (s : Sc) (n : Int) : (cutP s n).2.1.length ≤ s.1.length ∧ (cutP s n).1.length ≤ s.1.length := by
  unfold cutP; split
  · exact ⟨Nat.le_refl _, by simp⟩
  · exact ⟨by simp, by simp; omega⟩
theorem textP_len (s : Sc) : (textP s).2.1.length ≤ s.1.length ∧ (textP s).1.length ≤ s.1.length := by
  have h1 := numP_len s
  have h2 := cutP_len (numP s).2 (numP s).1
  unfold textP; omega
theorem numP_lt (s : Sc) : (numP s).1 < 562949953421312 := by
  unfold numP; split
  · show 0 < 562949953421312; omega
  · rcases readVar_spec s.1 with h | h
    · rw [h.2]; omega
    · exact h.2.2.2.1
/-- Nothing to be read: no number stands there. -/
theorem numP_nil : (numP ([], false)).2.2 = true := rfl
theorem numP_app {n : Int} (h0 : 0 ≤ n) (h1 : n ≤ 562949953421311) (t : List UInt8) : numP (varS n ++ t, false) = (n.toNat, (t, false)) := by
  obtain ⟨m, rfl⟩ := Int.eq_ofNat_of_zero_le h0
  have h := readVar_app m (by omega) t
  have hp := varL_pos m
  rw [varS_yes (by omega), numP_some (by rw [h]; show (varL m).length ≠ 0; omega), h]
  simp
theorem textP_app {x : List UInt8} (h : x.length ≤ 562949953421311) (t : List UInt8) : textP (sizedS x ++ t, false) = (x, (t, false)) := by
  unfold textP sizedS
  rw [List.append_assoc, numP_app (by omega) (by omega)]
  show cutP (x ++ t, false) ((x.length : Int).toNat) = _
  rw [Int.toNat_natCast, cutP_yes (by simp)]
  simp
/-- If it has gone wrong it stays wrong. -/
theorem numP_stay {s : Sc} (h : s.2 = true) : (numP s).2.2 = true := by obtain ⟨r, b⟩ := s; subst h; rw [numP_bad]
theorem textP_stay {s : Sc} (h : s.2 = true) : (textP s).2.2 = true := by obtain ⟨r, b⟩ := s; subst h; rw [textP_bad]
theorem good_num {s : Sc} (h : (numP s).2.2 = false) : s.2 = false := by
  cases hs : s.2
  · rfl
  · rw [numP_stay hs] at h; cases h
theorem good_text {s : Sc} (h : (textP s).2.2 = false) : s.2 = false := by
  cases hs : s.2
  · rfl
  · rw [textP_stay hs] at h; cases h

/-! Headers. -/
def headP (l : List UInt8) : HeadT × Sc :=
  (⟨(numP (l, false)).1, (numP (numP (l, false)).2).1, (textP (numP (numP (l, false)).2).2).1, (textP (textP (numP (numP (l, false)).2).2).2).1,
    (textP (textP (textP (numP (numP (l, false)).2).2).2).2).1, (textP (textP (textP (textP (numP (numP (l, false)).2).2).2).2).2).1⟩,
   (textP (textP (textP (textP (numP (numP (l, false)).2).2).2).2).2).2)
theorem headOk_parts {x : HeadT} (h : headOkB x = true) : (1 ≤ x.h ∧ x.h ≤ 1000000) ∧ (0 ≤ x.t ∧ x.t ≤ 1000000) ∧ x.last.length ≤ 8 ∧ x.vals.length ≤ 8 ∧ x.next.length ≤ 8 ∧ x.data.length ≤ 20 := by
  unfold headOkB at h
  simp only [Bool.and_eq_true, beq_iff_eq, decide_eq_true_eq] at h
  obtain ⟨⟨⟨⟨⟨h1, h2⟩, a⟩, b⟩, c⟩, d⟩ := h
  exact ⟨inB_true h1, inB_true h2, by rw [c]; split <;> omega, by omega, by omega, d⟩
theorem headP_show {x : HeadT} (h : headOkB x = true) : headP (showHeadS x) = (x, ([], false)) := by
  obtain ⟨⟨h1, h2⟩, ⟨h3, h4⟩, l1, l2, l3, l4⟩ := headOk_parts h
  have e : showHeadS x = varS x.h ++ (varS x.t ++ (sizedS x.last ++ (sizedS x.vals ++ (sizedS x.next ++ (sizedS x.data ++ []))))) := by
    unfold showHeadS; rw [if_pos h]; simp
  unfold headP
  rw [e]
  rw [numP_app (by omega) (by omega)]
  rw [numP_app (by omega) (by omega)]
  rw [textP_app (by omega)]
  rw [textP_app (by omega)]
  rw [textP_app (by omega)]
  rw [textP_app (by omega)]
  obtain ⟨h, t, a, b, c, d⟩ := x
  simp only [HeadT.mk.injEq, Prod.mk.injEq, and_true]
  simp only at h1 h3
  exact ⟨by omega, by omega⟩
def zeroHead : HeadT := ⟨0, 0, [], [], [], []⟩
/-- What ReadHeader returns. -/
def readHeadS (l : List UInt8) : HeadT × Bool := if (headP l).2.2 = false ∧ showHeadS (headP l).1 = l ∧ l ≠ [] then ((headP l).1, true) else (zeroHead, false)
theorem showHead_ne {x : HeadT} (h : showHeadS x ≠ []) : headOkB x = true := by
  unfold showHeadS at h
  cases hx : headOkB x
  · rw [hx] at h; exact absurd rfl h
  · rfl
theorem headP_good {l : List UInt8} (h : (headP l).2.2 = false) : (numP (numP (l, false)).2).2.2 = false ∧ l ≠ [] := by
  have h2 := good_text (good_text (good_text (good_text h)))
  refine ⟨h2, fun e => ?_⟩
  subst e
  have h1 := good_num h2
  rw [numP_nil] at h1
  cases h1
/-- The reference asks that all has been read. -/
theorem readHead_spec (l : List UInt8) : readHeadS l = if (headP l).2.2 = false ∧ (headP l).2.1 = [] ∧ showHeadS (headP l).1 = l then ((headP l).1, true) else (zeroHead, false) := by
  unfold readHeadS
  by_cases h : (headP l).2.2 = false ∧ showHeadS (headP l).1 = l
  · obtain ⟨h1, h2⟩ := h
    have hl := (headP_good h1).2
    have hok := showHead_ne (x := (headP l).1) (by rw [h2]; exact hl)
    have hp := headP_show hok
    rw [h2] at hp
    rw [if_pos ⟨h1, h2, hl⟩, if_pos ⟨h1, by rw [hp], h2⟩]
  · rw [if_neg (fun hc => h ⟨hc.1, hc.2.1⟩), if_neg (fun hc => h ⟨hc.1, hc.2.2⟩)]
theorem readHead_show {x : HeadT} (h : headOkB x = true) : readHeadS (showHeadS x) = (x, true) := by
  have hp := headP_show h
  have hne : showHeadS x ≠ [] := fun e => by rw [e] at hp; have h3 : (headP []).2.2 = true := rfl; rw [hp] at h3; cases h3
  unfold readHeadS
  rw [if_pos ⟨by rw [hp], by rw [hp], hne⟩, hp]

/-! Validators. -/
def valsAt (s : Sc) : Nat → List ValT × Sc
  | 0 => ([], s)
  | i + 1 => ((valsAt s i).1 ++ [⟨(numP (valsAt s i).2).1, (numP (numP (valsAt s i).2).2).1⟩], (numP (numP (valsAt s i).2).2).2)
theorem valsAt_len (s : Sc) (i : Nat) : (valsAt s i).1.length = i ∧ (valsAt s i).2.1.length ≤ s.1.length := by
  induction i with
  | zero => exact ⟨rfl, Nat.le_refl _⟩
  | succ i ih =>
    have h1 := numP_len (valsAt s i).2
    have h2 := numP_len (numP (valsAt s i).2).2
    simp only [valsAt, List.length_append, List.length_singleton]
    omega
theorem valsAt_good {s : Sc} {i j : Nat} (h : (valsAt s i).2.2 = true) (hij : i ≤ j) : (valsAt s j).2.2 = true := by
  induction j with
  | zero => obtain rfl : i = 0 := by omega
            exact h
  | succ j ih =>
    rcases Nat.lt_or_ge j i with h1 | h1
    · obtain rfl : i = j + 1 := by omega
      exact h
    · exact numP_stay (numP_stay (ih h1))
theorem valsAt_show (vs : List ValT) (hv : ∀ v ∈ vs, (0 ≤ v.id ∧ v.id ≤ 562949953421311) ∧ (0 ≤ v.power ∧ v.power ≤ 562949953421311)) (t : List UInt8) :
    ∀ i, i ≤ vs.length → valsAt (vs.flatMap showVal ++ t, false) i = (vs.take i, ((vs.drop i).flatMap showVal ++ t, false)) := by
  intro i
  induction i with
  | zero => intro _; rfl
  | succ i ih =>
    intro hi
    obtain ⟨⟨a0, a1⟩, b0, b1⟩ := hv vs[i] (List.getElem_mem (by omega))
    rw [valsAt, ih (by omega), List.drop_eq_getElem_cons (show i < vs.length by omega), List.flatMap_cons]
    unfold showVal
    rw [List.append_assoc, List.append_assoc, numP_app a0 a1, numP_app b0 b1, List.take_succ_eq_append_getElem (show i < vs.length by omega)]
    simp only [Prod.mk.injEq, and_true, List.append_cancel_left_eq, List.cons.injEq]
    obtain ⟨x, y⟩ : ∃ v, v = vs[i] := ⟨_, rfl⟩
    have e : ∀ v : ValT, 0 ≤ v.id → 0 ≤ v.power → (⟨(v.id.toNat : Int), (v.power.toNat : Int)⟩ : ValT) = v := fun v h1 h2 => by
      obtain ⟨p, q⟩ := v; simp only at h1 h2; rw [Int.toNat_of_nonneg h1, Int.toNat_of_nonneg h2]
    exact e _ a0 b0
def valsP (l : List UInt8) : List ValT × Sc := valsAt (numP (l, false)).2 (numP (l, false)).1
/-- What ReadVals returns. -/
def readValsS (l : List UInt8) : List ValT × Bool := if (numP (l, false)).1 ≤ 7 ∧ (valsP l).2.2 = false ∧ showValsS (valsP l).1 = l then ((valsP l).1, true) else ([], false)
theorem showVals_ne {x : List ValT} (h : showValsS x ≠ []) : valsOkB x = true := by
  unfold showValsS at h
  cases hx : valsOkB x
  · rw [hx] at h; exact absurd rfl h
  · rfl
theorem valsP_ne {l : List UInt8} (h : (valsP l).2.2 = false) : l ≠ [] := by
  rintro rfl
  have : (valsP []).2.2 = true := valsAt_good (i := 0) (j := (numP ([], false)).1) numP_nil (by omega)
  rw [this] at h; cases h
theorem ascOk_all : ∀ (l : List ValT) (p : Int), ascOk p l = true → ∀ v ∈ l, valOk1 v = true := by
  intro l
  induction l with
  | nil => intro p _ v hv; simp at hv
  | cons x t ih =>
    intro p h v hv
    simp only [ascOk, Bool.and_eq_true] at h
    rcases List.mem_cons.1 hv with rfl | hv
    · exact h.1
    · exact ih _ h.2.2 v hv
theorem readVals_show {x : List ValT} (h : valsOkB x = true) : readValsS (showValsS x) = (x, true) := by
  obtain ⟨n1, n7⟩ := valsOk_len h
  have hall : ∀ v ∈ x, (0 ≤ v.id ∧ v.id ≤ 562949953421311) ∧ (0 ≤ v.power ∧ v.power ≤ 562949953421311) := fun v hv => by
    have := ascOk_all x 0 (by unfold valsOkB at h; simp only [Bool.and_eq_true] at h; exact h.2) v hv
    unfold valOk1 at this
    simp only [Bool.and_eq_true] at this
    have h1 := inB_true this.1
    have h2 := inB_true this.2
    omega
  have e : showValsS x = varS (x.length : Int) ++ (x.flatMap showVal ++ []) := by unfold showValsS; rw [if_pos h]; simp
  have e1 : numP (showValsS x, false) = (x.length, (x.flatMap showVal ++ [], false)) := by rw [e, numP_app (by omega) (by omega)]; rfl
  have e2 : valsP (showValsS x) = (x, ([], false)) := by
    unfold valsP
    rw [e1]
    show valsAt (x.flatMap showVal ++ [], false) x.length = _
    rw [valsAt_show x hall [] x.length (Nat.le_refl _)]
    simp
  unfold readValsS
  rw [if_pos ⟨by rw [e1]; exact n7, by rw [e2], by rw [e2]⟩, e2]
end Go.Proofs.YtnmgecaflildoaaDoor
