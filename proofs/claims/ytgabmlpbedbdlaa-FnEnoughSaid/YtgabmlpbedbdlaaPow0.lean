/-
  Power, plain.
-/
import Derived.Test.YtgabmlpbedbdlaaVal0
namespace Go.Proofs.Ytgabmlpbedbdlaa
set_option linter.unusedVariables false

/-- The power of those of whom f holds. -/
def pwOf (f : Int → Bool) (l : List ValT) : Int := l.foldl (fun n v => if f v.id then n + v.power else n) 0
theorem pwOf_snoc (f : Int → Bool) (l : List ValT) (v : ValT) : pwOf f (l ++ [v]) = if f v.id then pwOf f l + v.power else pwOf f l := by
  unfold pwOf; rw [List.foldl_append]; rfl
theorem pwOf_take (f : Int → Bool) (l : List ValT) (k : Nat) (h : k < l.length) : pwOf f (l.take (k + 1)) = if f l[k].id then pwOf f (l.take k) + l[k].power else pwOf f (l.take k) := by
  rw [List.take_succ_eq_append_getElem h, pwOf_snoc]
theorem ascOk_pos (l : List ValT) : ∀ p, ascOk p l = true → ∀ v ∈ l, 1 ≤ v.power ∧ v.power ≤ 1000 ∧ 1 ≤ v.id ∧ v.id ≤ 99 := by
  induction l with
  | nil => intro p _ v hv; cases hv
  | cons x t ih =>
    intro p h v hv
    rw [ascOk, Bool.and_eq_true, Bool.and_eq_true, valOk1, Bool.and_eq_true] at h
    rcases List.mem_cons.1 hv with rfl | hv
    · have h1 := inB_true h.1.1
      have h2 := inB_true h.1.2
      exact ⟨h2.1, h2.2, h1.1, h1.2⟩
    · exact ih _ h.2.2 v hv
theorem valsOk_pos {l : List ValT} (h : valsOkB l = true) : ∀ v ∈ l, 1 ≤ v.power ∧ v.power ≤ 1000 ∧ 1 ≤ v.id ∧ v.id ≤ 99 := by
  rw [valsOkB, Bool.and_eq_true] at h
  exact ascOk_pos l 0 h.2
theorem pwOf_bound (f : Int → Bool) (l : List ValT) (h : ∀ v ∈ l, 1 ≤ v.power ∧ v.power ≤ 1000 ∧ 1 ≤ v.id ∧ v.id ≤ 99) : ∀ k, k ≤ l.length → 0 ≤ pwOf f (l.take k) ∧ pwOf f (l.take k) ≤ 1000 * k := by
  intro k
  induction k with
  | zero => intro _; simp [pwOf]
  | succ k ih =>
    intro hk
    have h1 := ih (by omega)
    have h2 := h l[k] (List.getElem_mem _)
    rw [pwOf_take f l k (by omega)]
    split <;> omega
theorem valsOk_bound {l : List ValT} (f : Int → Bool) (h : valsOkB l = true) : 0 ≤ pwOf f l ∧ pwOf f l ≤ 7000 := by
  have h1 := pwOf_bound f l (valsOk_pos h) l.length (Nat.le_refl _)
  rw [List.take_length] at h1
  have := valsOk_len h
  omega
def allIds (_ : Int) : Bool := true
def hasB (ids : List Int) (x : Int) : Bool := ids.contains x
/-- What PowerOf returns. -/
def powerS (l : List ValT) : Int := if valsOkB l then pwOf allIds l else 0
/-- What Enough returns. -/
def enoughB (l : List ValT) (ids : List Int) : Bool := valsOkB l && decide (2 * pwOf allIds l < 3 * pwOf (hasB ids) l)
end Go.Proofs.Ytgabmlpbedbdlaa
