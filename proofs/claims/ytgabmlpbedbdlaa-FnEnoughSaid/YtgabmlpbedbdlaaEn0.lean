/-
  Two sets of validators that are enough have more than a third of the power in common. No program in sight.
-/
import Derived.Test.YtgabmlpbedbdlaaPow0
namespace Go.Proofs.Ytgabmlpbedbdlaa
set_option linter.unusedVariables false
set_option linter.unusedSimpArgs false

theorem pw_meet (a b : Int → Bool) (l : List ValT) : ∀ k, k ≤ l.length → pwOf a (l.take k) + pwOf b (l.take k) ≤ pwOf allIds (l.take k) + pwOf (fun x => a x && b x) (l.take k) ∨ ∃ v ∈ l, v.power < 0 := by
  intro k
  induction k with
  | zero => intro _; left; simp [pwOf]
  | succ k ih =>
    intro hk
    rcases ih (by omega) with h | h
    · by_cases hp : l[k].power < 0
      · exact .inr ⟨_, List.getElem_mem _, hp⟩
      · left
        rw [pwOf_take a l k (by omega), pwOf_take b l k (by omega), pwOf_take allIds l k (by omega), pwOf_take _ l k (by omega)]
        cases h1 : a l[k].id <;> cases h2 : b l[k].id <;> simp [h1, h2, allIds] <;> omega
    · exact .inr h
theorem pw_more (a b : Int → Bool) (hab : ∀ x, a x = true → b x = true) (l : List ValT) : ∀ k, k ≤ l.length → pwOf a (l.take k) ≤ pwOf b (l.take k) ∨ ∃ v ∈ l, v.power < 0 := by
  intro k
  induction k with
  | zero => intro _; left; simp [pwOf]
  | succ k ih =>
    intro hk
    rcases ih (by omega) with h | h
    · by_cases hp : l[k].power < 0
      · exact .inr ⟨_, List.getElem_mem _, hp⟩
      · left
        rw [pwOf_take a l k (by omega), pwOf_take b l k (by omega)]
        cases h1 : a l[k].id
        · cases h2 : b l[k].id <;> simp [h1, h2] <;> omega
        · rw [hab _ h1]; simp; omega
    · exact .inr h
/-- More than a third in common. -/
theorem enough_meet {l : List ValT} {a b : List Int} (ha : enoughB l a = true) (hb : enoughB l b = true) : powerS l < 3 * pwOf (fun x => hasB a x && hasB b x) l := by
  unfold enoughB at ha hb
  rw [Bool.and_eq_true, decide_eq_true_eq] at ha hb
  have hp := valsOk_pos ha.1
  have h := pw_meet (hasB a) (hasB b) l l.length (Nat.le_refl _)
  rw [List.take_length] at h
  unfold powerS
  rw [if_pos ha.1]
  rcases h with h | ⟨v, hv, hn⟩
  · omega
  · have := hp v hv; omega
/-- Adding some keeps a set enough. -/
theorem enough_more {l : List ValT} {a b : List Int} (ha : enoughB l a = true) : enoughB l (a ++ b) = true := by
  unfold enoughB at ha ⊢
  rw [Bool.and_eq_true, decide_eq_true_eq] at ha ⊢
  have hp := valsOk_pos ha.1
  have h := pw_more (hasB a) (hasB (a ++ b)) (fun x hx => by unfold hasB at hx ⊢; simp at hx ⊢; exact .inl hx) l l.length (Nat.le_refl _)
  rw [List.take_length] at h
  refine ⟨ha.1, ?_⟩
  rcases h with h | ⟨v, hv, hn⟩
  · omega
  · have := hp v hv; omega
end Go.Proofs.Ytgabmlpbedbdlaa
