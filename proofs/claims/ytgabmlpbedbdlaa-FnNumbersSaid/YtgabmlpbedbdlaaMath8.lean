/-
  Plain functions on numbers and bytes: Unhex.
-/
import Derived.Test.YtgabmlpbedbdlaaMath7
namespace Go.Proofs.Ytgabmlpbedbdlaa

/-- What a digit of sixteen stands for, or -1. -/
def hexV (b : UInt8) : Int := if 48 ≤ b.toNat ∧ b.toNat ≤ 57 then (b.toNat : Int) - 48 else if 97 ≤ b.toNat ∧ b.toNat ≤ 102 then (b.toNat : Int) - 87 else -1
theorem hexV_lo (b : UInt8) : -1 ≤ hexV b := by unfold hexV; split <;> try split
                                                all_goals omega
theorem hexV_hi (b : UInt8) : hexV b ≤ 15 := by unfold hexV; split <;> try split
                                                all_goals omega
theorem hexV_of (k : Nat) (h : k < 16) : hexV (hexD k) = k := by
  have : ∀ k : Fin 16, hexV (hexD k.1) = k.1 := by decide
  exact this ⟨k, h⟩
theorem hexD_of (b : UInt8) (h : 0 ≤ hexV b) : hexD (hexV b).toNat = b := by
  unfold hexV at h ⊢
  by_cases h1 : 48 ≤ b.toNat ∧ b.toNat ≤ 57
  · rw [if_pos h1]; unfold hexD; rw [if_pos (by omega)]
    apply UInt8.toNat.inj; simp; omega
  · rw [if_neg h1] at h ⊢
    by_cases h2 : 97 ≤ b.toNat ∧ b.toNat ≤ 102
    · rw [if_pos h2]; unfold hexD; rw [if_neg (by omega)]
      apply UInt8.toNat.inj; simp; omega
    · rw [if_neg h2] at h; omega
theorem hexV_none (b : UInt8) (h : ∀ k, k < 16 → hexD k ≠ b) : hexV b = -1 := by
  have h1 := hexV_lo b
  have h2 := hexV_hi b
  rcases Int.lt_or_le (hexV b) 0 with h3 | h3
  · omega
  · exact absurd (hexD_of b h3) (h _ (by omega))
def unhexF : List UInt8 → Option (List UInt8)
  | [] => some []
  | [_] => none
  | a :: b :: t => if hexV a < 0 ∨ hexV b < 0 then none else (unhexF t).map (UInt8.ofNat (16 * (hexV a).toNat + (hexV b).toNat) :: ·)
theorem unhexF_odd (n : Nat) : ∀ l : List UInt8, l.length ≤ n → l.length % 2 = 1 → unhexF l = none := by
  induction n with
  | zero => intro l h h2; omega
  | succ n ih =>
    intro l h h2
    match l with
    | [] => simp at h2
    | [_] => rfl
    | a :: b :: t =>
      simp only [List.length_cons] at h h2
      rw [unhexF, ih t (by omega) (by omega)]
      split <;> rfl
/-- What Unhex returns. -/
def unhexS (l : List UInt8) : List UInt8 × Bool := match unhexF l with
  | some r => (r, true)
  | none => ([], false)
theorem unhexS_none {l : List UInt8} (h : unhexF l = none) : unhexS l = ([], false) := by unfold unhexS; rw [h]
theorem unhexS_some {l r : List UInt8} (h : unhexF l = some r) : unhexS l = (r, true) := by unfold unhexS; rw [h]
/-- What is left to be read, and what has been. -/
def UnhexAt (l : List UInt8) (m : Nat) (ys : List UInt8) : Prop := m % 2 = 0 ∧ unhexF l = (unhexF (l.drop m)).map (ys ++ ·)
theorem UnhexAt.start (l : List UInt8) : UnhexAt l 0 [] := ⟨rfl, by simp⟩
theorem drop_two (l : List UInt8) (m : Nat) (h : m + 1 < l.length) : l.drop m = l[m] :: l[m + 1] :: l.drop (m + 2) := by
  rw [List.drop_eq_getElem_cons (by omega), List.drop_eq_getElem_cons (by omega)]
theorem UnhexAt.bad {l : List UInt8} {m : Nat} {ys : List UInt8} (h : UnhexAt l m ys) (hm : m + 1 < l.length) (hb : hexV l[m] < 0 ∨ hexV l[m + 1] < 0) : unhexF l = none := by
  rw [h.2, drop_two l m hm, unhexF, if_pos hb]; rfl
theorem UnhexAt.step {l : List UInt8} {m : Nat} {ys : List UInt8} (h : UnhexAt l m ys) (hm : m + 1 < l.length) (ha : 0 ≤ hexV l[m]) (hb : 0 ≤ hexV l[m + 1]) :
    UnhexAt l (m + 2) (ys ++ [UInt8.ofNat (16 * (hexV l[m]).toNat + (hexV l[m + 1]).toNat)]) := by
  refine ⟨by have := h.1; omega, ?_⟩
  rw [h.2, drop_two l m hm, unhexF, if_neg (by omega), Option.map_map]
  cases unhexF (l.drop (m + 2)) <;> simp
theorem UnhexAt.fin {l : List UInt8} {m : Nat} {ys : List UInt8} (h : UnhexAt l m ys) (hm : m = l.length) : unhexF l = some ys := by
  rw [h.2, hm, List.drop_length]; simp [unhexF]
end Go.Proofs.Ytgabmlpbedbdlaa
