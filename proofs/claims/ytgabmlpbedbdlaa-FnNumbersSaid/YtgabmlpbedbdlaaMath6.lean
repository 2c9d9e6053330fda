/-
  A list turned round by exchanges from both ends.
-/
import Derived.Test.YtgabmlpbedbdlaaMath5
namespace Go.Proofs.Ytgabmlpbedbdlaa

/-- ys is xs with its first k and its last k exchanged. -/
def Turned (k : Nat) (xs ys : List UInt8) : Prop := ys.length = xs.length ∧ ∀ t, t < xs.length → ys[t]? = if t < k ∨ xs.length ≤ t + k then xs[xs.length - 1 - t]? else xs[t]?
theorem Turned.start (xs : List UInt8) : Turned 0 xs xs := ⟨rfl, fun t ht => by rw [if_neg (by omega)]⟩
theorem Turned.step {k : Nat} {xs ys : List UInt8} (h : Turned k xs ys) (hk : k < xs.length - 1 - k) {a b : UInt8} (ha : ys[k]? = some a) (hb : ys[xs.length - 1 - k]? = some b) :
    Turned (k + 1) xs ((ys.set k b).set (xs.length - 1 - k) a) := by
  obtain ⟨hl, ht⟩ := h
  refine ⟨by simp [hl], fun t htl => ?_⟩
  have h1 := ht k (by omega)
  have h2 := ht (xs.length - 1 - k) (by omega)
  rw [if_neg (by omega)] at h1 h2
  rw [List.getElem?_set, List.getElem?_set]
  by_cases e1 : xs.length - 1 - k = t
  · rw [if_pos e1, if_pos (by simp [hl]; omega), if_pos (by omega), show xs.length - 1 - t = k from by omega, ← h1, ha]
  · rw [if_neg e1]
    by_cases e2 : k = t
    · subst e2
      rw [if_pos rfl, if_pos (by simp [hl]; omega), if_pos (by omega), ← h2, hb]
    · rw [if_neg e2, ht t htl]
      by_cases e3 : t < k ∨ xs.length ≤ t + k
      · rw [if_pos e3, if_pos (by omega)]
      · rw [if_neg e3, if_neg (by omega)]
theorem Turned.fin {k : Nat} {xs ys : List UInt8} (h : Turned k xs ys) (hk : ¬ k < xs.length - 1 - k) : ys = xs.reverse := by
  obtain ⟨hl, ht⟩ := h
  refine List.ext_getElem? fun t => ?_
  rcases Nat.lt_or_ge t xs.length with h1 | h1
  · rw [ht t h1, List.getElem?_reverse h1]
    by_cases e3 : t < k ∨ xs.length ≤ t + k
    · rw [if_pos e3]
    · rw [if_neg e3, show xs.length - 1 - t = t from by omega]
  · rw [List.getElem?_eq_none (by omega), List.getElem?_eq_none (by simp; omega)]
/-- The same, the length by a name of its own. -/
def TurnedN (N k : Nat) (xs ys : List UInt8) : Prop := xs.length = N ∧ Turned k xs ys
theorem TurnedN.len {N k : Nat} {xs ys : List UInt8} (h : TurnedN N k xs ys) : ys.length = N := h.2.1.trans h.1
theorem TurnedN.start {N : Nat} {xs : List UInt8} (h : xs.length = N) : TurnedN N 0 xs xs := ⟨h, Turned.start xs⟩
theorem TurnedN.step {N k : Nat} {xs ys : List UInt8} (h : TurnedN N k xs ys) (hk : k < N - 1 - k) {a b : UInt8} (ha : ys[k]? = some a) (hb : ys[N - 1 - k]? = some b) :
    TurnedN N (k + 1) xs ((ys.set k b).set (N - 1 - k) a) := by
  obtain ⟨rfl, h⟩ := h
  exact ⟨rfl, h.step hk ha hb⟩
theorem TurnedN.fin {N k : Nat} {xs ys : List UInt8} (h : TurnedN N k xs ys) (hk : ¬ k < N - 1 - k) : ys = xs.reverse := by
  obtain ⟨rfl, h⟩ := h
  exact h.fin hk
end Go.Proofs.Ytgabmlpbedbdlaa
