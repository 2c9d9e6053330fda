/-
  Parts of slices of texts. No program in sight.
-/
import Derived.Test.YtnmgecaflildoaaDoorStr0
namespace Go.Proofs.YtnmgecaflildoaaDoor
open Go.RowKit
set_option linter.unusedVariables false

theorem TReads.take {w : World} {B : Nat} {A : Option Addr} {l : List (List UInt8)} (h : TReads w B A l) (k : Nat) : TReads w B A (l.take k) := fun hl => by
  have hl' : 0 < l.length := by rw [List.length_take] at hl; omega
  obtain ⟨b, off, rfl, hb, hc⟩ := h hl'
  exact ⟨b, off, rfl, hb, fun j hj => by rw [List.getElem_take]; exact hc j (by rw [List.length_take] at hj; omega)⟩
theorem TReads.drop {w : World} {B b off : Nat} {l : List (List UInt8)} (h : TReads w B (some ⟨b, off, none⟩) l) (k : Nat) : TReads w B (some ⟨b, off + k, none⟩) (l.drop k) := fun hl => by
  have hl' : 0 < l.length := by rw [List.length_drop] at hl; omega
  obtain ⟨b', off', e, hb, hc⟩ := h hl'
  cases e
  exact ⟨b, off + k, rfl, hb, fun j hj => by rw [List.getElem_drop, Nat.add_assoc]; exact hc (k + j) (by rw [List.length_drop] at hj; omega)⟩
theorem TReads.nil {w : World} {B : Nat} {A : Option Addr} : TReads w B A [] := fun h => absurd h (by simp)
theorem own_tv {w : World} {base : Nat} {e : TypeId} {n : Nat} {v : Value} {l : List (List UInt8)} (h : w.ownsRow base e 1 v n (l.map tv)) : n = l.length := by
  have := h.1
  simpa using this.symm
end Go.Proofs.YtnmgecaflildoaaDoor
