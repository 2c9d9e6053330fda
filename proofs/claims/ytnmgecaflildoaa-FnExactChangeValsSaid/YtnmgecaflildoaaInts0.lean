/-
  Slices of ints in memory, as lists. No program in sight.
-/
import Derived.Test.YtnmgecaflildoaaBase
import Derived.Deep.AppendLies
namespace Go.Proofs.Ytnmgecaflildoaa
open Go.RowKit
set_option linter.unusedVariables false

def iv (x : Int) : Value := .int .i64 x
/-- A slice at A reads as these numbers, below block B. -/
def IReads (w : World) (B : Nat) (A : Option Addr) (l : List Int) : Prop :=
  0 < l.length → ∃ b off, A = some ⟨b, off, none⟩ ∧ b < B ∧ ∀ (j : Nat) (h : j < l.length), w.cell? ⟨b, off + j, none⟩ = some (.int .i64 l[j])
theorem IReads.below {w w' : World} {B B' : Nat} {A : Option Addr} {l : List Int} (h : IReads w B A l) (hb : Below B' w w') (hB : B ≤ B') : IReads w' B A l := fun hl => by
  obtain ⟨b, off, rfl, hbB, hc⟩ := h hl
  exact ⟨b, off, rfl, hbB, fun j hj => (hb.cell (p := ⟨b, _, none⟩) (by show b < B'; omega)).trans (hc j hj)⟩
theorem IReads.more {w : World} {B B' : Nat} {A : Option Addr} {l : List Int} (h : IReads w B A l) (hB : B ≤ B') : IReads w B' A l := fun hl => by
  obtain ⟨b, off, rfl, hbB, hc⟩ := h hl
  exact ⟨b, off, rfl, by omega, hc⟩
theorem IReads.to {w w' : World} {A : Option Addr} {l : List Int} (h : IReads w w.heap.size A l) (hb : Below w.heap.size w w') : IReads w' w'.heap.size A l := (h.below hb (Nat.le_refl _)).more hb.size
theorem IReads.of_own {w : World} {base : Nat} {e : TypeId} {A : Option Addr} {c : Nat} {l : List Int} (h : w.ownsRow base e 1 (.slice A l.length c) l.length (l.map iv)) : IReads w w.heap.size A l := fun hl => by
  obtain ⟨g, cap, hv, _, hlt⟩ := h.form hl
  simp only [Value.slice.injEq] at hv
  obtain ⟨rfl, _, _⟩ := hv
  refine ⟨g, 0, rfl, hlt, fun j hj => ?_⟩
  have h1 := h.cellAt j (by omega)
  rw [List.getElem?_map, List.getElem?_eq_getElem hj] at h1
  rw [Nat.zero_add]
  exact h1
end Go.Proofs.Ytnmgecaflildoaa
