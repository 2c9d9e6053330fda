/-
  The table of SHA-256's words in memory.
-/
import Derived.Test.YtnmgecaflildoaaDoorSha0
import Derived.Test.YtnmgecaflildoaaDoorNum1
namespace Go.Proofs.YtnmgecaflildoaaDoor
set_option linter.unusedVariables false
set_option linter.unusedSimpArgs false
open Go.ChangeShapes Go.WideShapes Go.ChangeAt Go.RowKit

/-- The package variable shaWords holds the table. -/
def HasK (w : World) : Prop := 0 < w.heap.size ∧ ∀ i, i < 64 → w.cell? ⟨0, i, none⟩ = some (.int .u32 (wn (kAt i)))
theorem HasK.to {w w' : World} (h : HasK w) (hb : Below w.heap.size w w') : HasK w' :=
  ⟨Nat.lt_of_lt_of_le h.1 hb.size, fun i hi => (hb.cell (p := ⟨0, i, none⟩) h.1).trans (h.2 i hi)⟩
end Go.Proofs.YtnmgecaflildoaaDoor
