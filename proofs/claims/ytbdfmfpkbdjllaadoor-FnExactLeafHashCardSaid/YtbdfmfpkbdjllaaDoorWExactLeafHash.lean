/-
  The law FnExactLeafHash: the walk.
-/
import Derived.Test.YtbdfmfpkbdjllaaDoorLeaf1
namespace Go.Proofs.YtbdfmfpkbdjllaaDoor.fnExactLeafHash
open Go.ChangeShapes Go.WideShapes Go.ChangeAt Go.RowKit
set_option linter.unusedVariables false
set_option maxRecDepth 100000

theorem walk (l : List UInt8) (w : World) (hl : l.length ≤ 9223372036854775807) (hK : HasK w) :
    Calls Tryd.prog 4 #[.string (S l)] w fun e w' => e = .returned (.bool true) ∧ Below w.heap.size w w' := by
  have hb := Below.refl w.heap.size w
  have HK := Lib.hid hK
  clear hK
  by_cases h : l.length ≤ 1048576
  · go_enter Tryd.func4, Tryd.ntmps4
    go_wp2_with (first | (go_at_call 13; refine (sLeafHash_any _ _ (by omega)).mono ?_; rintro e wn ⟨rfl, hbn⟩; have hb := Below.next (w := w) (by repeat (first | with_reducible exact hb | with_reducible exact Below.refl _ _ | refine Below.drew ?_ | refine Below.setCell ?_ (by simp <;> omega) _ | refine Below.alloc ?_ (by simp <;> omega) _)) hbn; clear hbn) | (go_at_call 14; refine (iLeafHash_any _ _ (by omega) (HK.out.to hb)).mono ?_; rintro e wn ⟨rfl, hbn⟩; have hb := Below.next (w := w) (by repeat (first | with_reducible exact hb | with_reducible exact Below.refl _ _ | refine Below.drew ?_ | refine Below.setCell ?_ (by simp <;> omega) _ | refine Below.alloc ?_ (by simp <;> omega) _)) hbn; clear hbn))
    go_ret
    exact ⟨rfl, hb⟩
  · go_enter Tryd.func4, Tryd.ntmps4
    go_wp2
    go_ret
    exact ⟨rfl, hb⟩
end Go.Proofs.YtbdfmfpkbdjllaaDoor.fnExactLeafHash
