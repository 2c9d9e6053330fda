/-
  The law FnExactNodeHash: the walk.
-/
import Derived.Test.YtbdfmfpkbdjllaaDoorLeaf1
namespace Go.Proofs.YtbdfmfpkbdjllaaDoor.fnExactNodeHash
open Go.ChangeShapes Go.WideShapes Go.ChangeAt Go.RowKit
set_option linter.unusedVariables false
set_option maxRecDepth 100000

theorem walk (a : List UInt8) (b : List UInt8) (w : World) (ha : a.length ≤ 9223372036854775807) (hb' : b.length ≤ 9223372036854775807) (hK : HasK w) :
    Calls Tryd.prog 5 #[.string (S a), .string (S b)] w fun e w' => e = .returned (.bool true) ∧ Below w.heap.size w w' := by
  have hb := Below.refl w.heap.size w
  have HK := Lib.hid hK
  clear hK
  by_cases h : a.length ≤ 1048576
  · by_cases h2 : b.length ≤ 1048576
    · go_enter Tryd.func5, Tryd.ntmps5
      go_wp2_with (first | (go_at_call 15; refine (sNodeHash_any _ _ _ (by omega)).mono ?_; rintro e wn ⟨rfl, hbn⟩; have hb := Below.next (w := w) (by repeat (first | with_reducible exact hb | with_reducible exact Below.refl _ _ | refine Below.drew ?_ | refine Below.setCell ?_ (by simp <;> omega) _ | refine Below.alloc ?_ (by simp <;> omega) _)) hbn; clear hbn) | (go_at_call 16; refine (iNodeHash_any _ _ _ (by omega) (HK.out.to hb)).mono ?_; rintro e wn ⟨rfl, hbn⟩; have hb := Below.next (w := w) (by repeat (first | with_reducible exact hb | with_reducible exact Below.refl _ _ | refine Below.drew ?_ | refine Below.setCell ?_ (by simp <;> omega) _ | refine Below.alloc ?_ (by simp <;> omega) _)) hbn; clear hbn))
      go_ret
      exact ⟨rfl, hb⟩
    · go_enter Tryd.func5, Tryd.ntmps5
      go_wp2
      go_ret
      exact ⟨rfl, hb⟩
  · go_enter Tryd.func5, Tryd.ntmps5
    go_wp2
    go_ret
    exact ⟨rfl, hb⟩
end Go.Proofs.YtbdfmfpkbdjllaaDoor.fnExactNodeHash
