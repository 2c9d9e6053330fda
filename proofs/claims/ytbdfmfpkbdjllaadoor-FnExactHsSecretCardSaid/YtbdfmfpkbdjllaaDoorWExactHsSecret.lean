/-
  The law FnExactHsSecret: the walk.
-/
import Derived.Test.YtbdfmfpkbdjllaaDoorHs1
namespace Go.Proofs.YtbdfmfpkbdjllaaDoor.fnExactHsSecret
open Go.ChangeShapes Go.WideShapes Go.ChangeAt Go.RowKit
set_option linter.unusedVariables false
set_option maxRecDepth 100000

theorem walk (x : List UInt8) (c : Int) (st : Int) (w : World) (hx : x.length ≤ 9223372036854775807) (hc1 : c ≤ 9223372036854775807) (hc2 : -9223372036854775808 ≤ c) (hst1 : st ≤ 9223372036854775807) (hst2 : -9223372036854775808 ≤ st) (hK : HasK w) :
    Calls Tryd.prog 8 #[.string (S x), .int .i64 c, .int .i64 st] w fun e w' => e = .returned (.bool true) ∧ Below w.heap.size w w' := by
  have hb := Below.refl w.heap.size w
  have HK := Lib.hid hK
  clear hK
  by_cases hxb : x.length ≤ 1048576
  · go_enter Tryd.func8, Tryd.ntmps8
    go_wp2_with (first | (go_at_call 21; refine (sHsSecret_any _ _ _ _ (by omega)).mono ?_; rintro e wn ⟨rfl, hbn⟩; have hb := Below.next (w := w) (by repeat (first | with_reducible exact hb | with_reducible exact Below.refl _ _ | refine Below.drew ?_ | refine Below.setCell ?_ (by simp <;> omega) _ | refine Below.alloc ?_ (by simp <;> omega) _)) hbn; clear hbn) | (go_at_call 22; refine (iHsSecret_any _ _ _ _ (by omega) (HK.out.to hb)).mono ?_; rintro e wn ⟨rfl, hbn⟩; have hb := Below.next (w := w) (by repeat (first | with_reducible exact hb | with_reducible exact Below.refl _ _ | refine Below.drew ?_ | refine Below.setCell ?_ (by simp <;> omega) _ | refine Below.alloc ?_ (by simp <;> omega) _)) hbn; clear hbn))
    go_ret
    exact ⟨rfl, hb⟩
  · go_enter Tryd.func8, Tryd.ntmps8
    go_wp2
    go_ret
    exact ⟨rfl, hb⟩
end Go.Proofs.YtbdfmfpkbdjllaaDoor.fnExactHsSecret
