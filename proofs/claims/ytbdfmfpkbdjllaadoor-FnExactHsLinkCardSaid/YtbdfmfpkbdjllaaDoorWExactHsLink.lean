/-
  The law FnExactHsLink: the walk.
-/
import Derived.Test.YtbdfmfpkbdjllaaDoorHs1
namespace Go.Proofs.YtbdfmfpkbdjllaaDoor.fnExactHsLink
open Go.ChangeShapes Go.WideShapes Go.ChangeAt Go.RowKit
set_option linter.unusedVariables false
set_option maxRecDepth 100000

theorem walk (c : Int) (st : Int) (x : List UInt8) (w : World) (hc1 : c ≤ 9223372036854775807) (hc2 : -9223372036854775808 ≤ c) (hst1 : st ≤ 9223372036854775807) (hst2 : -9223372036854775808 ≤ st) (hx : x.length ≤ 9223372036854775807) (hK : HasK w) :
    Calls Tryd.prog 7 #[.int .i64 c, .int .i64 st, .string (S x)] w fun e w' => e = .returned (.bool true) ∧ Below w.heap.size w w' := by
  have hb := Below.refl w.heap.size w
  have HK := Lib.hid hK
  clear hK
  by_cases hxb : x.length ≤ 1048576
  · go_enter Tryd.func7, Tryd.ntmps7
    go_wp2_with (first | (go_at_call 19; refine (sHsLink_any _ _ _ _ (by omega)).mono ?_; rintro e wn ⟨rfl, hbn⟩; have hb := Below.next (w := w) (by repeat (first | with_reducible exact hb | with_reducible exact Below.refl _ _ | refine Below.drew ?_ | refine Below.setCell ?_ (by simp <;> omega) _ | refine Below.alloc ?_ (by simp <;> omega) _)) hbn; clear hbn) | (go_at_call 20; refine (iHsLink_any _ _ _ _ (by omega) (HK.out.to hb)).mono ?_; rintro e wn ⟨rfl, hbn⟩; have hb := Below.next (w := w) (by repeat (first | with_reducible exact hb | with_reducible exact Below.refl _ _ | refine Below.drew ?_ | refine Below.setCell ?_ (by simp <;> omega) _ | refine Below.alloc ?_ (by simp <;> omega) _)) hbn; clear hbn))
    go_ret
    exact ⟨rfl, hb⟩
  · go_enter Tryd.func7, Tryd.ntmps7
    go_wp2
    go_ret
    exact ⟨rfl, hb⟩
end Go.Proofs.YtbdfmfpkbdjllaaDoor.fnExactHsLink
