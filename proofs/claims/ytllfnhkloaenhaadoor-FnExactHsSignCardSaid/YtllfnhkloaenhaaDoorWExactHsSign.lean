/-
  The law FnExactHsSign: the walk.
-/
import Derived.Test.YtllfnhkloaenhaaDoorHs5
namespace Go.Proofs.YtllfnhkloaenhaaDoor.fnExactHsSign
open Go.ChangeShapes Go.WideShapes Go.ChangeAt Go.RowKit
set_option linter.unusedVariables false
set_option maxRecDepth 100000

theorem walk (x : List UInt8) (v : Int) (m : List UInt8) (w : World) (hx : x.length ≤ 9223372036854775807) (hv1 : v ≤ 9223372036854775807) (hv2 : -9223372036854775808 ≤ v) (hm : m.length ≤ 9223372036854775807) (hK : HasK w) :
    Calls Tryd.prog 4 #[.string (S x), .int .i64 v, .string (S m)] w fun e w' => e = .returned (.bool true) ∧ Below w.heap.size w w' := by
  have hb := Below.refl w.heap.size w
  have HK := Lib.hid hK
  clear hK
  by_cases hxb : x.length ≤ 1048576
  · by_cases hmb : m.length ≤ 1048576
    · go_enter Tryd.func4, Tryd.ntmps4
      go_wp2_with (first | (go_at_call 7; refine (sHsSign_any _ _ _ _ (by omega) (by omega)).mono ?_; rintro e wn ⟨rfl, hbn⟩; have hb := Below.next (w := w) (by repeat (first | with_reducible exact hb | with_reducible exact Below.refl _ _ | refine Below.drew ?_ | refine Below.setCell ?_ (by simp <;> omega) _ | refine Below.alloc ?_ (by simp <;> omega) _)) hbn; clear hbn) | (go_at_call 8; refine (iHsSign_any _ _ _ _ (by omega) (by omega) (HK.out.to hb)).mono ?_; rintro e wn ⟨rfl, hbn⟩; have hb := Below.next (w := w) (by repeat (first | with_reducible exact hb | with_reducible exact Below.refl _ _ | refine Below.drew ?_ | refine Below.setCell ?_ (by simp <;> omega) _ | refine Below.alloc ?_ (by simp <;> omega) _)) hbn; clear hbn))
      go_ret
      exact ⟨rfl, hb⟩
    · go_enter Tryd.func4, Tryd.ntmps4
      go_wp2
      go_ret
      exact ⟨rfl, hb⟩
  · go_enter Tryd.func4, Tryd.ntmps4
    go_wp2
    go_ret
    exact ⟨rfl, hb⟩
end Go.Proofs.YtllfnhkloaenhaaDoor.fnExactHsSign
