/-
  The law FnExactHsCheck: the walk.
-/
import Derived.Test.YtllfnhkloaenhaaDoorHs6
namespace Go.Proofs.YtllfnhkloaenhaaDoor.fnExactHsCheck
open Go.ChangeShapes Go.WideShapes Go.ChangeAt Go.RowKit
set_option linter.unusedVariables false
set_option maxRecDepth 100000

theorem walk (r : List UInt8) (m : List UInt8) (g : List UInt8) (w : World) (hr : r.length ≤ 9223372036854775807) (hm : m.length ≤ 9223372036854775807) (hg : g.length ≤ 9223372036854775807) (hK : HasK w) :
    Calls Tryd.prog 3 #[.string (S r), .string (S m), .string (S g)] w fun e w' => e = .returned (.bool true) ∧ Below w.heap.size w w' := by
  have hb := Below.refl w.heap.size w
  have HK := Lib.hid hK
  clear hK
  by_cases hrb : r.length ≤ 1048576
  · by_cases hmb : m.length ≤ 1048576
    · by_cases hgb : g.length ≤ 1048576
      · go_enter Tryd.func3, Tryd.ntmps3
        go_wp2_with (first | (go_at_call 5; refine (sHsCheck_any _ _ _ _ (by omega) (by omega)).mono ?_; rintro e wn ⟨rfl, hbn⟩; have hb := Below.next (w := w) (by repeat (first | with_reducible exact hb | with_reducible exact Below.refl _ _ | refine Below.drew ?_ | refine Below.setCell ?_ (by simp <;> omega) _ | refine Below.alloc ?_ (by simp <;> omega) _)) hbn; clear hbn) | (go_at_call 6; refine (iHsCheck_any _ _ _ _ (by omega) (by omega) (HK.out.to hb)).mono ?_; rintro e wn ⟨rfl, hbn⟩; have hb := Below.next (w := w) (by repeat (first | with_reducible exact hb | with_reducible exact Below.refl _ _ | refine Below.drew ?_ | refine Below.setCell ?_ (by simp <;> omega) _ | refine Below.alloc ?_ (by simp <;> omega) _)) hbn; clear hbn))
        go_ret
        exact ⟨rfl, hb⟩
      · go_enter Tryd.func3, Tryd.ntmps3
        go_wp2
        go_ret
        exact ⟨rfl, hb⟩
    · go_enter Tryd.func3, Tryd.ntmps3
      go_wp2
      go_ret
      exact ⟨rfl, hb⟩
  · go_enter Tryd.func3, Tryd.ntmps3
    go_wp2
    go_ret
    exact ⟨rfl, hb⟩
end Go.Proofs.YtllfnhkloaenhaaDoor.fnExactHsCheck
