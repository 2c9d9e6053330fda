/-
  The law FnExactValsHash: the walk.
-/
import Derived.Test.YtepfjacpfbdkeaaDoorId2
import Derived.Test.YtepfjacpfbdkeaaDoorLawV
namespace Go.Proofs.YtepfjacpfbdkeaaDoor.fnExactValsHash
open Go.ChangeShapes Go.WideShapes Go.ChangeAt Go.RowKit
set_option linter.unusedVariables false
set_option maxRecDepth 100000

theorem walk (A : Option Addr) (c : Nat) (l : List ValT) (w : World) (hn : l.length ≤ 9223372036854775807) (hR : VReads w w.heap.size A l) (hK : HasK w) :
    Calls Tryd.prog 5 #[.slice A l.length c] w fun e w' => e = .returned (.bool true) ∧ Below w.heap.size w w' := by
  have HR := Lib.hid hR
  have HK := Lib.hid hK
  clear hR hK
  by_cases hl : l.length ≤ 1048576
  · have hs0 : 0 ≤ szI l.length 1048576 := by unfold szI; rw [if_pos (by omega)]; omega
    go_enter Tryd.func5, Tryd.ntmps5
    go_wp2_with (go_at_call 19; refine (szValS_any _ _ _ _ _ hn (by omega) (by omega)).mono ?_; rintro e w' ⟨rfl, rfl⟩)
    refine (toValS_any _ _ l _ (by omega) HR.out).mono ?_
    rintro e w1 ⟨rfl, o1, b1⟩
    have r1 := Lib.hid (VReads.of_own o1)
    clear o1
    go_wp2_with fail
    refine (sValsHash_any _ _ l _ (by omega) r1.out).mono ?_
    rintro e w2 ⟨rfl, b2⟩
    have hb2 := Below.next (w := w) b1 b2
    clear b1 b2 r1
    go_wp2_with fail
    refine (toValS_any _ _ l _ (by omega) (HR.out.to hb2)).mono ?_
    rintro e w3 ⟨rfl, o3, b3⟩
    have hb3 := Below.next (w := w) hb2 b3
    have r3 := Lib.hid (VReads.of_own o3)
    clear o3 b3 hb2
    go_wp2_with fail
    refine (iValsHash_any _ _ l _ (by omega) r3.out (HK.out.to hb3)).mono ?_
    rintro e w4 ⟨rfl, b4⟩
    have hb4 := Below.next (w := w) hb3 b4
    have r4 := Lib.hid (r3.out.to b4)
    clear r3 hb3 b4
    go_wp2_with fail
    refine (toValS_any _ _ l _ (by omega) (HR.out.to hb4)).mono ?_
    rintro e w5 ⟨rfl, o5, b5⟩
    have hb5 := Below.next (w := w) hb4 b5
    have r5 := Lib.hid (r4.out.to b5)
    have s5 := Lib.hid (VReads.of_own o5)
    clear r4 o5 hb4 b5
    go_wp2_with fail
    refine (eqValS_same _ _ _ _ l _ (by omega) r5.out s5.out).mono ?_
    rintro e w6 ⟨rfl, b6⟩
    have hb6 := Below.next (w := w) hb5 b6
    clear hb5 b6
    go_wp2
    go_ret
    exact ⟨rfl, hb6⟩
  · have hs0 : szI l.length 1048576 < 0 := by unfold szI; rw [if_neg (by omega)]; omega
    go_enter Tryd.func5, Tryd.ntmps5
    go_wp2_with (go_at_call 19; refine (szValS_any _ _ _ _ _ hn (by omega) (by omega)).mono ?_; rintro e w' ⟨rfl, rfl⟩)
    go_ret
    exact ⟨rfl, Below.refl _ _⟩
end Go.Proofs.YtepfjacpfbdkeaaDoor.fnExactValsHash
