/-
  The law FnExactEnough: the walk.
-/
import Derived.Test.YteajphbbmobaaaaPow1
import Derived.Test.YteajphbbmobaaaaLawV
import Derived.Test.YteajphbbmobaaaaLawI
namespace Go.Proofs.Yteajphbbmobaaaa.fnExactEnough
open Go.ChangeShapes Go.WideShapes Go.ChangeAt Go.RowKit
set_option linter.unusedVariables false
set_option maxRecDepth 100000

theorem walk (A : Option Addr) (c : Nat) (l : List ValT) (Ai : Option Addr) (ci : Nat) (ids : List Int) (w : World) (hn : l.length ≤ 9223372036854775807) (hR : VReads w w.heap.size A l) (hn2 : ids.length ≤ 9223372036854775807) (hI : IReads w w.heap.size Ai ids) :
    Calls Try.prog 10 #[.slice A l.length c, .slice Ai ids.length ci] w fun e w' => e = .returned (.bool true) ∧ Below w.heap.size w w' := by
  have HR := Lib.hid hR
  have HI := Lib.hid hI
  clear hR hI
  by_cases hil : ids.length ≤ 1048576
  · by_cases hl : l.length ≤ 1048576
    · have hs0 : 0 ≤ szI l.length 1048576 := by unfold szI; rw [if_pos (by omega)]; omega
      go_enter Try.func10, Try.ntmps10
      go_wp2_with (go_at_call 14; refine (szValS_any _ _ _ _ _ hn (by omega) (by omega)).mono ?_; rintro e w' ⟨rfl, rfl⟩)
      refine (toValS_any _ _ l _ (by omega) HR.out).mono ?_
      rintro e w1 ⟨rfl, o1, b1⟩
      have r1 := Lib.hid (VReads.of_own o1)
      clear o1
      go_wp2_with fail
      refine (toIntS_any _ _ ids _ (by omega) (HI.out.to b1)).mono ?_
      rintro e w2 ⟨rfl, o2, b2⟩
      have hb2 := Below.next (w := w) b1 b2
      have r2 := Lib.hid (r1.out.to b2)
      have i2 := Lib.hid (IReads.of_own o2)
      clear b1 b2 r1 o2
      go_wp2_with fail
      refine (sEnough_any _ _ l _ _ ids _ (by omega) (by omega) r2.out i2.out).mono ?_
      rintro e w3 ⟨rfl, b3⟩
      have hb3 := Below.next (w := w) hb2 b3
      clear b3 r2 i2 hb2
      go_wp2_with fail
      refine (toValS_any _ _ l _ (by omega) (HR.out.to hb3)).mono ?_
      rintro e w4 ⟨rfl, o4, b4⟩
      have hb4 := Below.next (w := w) hb3 b4
      have r4 := Lib.hid (VReads.of_own o4)
      clear o4 b4 hb3
      go_wp2_with fail
      refine (toIntS_any _ _ ids _ (by omega) (HI.out.to hb4)).mono ?_
      rintro e w5 ⟨rfl, o5, b5⟩
      have hb5 := Below.next (w := w) hb4 b5
      have r5 := Lib.hid (r4.out.to b5)
      have i5 := Lib.hid (IReads.of_own o5)
      clear b5 r4 o5 hb4
      go_wp2_with fail
      refine (iEnough_any _ _ l _ _ ids _ (by omega) (by omega) r5.out i5.out).mono ?_
      rintro e w6 ⟨rfl, b6⟩
      have hb6 := Below.next (w := w) hb5 b6
      have r6 := Lib.hid (r5.out.to b6)
      have i6 := Lib.hid (i5.out.to b6)
      clear b6 r5 i5 hb5
      go_wp2_with fail
      refine (toValS_any _ _ l _ (by omega) (HR.out.to hb6)).mono ?_
      rintro e w7 ⟨rfl, o7, b7⟩
      have hb7 := Below.next (w := w) hb6 b7
      have r7 := Lib.hid (r6.out.to b7)
      have i7 := Lib.hid (i6.out.to b7)
      have s7 := Lib.hid (VReads.of_own o7)
      clear b7 r6 i6 hb6 o7
      go_wp2_with fail
      refine (eqValS_same _ _ _ _ l _ (by omega) r7.out s7.out).mono ?_
      rintro e w8 ⟨rfl, b8⟩
      have hb8 := Below.next (w := w) hb7 b8
      have i8 := Lib.hid (i7.out.to b8)
      clear b8 r7 s7 i7 hb7
      go_wp2_with fail
      refine (toIntS_any _ _ ids _ (by omega) (HI.out.to hb8)).mono ?_
      rintro e w9 ⟨rfl, o9, b9⟩
      have hb9 := Below.next (w := w) hb8 b9
      have i9 := Lib.hid (i8.out.to b9)
      have s9 := Lib.hid (IReads.of_own o9)
      clear b9 i8 hb8 o9
      go_wp2_with fail
      refine (eqIntS_same _ _ _ _ ids _ (by omega) i9.out s9.out).mono ?_
      rintro e w10 ⟨rfl, b10⟩
      have hb10 := Below.next (w := w) hb9 b10
      clear b10 i9 s9 hb9
      go_wp2
      go_ret
      exact ⟨rfl, hb10⟩
    · have hs0 : szI l.length 1048576 < 0 := by unfold szI; rw [if_neg (by omega)]; omega
      go_enter Try.func10, Try.ntmps10
      go_wp2_with (go_at_call 14; refine (szValS_any _ _ _ _ _ hn (by omega) (by omega)).mono ?_; rintro e w' ⟨rfl, rfl⟩)
      go_ret
      exact ⟨rfl, Below.refl _ _⟩
  · go_enter Try.func10, Try.ntmps10
    go_wp2
    go_ret
    exact ⟨rfl, Below.refl _ _⟩
end Go.Proofs.Yteajphbbmobaaaa.fnExactEnough
