/-
  The law FnExactIncludes: the walk.
-/
import Derived.Test.YtepfjacpfbdkeaaDoorTree2
import Derived.Test.YtepfjacpfbdkeaaDoorLawS
namespace Go.Proofs.YtepfjacpfbdkeaaDoor.fnExactIncludes
open Go.ChangeShapes Go.WideShapes Go.ChangeAt Go.RowKit
set_option linter.unusedVariables false
set_option maxRecDepth 100000

theorem walk (root d : List UInt8) (i n : Int) (A : Option Addr) (c : Nat) (l : List (List UInt8)) (w : World) (hrt : root.length ≤ 9223372036854775807) (hd : d.length ≤ 9223372036854775807) (hi1 : i ≤ 9223372036854775807) (hi2 : -9223372036854775808 ≤ i) (hn1 : n ≤ 9223372036854775807) (hn2 : -9223372036854775808 ≤ n) (hn : l.length ≤ 9223372036854775807) (hm : ∀ x ∈ l, x.length ≤ 9223372036854775807) (hR : TReads w w.heap.size A l) (hK : HasK w) :
    Calls Tryd.prog 8 #[.string (S root), .string (S d), .int .i64 i, .int .i64 n, .slice A l.length c] w fun e w' => e = .returned (.bool true) ∧ Below w.heap.size w w' := by
  by_cases hrb : root.length ≤ 1048576
  case neg =>
    go_enter Tryd.func8, Tryd.ntmps8
    go_wp2
    go_ret
    exact ⟨rfl, Below.refl _ _⟩
  by_cases hdb : d.length ≤ 1048576
  case neg =>
    go_enter Tryd.func8, Tryd.ntmps8
    go_wp2
    go_ret
    exact ⟨rfl, Below.refl _ _⟩
  have HR := Lib.hid hR
  have HK := Lib.hid hK
  have HSZ := Lib.hid (szStringS_any A c l 1048576 w hn hm (by omega) (by omega) hR)
  clear hR hK hm
  go_enter Tryd.func8, Tryd.ntmps8
  go_wp2_with fail
  refine HSZ.out.mono ?_
  rintro e w0 ⟨r, rfl, rfl, hr | ⟨hr, hr1, hl, hx⟩⟩
  · go_wp2
    go_ret
    exact ⟨rfl, Below.refl _ _⟩
  · have hr' : ¬ r < 0 := by omega
    have HX := Lib.hid hx
    clear hx
    go_wp2_with fail
    refine (toStringS_any _ _ l _ (by omega) HR.out).mono ?_
    rintro e w1 ⟨rfl, o1, b1⟩
    have r1 := Lib.hid (TReads.of_own o1)
    clear o1
    go_wp2_with fail
    refine (sIncludes_any root d i n l _ l.length l.length _ (by omega) rfl (Nat.le_refl _) hl (by omega) HX.out r1.out).mono ?_
    rintro e w2 ⟨rfl, b2⟩
    have hb2 := Below.next (w := w) b1 b2
    clear b1 b2 r1
    go_wp2_with fail
    refine (toStringS_any _ _ l _ (by omega) (HR.out.to hb2)).mono ?_
    rintro e w3 ⟨rfl, o3, b3⟩
    have hb3 := Below.next (w := w) hb2 b3
    have r3 := Lib.hid (TReads.of_own o3)
    clear o3 b3 hb2
    go_wp2_with fail
    refine (iIncludes_any root d i n l _ l.length l.length _ (by omega) hn2 rfl (Nat.le_refl _) hl (by omega) HX.out r3.out (HK.out.to hb3)).mono ?_
    rintro e w4 ⟨rfl, b4⟩
    have hb4 := Below.next (w := w) hb3 b4
    have r4 := Lib.hid (r3.out.to b4)
    clear r3 hb3 b4
    go_wp2_with fail
    refine (toStringS_any _ _ l _ (by omega) (HR.out.to hb4)).mono ?_
    rintro e w5 ⟨rfl, o5, b5⟩
    have hb5 := Below.next (w := w) hb4 b5
    have r5 := Lib.hid (r4.out.to b5)
    have s5 := Lib.hid (TReads.of_own o5)
    clear r4 o5 hb4 b5
    go_wp2_with fail
    refine (eqStringS_same _ _ _ _ l _ (by omega) r5.out s5.out).mono ?_
    rintro e w6 ⟨rfl, b6⟩
    have hb6 := Below.next (w := w) hb5 b6
    clear hb5 b6
    go_wp2
    go_ret
    exact ⟨rfl, hb6⟩
end Go.Proofs.YtepfjacpfbdkeaaDoor.fnExactIncludes
