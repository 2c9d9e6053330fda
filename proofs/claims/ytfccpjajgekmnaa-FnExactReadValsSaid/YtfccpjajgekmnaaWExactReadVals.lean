/-
  The law FnExactReadVals: the walk.
-/
import Derived.Test.YtfccpjajgekmnaaRdV
import Derived.Test.YtfccpjajgekmnaaLawV2
namespace Go.Proofs.Ytfccpjajgekmnaa.fnExactReadVals
open Go.ChangeShapes Go.WideShapes Go.ChangeAt Go.RowKit
set_option linter.unusedVariables false
set_option maxRecDepth 100000

set_option maxHeartbeats 4000000 in
theorem walk (l : List UInt8) (w : World) (hl : l.length ≤ 9223372036854775807) :
    Calls Try.prog 6 #[.string (S l)] w fun e w' => e = .returned (.bool true) ∧ Below w.heap.size w w' := by
  have hb := Below.refl w.heap.size w
  by_cases h : l.length ≤ 1048576
  · have HS := Lib.hid fun W : World => sReadVals_any l W h
    have HI := Lib.hid fun W : World => iReadVals_any l W h
    have hlen := readVals_len l
    generalize readValsS l = V at *
    obtain ⟨x, bo⟩ := V
    simp only at HS HI hlen
    have hk1 : ¬ (1 + 2 * (x.length : Int)) < 0 := by omega
    go_enter Try.func6, Try.ntmps6
    go_wp2_with fail
    refine (HS.out _).mono ?_
    rintro e w1 ⟨A0, c0, rfl, o1, b1⟩
    have hb1 := Below.next (w := w) hb b1
    go_wp2_with fail
    refine (HI.out _).mono ?_
    rintro e w2 ⟨A1, c1, rfl, o2, b2⟩
    have hb2 := Below.next (w := w) hb1 b2
    have O1 := Lib.hid (own_below o1 b2)
    have z2 := b2.size
    have L1 := Lib.hid o1.lt
    have L2 := Lib.hid o2.lt
    clear o1
    go_wp2_with fail
    refine (eqValS_same _ _ _ _ x _ (by omega) (own_vreads o2 rfl) (own_vreads O1.out rfl)).mono ?_
    rintro e w3 ⟨rfl, b3⟩
    have hb3 := Below.next (w := w) hb2 b3
    have P1 := Lib.hid (own_below O1.out b3)
    have P2 := Lib.hid (own_below o2 b3)
    have z3 := b3.size
    clear o2 O1
    go_wp2_with fail
    refine (markValS_keep w1.heap.size _ _ x 1 w3 (by omega) (by omega) (by omega) P2.out).mono ?_
    rintro e w4 ⟨rfl, o4, b4, g4⟩
    have hb4 : Below w.heap.size w w4 := hb3.trans (b4.mono hb1.size)
    have Q1 := Lib.hid (own_gb P1.out g4 (fun q hq => by have h1 := (L1.out q hq).2; intro e; cases A1 with | none => simp at e | some a => (have := (L2.out q (by simpa [Value.ownBlock] using e.symm)).1; omega)))
    clear P1 P2 g4
    have hbs4 := hb4.size
    go_wp2_with fail
    refine (heldValS_any _ _ x.length 1 w4 (by omega) (by omega) (by omega) (own_vreads o4 (marksV_len _ _))).mono ?_
    rintro e w5 ⟨rfl, b5⟩
    have hb5 := Below.next (w := w) hb4 b5
    have R1 := Lib.hid (own_below Q1.out b5)
    have R4 := Lib.hid (own_below o4 b5)
    clear o4 Q1
    go_wp2_with fail
    refine (HI.out _).mono ?_
    rintro e w6 ⟨A2, c2, rfl, o6, b6⟩
    have hb6 := Below.next (w := w) hb5 b6
    have T1 := Lib.hid (own_below R1.out b6)
    have T4 := Lib.hid (own_below R4.out b6)
    clear R1 R4
    go_wp2_with fail
    refine (eqValS_same _ _ _ _ x _ (by omega) (own_vreads o6 rfl) (own_vreads T1.out rfl)).mono ?_
    rintro e w7 ⟨rfl, b7⟩
    have hb7 := Below.next (w := w) hb6 b7
    have U4 := Lib.hid (own_below T4.out b7)
    clear o6 T1 T4
    go_wp2_with fail
    refine (heldValS_any _ _ x.length 1 w7 (by omega) (by omega) (by omega) (own_vreads U4.out (marksV_len _ _))).mono ?_
    rintro e w8 ⟨rfl, b8⟩
    have hb8 := Below.next (w := w) hb7 b8
    go_wp2
    go_ret
    exact ⟨rfl, hb8⟩
  · go_enter Try.func6, Try.ntmps6
    go_wp2
    go_ret
    exact ⟨rfl, hb⟩
end Go.Proofs.Ytfccpjajgekmnaa.fnExactReadVals
