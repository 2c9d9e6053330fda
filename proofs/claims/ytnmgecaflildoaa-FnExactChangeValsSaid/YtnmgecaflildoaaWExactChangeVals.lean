/-
  The law FnExactChangeVals: the walk.
-/
import Derived.Test.YtnmgecaflildoaaChgI
import Derived.Test.YtnmgecaflildoaaLawV2
namespace Go.Proofs.Ytnmgecaflildoaa.fnExactChangeVals
open Go.ChangeShapes Go.WideShapes Go.ChangeAt Go.RowKit
set_option linter.unusedVariables false
set_option maxRecDepth 100000

set_option linter.unusedSimpArgs false
theorem changeS_len (l m : List ValT) : (changeS l m).1.length ≤ l.length + 7 := by
  unfold changeS
  split
  · split
    · simp
    · split
      · next h => have := valsOk_len h; simp only; omega
      · simp
  · simp
set_option maxHeartbeats 4000000 in
theorem walk (A : Option Addr) (c : Nat) (l : List ValT) (B : Option Addr) (d : Nat) (m : List ValT) (w : World) (hn : l.length ≤ 9223372036854775807) (hR : VReads w w.heap.size A l) (hn2 : m.length ≤ 9223372036854775807) (hI : VReads w w.heap.size B m) :
    Calls Try.prog 3 #[.slice A l.length c, .slice B m.length d] w fun e w' => e = .returned (.bool true) ∧ Below w.heap.size w w' := by
  have HR := Lib.hid hR
  have HM := Lib.hid hI
  clear hR hI
  by_cases hl : l.length ≤ 1048576
  · have hs0 : szI l.length 1048576 = 1048576 - (l.length : Int) := by unfold szI; rw [if_pos (by omega)]
    have hs0' : ¬ (1048576 - (l.length : Int)) < 0 := by omega
    by_cases hm : m.length ≤ 1048576 - l.length
    · have hs1 : szI m.length (1048576 - (l.length : Int)) = 1048576 - (l.length : Int) - m.length := by unfold szI; rw [if_pos (by omega)]
      have hs1' : ¬ (1048576 - (l.length : Int) - m.length) < 0 := by omega
      have HZ1 := Lib.hid (szValS_any A l.length c 1048576 w hn (by omega) (by omega))
      have HZ2 := Lib.hid (szValS_any B m.length d (1048576 - (l.length : Int)) w hn2 (by omega) (by omega))
      rw [hs0] at HZ1
      rw [hs1] at HZ2
      have HSP := Lib.hid fun (W : World) (A' B' : Option Addr) (c' d' : Nat) (q : VReads W W.heap.size A' l) (hA : A' = none → c' = 0) (q2 : VReads W W.heap.size B' m) => sChangeVals_any l m A' B' c' d' W hl (by omega) q hA q2
      have HIM := Lib.hid fun (W : World) (A' B' : Option Addr) (c' d' : Nat) (q : VReads W W.heap.size A' l) (hA : A' = none → c' = 0) (q2 : VReads W W.heap.size B' m) => iChangeVals_any l m A' B' c' d' W hl (by omega) q hA q2
      have hVl := changeS_len l m
      generalize changeS l m = R at *
      obtain ⟨V, bo⟩ := R
      simp only at HSP HIM hVl
      have hk1 : ¬ (1 + 2 * (l.length : Int) + 2 * (m.length : Int)) < 0 := by omega
      have hk2 : ¬ (1 + 2 * (V.length : Int)) < 0 := by omega
      clear hs0 hs1
      go_enter Try.func3, Try.ntmps3
      go_wp2_with fail
      refine HZ1.out.mono ?_
      rintro e w0 ⟨rfl, hw⟩
      subst hw
      go_wp2_with fail
      refine HZ2.out.mono ?_
      rintro e w0' ⟨rfl, hw⟩
      subst hw
      clear HZ1 HZ2
      go_wp2_with fail
      refine (toValS_any _ _ l _ (by omega) HR.out).mono ?_
      rintro e w1 ⟨rfl, o1, b1⟩
      go_wp2_with fail
      refine (toValS_any _ _ m _ (by omega) (HM.out.to b1)).mono ?_
      rintro e w2 ⟨rfl, o2, b2⟩
      have hb2 := Below.next (w := w) b1 b2
      have r1 := VReads.of_own (own_below o1 b2)
      have r2 := VReads.of_own o2
      clear o1 o2 b1 b2
      go_wp2_with fail
      refine (HSP.out _ _ _ _ _ r1 (fun e => by cases e) r2).mono ?_
      rintro e w3 ⟨A0, c0, rfl, ow, b3⟩
      have hb3 := Below.next (w := w) hb2 b3
      have lw := ow.lt
      have ow := Lib.hid ow
      clear r1 r2 b3 HSP
      go_wp2_with fail
      refine (toValS_any _ _ l _ (by omega) (HR.out.to hb3)).mono ?_
      rintro e w4 ⟨rfl, ox, b4⟩
      have hb4 := Below.next (w := w) hb3 b4
      have ow := Lib.hid (own_below ow.out b4)
      have lx := (ox.lt w3.heap.size rfl).2
      have ox := Lib.hid ox
      clear b4
      go_wp2_with fail
      refine (toValS_any _ _ m _ (by omega) (HM.out.to hb4)).mono ?_
      rintro e w5 ⟨rfl, oy, b5⟩
      have hb5 := Below.next (w := w) hb4 b5
      have ow := Lib.hid (own_below ow.out b5)
      have ox := Lib.hid (own_below ox.out b5)
      have ly := (oy.lt w4.heap.size rfl).2
      have z23 := hb3.size
      have z34 := hb4.size
      have oy := Lib.hid oy
      clear b5
      go_wp2_with fail
      refine (HIM.out _ _ _ _ _ (VReads.of_own ox.out) (fun e => by cases e) (VReads.of_own oy.out)).mono ?_
      rintro e w6 ⟨A1, c1, rfl, og, b6⟩
      have hb6 := Below.next (w := w) hb5 b6
      have ow := Lib.hid (own_below ow.out b6)
      have ox := Lib.hid (own_below ox.out b6)
      have oy := Lib.hid (own_below oy.out b6)
      have lg := og.lt
      have og := Lib.hid og
      clear b6
      go_wp2_with fail
      refine (eqValS_same _ _ _ _ V _ (by omega) (vreads_own rfl og.out) (vreads_own rfl ow.out)).mono ?_
      rintro e w7 ⟨rfl, b7⟩
      have hb7 := Below.next (w := w) hb6 b7
      have ow := Lib.hid (own_below ow.out b7)
      have ox := Lib.hid (own_below ox.out b7)
      have oy := Lib.hid (own_below oy.out b7)
      have og := Lib.hid (own_below og.out b7)
      clear b7
      go_wp2_with fail
      refine (toValS_any _ _ l _ (by omega) (HR.out.to hb7)).mono ?_
      rintro e w8 ⟨rfl, o8, b8⟩
      have hb8 := Below.next (w := w) hb7 b8
      have ow := Lib.hid (own_below ow.out b8)
      have ox := Lib.hid (own_below ox.out b8)
      have oy := Lib.hid (own_below oy.out b8)
      have og := Lib.hid (own_below og.out b8)
      clear b8
      go_wp2_with fail
      refine (eqValS_same _ _ _ _ l _ (by omega) (VReads.of_own ox.out) (VReads.of_own o8)).mono ?_
      rintro e w9 ⟨rfl, b9⟩
      have hb9 := Below.next (w := w) hb8 b9
      have ow := Lib.hid (own_below ow.out b9)
      have ox := Lib.hid (own_below ox.out b9)
      have oy := Lib.hid (own_below oy.out b9)
      have og := Lib.hid (own_below og.out b9)
      clear b9 o8
      go_wp2_with fail
      refine (toValS_any _ _ m _ (by omega) (HM.out.to hb9)).mono ?_
      rintro e w10 ⟨rfl, o10, b10⟩
      have hb10 := Below.next (w := w) hb9 b10
      have ow := Lib.hid (own_below ow.out b10)
      have ox := Lib.hid (own_below ox.out b10)
      have oy := Lib.hid (own_below oy.out b10)
      have og := Lib.hid (own_below og.out b10)
      clear b10
      go_wp2_with fail
      refine (eqValS_same _ _ _ _ m _ (by omega) (VReads.of_own oy.out) (VReads.of_own o10)).mono ?_
      rintro e w11 ⟨rfl, b11⟩
      have hb11 := Below.next (w := w) hb10 b11
      have ow := Lib.hid (own_below ow.out b11)
      have ox := Lib.hid (own_below ox.out b11)
      have oy := Lib.hid (own_below oy.out b11)
      have og := Lib.hid (own_below og.out b11)
      clear b11 o10
      go_wp2_with fail
      refine (markValS_keep w3.heap.size _ _ l 1 w11 (by omega) (by omega) (by omega) ox.out).mono ?_
      rintro e w12 ⟨rfl, ox12, b12, g12⟩
      have hb12 : Below w.heap.size w w12 := hb11.trans (b12.mono z23)
      have ow := Lib.hid (own_gb ow.out g12 (fun q hq e => by have h1 := (lw q hq).2; simp at e; omega))
      have oy := Lib.hid (own_gb oy.out g12 (fun q hq e => by simp [Value.ownBlock] at hq; simp at e; omega))
      have og := Lib.hid (own_gb og.out g12 (fun q hq e => by have h1 := (lg q hq).1; simp at e; omega))
      clear b12 g12 ox ox12
      have HMK := markValS_keep w4.heap.size _ _ m (1 + 2 * l.length) w12 (by omega) (by omega) (by omega) oy.out
      rw [show ((1 + 2 * l.length : Nat) : Int) = 1 + 2 * (l.length : Int) from by omega] at HMK
      have HMK := Lib.hid HMK
      go_wp2_with fail
      refine HMK.out.mono ?_
      rintro e w13 ⟨rfl, oy13, b13, g13⟩
      have hb13 : Below w.heap.size w w13 := hb12.trans (b13.mono z34)
      have ow := Lib.hid (own_gb ow.out g13 (fun q hq e => by have h1 := (lw q hq).2; simp at e; omega))
      have og := Lib.hid (own_gb og.out g13 (fun q hq e => by have h1 := (lg q hq).1; simp at e; omega))
      clear b13 g13 oy oy13 HMK
      go_wp2_with fail
      refine (eqValS_same _ _ _ _ V _ (by omega) (vreads_own rfl og.out) (vreads_own rfl ow.out)).mono ?_
      rintro e w14 ⟨rfl, b14⟩
      have hb14 := Below.next (w := w) hb13 b14
      have ow := Lib.hid (own_below ow.out b14)
      have og := Lib.hid (own_below og.out b14)
      clear b14
      go_wp2_with fail
      refine (markValS_keep w5.heap.size _ _ V 1 w14 (by omega) (by omega) (by omega) og.out).mono ?_
      rintro e w15 ⟨rfl, og15, b15, g15⟩
      have hb15 : Below w.heap.size w w15 := hb14.trans (b15.mono hb5.size)
      have ow := Lib.hid (own_gb ow.out g15 (fun q hq e => by
        have h1 := (lw q hq).2
        cases A1 with
        | none => simp at e
        | some a => (have := (lg q (by simpa [Value.ownBlock] using e.symm)).1; omega)))
      have og := Lib.hid og15
      clear b15 g15 og15
      go_wp2_with fail
      refine (heldValS_any _ _ V.length 1 w15 (by omega) (by omega) (by omega) (vreads_own (marksV_len _ _) og.out)).mono ?_
      rintro e w16 ⟨rfl, b16⟩
      have hb16 := Below.next (w := w) hb15 b16
      have ow := Lib.hid (own_below ow.out b16)
      have og := Lib.hid (own_below og.out b16)
      clear b16
      go_wp2_with fail
      refine (toValS_any _ _ l _ (by omega) (HR.out.to hb16)).mono ?_
      rintro e w17 ⟨rfl, o17, b17⟩
      have hb17 := Below.next (w := w) hb16 b17
      have ow := Lib.hid (own_below ow.out b17)
      have og := Lib.hid (own_below og.out b17)
      clear b17
      go_wp2_with fail
      refine (toValS_any _ _ m _ (by omega) (HM.out.to hb17)).mono ?_
      rintro e w18 ⟨rfl, o18, b18⟩
      have hb18 := Below.next (w := w) hb17 b18
      have ow := Lib.hid (own_below ow.out b18)
      have og := Lib.hid (own_below og.out b18)
      have r17 := VReads.of_own (own_below o17 b18)
      have r18 := VReads.of_own o18
      clear b18 o17 o18
      go_wp2_with fail
      refine (HIM.out _ _ _ _ _ r17 (fun e => by cases e) r18).mono ?_
      rintro e w19 ⟨A3, c3, rfl, oh, b19⟩
      have hb19 := Below.next (w := w) hb18 b19
      have ow := Lib.hid (own_below ow.out b19)
      have og := Lib.hid (own_below og.out b19)
      clear b19 r17 r18
      go_wp2_with fail
      refine (eqValS_same _ _ _ _ V _ (by omega) (vreads_own rfl oh) (vreads_own rfl ow.out)).mono ?_
      rintro e w20 ⟨rfl, b20⟩
      have hb20 := Below.next (w := w) hb19 b20
      have og := Lib.hid (own_below og.out b20)
      clear b20 oh
      go_wp2_with fail
      refine (heldValS_any _ _ V.length 1 w20 (by omega) (by omega) (by omega) (vreads_own (marksV_len _ _) og.out)).mono ?_
      rintro e w21 ⟨rfl, b21⟩
      have hb21 := Below.next (w := w) hb20 b21
      go_wp2
      go_ret
      exact ⟨rfl, hb21⟩
    · have hs1 : szI m.length (1048576 - (l.length : Int)) < 0 := by unfold szI; rw [if_neg (by omega)]; omega
      have HZ1 := Lib.hid (szValS_any A l.length c 1048576 w hn (by omega) (by omega))
      have HZ2 := Lib.hid (szValS_any B m.length d (1048576 - (l.length : Int)) w hn2 (by omega) (by omega))
      rw [hs0] at HZ1
      clear hs0
      go_enter Try.func3, Try.ntmps3
      go_wp2_with fail
      refine HZ1.out.mono ?_
      rintro e w0 ⟨rfl, hw⟩
      subst hw
      go_wp2_with fail
      refine HZ2.out.mono ?_
      rintro e w0' ⟨rfl, hw⟩
      subst hw
      go_wp2
      go_ret
      exact ⟨rfl, Below.refl _ _⟩
  · have hs0 : szI l.length 1048576 < 0 := by unfold szI; rw [if_neg (by omega)]; omega
    have HZ1 := Lib.hid (szValS_any A l.length c 1048576 w hn (by omega) (by omega))
    go_enter Try.func3, Try.ntmps3
    go_wp2_with fail
    refine HZ1.out.mono ?_
    rintro e w0 ⟨rfl, hw⟩
    subst hw
    go_wp2
    go_ret
    exact ⟨rfl, Below.refl _ _⟩
end Go.Proofs.Ytnmgecaflildoaa.fnExactChangeVals
