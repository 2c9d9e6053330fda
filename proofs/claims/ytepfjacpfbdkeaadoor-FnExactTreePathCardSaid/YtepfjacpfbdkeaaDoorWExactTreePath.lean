/-
  The law FnExactTreePath: the walk.
-/
import Derived.Test.YtepfjacpfbdkeaaDoorTree5
import Derived.Test.YtepfjacpfbdkeaaDoorLawS2
namespace Go.Proofs.YtepfjacpfbdkeaaDoor.fnExactTreePath
open Go.ChangeShapes Go.WideShapes Go.ChangeAt Go.RowKit
set_option linter.unusedVariables false
set_option maxRecDepth 100000

theorem walk (A : Option Addr) (c : Nat) (l : List (List UInt8)) (i : Int) (w : World) (hn : l.length ≤ 9223372036854775807) (hm : ∀ x ∈ l, x.length ≤ 9223372036854775807) (hR : TReads w w.heap.size A l) (hi1 : i ≤ 9223372036854775807) (hi2 : -9223372036854775808 ≤ i) (hK : HasK w) :
    Calls Tryd.prog 9 #[.slice A l.length c, .int .i64 i] w fun e w' => e = .returned (.bool true) ∧ Below w.heap.size w w' := by
  have HR := Lib.hid hR
  have HK := Lib.hid hK
  have HSZ := Lib.hid (szStringS_any A c l 1048576 w hn hm (by omega) (by omega) hR)
  clear hR hK hm
  go_enter Tryd.func9, Tryd.ntmps9
  go_wp2_with fail
  refine HSZ.out.mono ?_
  rintro e w0 ⟨r, rfl, rfl, hr | ⟨hr, hr1, hl, hx⟩⟩
  · go_wp2
    go_ret
    exact ⟨rfl, Below.refl _ _⟩
  · have hr' : ¬ r < 0 := by omega
    have HX := Lib.hid hx
    have hpl := treePathS_le l i
    have HS := Lib.hid fun (A : Option Addr) (W : World) (h : TReads W W.heap.size A l) => sTreePath_any l i A l.length l.length W rfl hl (Nat.le_refl _) (by omega) HX.out h
    have HI := Lib.hid fun (A : Option Addr) (W : World) (h : TReads W W.heap.size A l) (k : HasK W) => iTreePath_any l i A l.length l.length W rfl hl (Nat.le_refl _) (by omega) HX.out h k
    generalize treePathS l i = p at *
    clear hx
    go_wp2_with fail
    refine (toStringS_any _ _ l _ (by omega) HR.out).mono ?_
    rintro e w1 ⟨rfl, o1, b1⟩
    go_wp2_with fail
    refine (HS.out _ _ (TReads.of_own o1)).mono ?_
    rintro e w2 ⟨v0, rfl, o2, b2⟩
    have hltA := fun q hq => (o2.lt q hq).2
    obtain ⟨A0, c0, rfl⟩ := own_slice o2
    have hb2 := Below.next (w := w) b1 b2
    clear o1
    go_wp2_with fail
    refine (toStringS_any _ _ l _ (by omega) (HR.out.to hb2)).mono ?_
    rintro e w3 ⟨rfl, o3, b3⟩
    have hb3 := Below.next (w := w) hb2 b3
    have O2 := Lib.hid (own_below o2 b3)
    go_wp2_with fail
    refine (HI.out _ _ (TReads.of_own o3) (HK.out.to hb3)).mono ?_
    rintro e w4 ⟨v1, rfl, o4, b4⟩
    obtain ⟨A1, c1, rfl⟩ := own_slice o4
    have hb4 := Below.next (w := w) hb3 b4
    have O3 := Lib.hid (own_below o3 b4)
    have O2' := Lib.hid (own_below O2.out b4)
    have hlt2 := (O2.out).lt
    have hlt3 := o3.lt
    have hlt4 := o4.lt
    clear o2 o3 O2
    go_wp2_with fail
    refine (eqStringS_same _ _ _ _ p _ (by omega) (TReads.of_own o4) (TReads.of_own O2'.out)).mono ?_
    rintro e w5 ⟨rfl, b5⟩
    have hb5 := Below.next (w := w) hb4 b5
    have O4 := Lib.hid (own_below o4 b5)
    have P3 := Lib.hid (own_below O3.out b5)
    have P2 := Lib.hid (own_below O2'.out b5)
    clear o4 O3 O2'
    go_wp2_with fail
    refine (toStringS_any _ _ l _ (by omega) (HR.out.to hb5)).mono ?_
    rintro e w6 ⟨rfl, o6, b6⟩
    have hb6 := Below.next (w := w) hb5 b6
    go_wp2_with fail
    refine (eqStringS_same _ _ _ _ l _ (by omega) (TReads.of_own (own_below P3.out b6)) (TReads.of_own o6)).mono ?_
    rintro e w7 ⟨rfl, b7⟩
    have hb7 := Below.next (w := w) hb6 b7
    have Q3 := Lib.hid (own_below (own_below P3.out b6) b7)
    have Q4 := Lib.hid (own_below (own_below O4.out b6) b7)
    have Q2 := Lib.hid (own_below (own_below P2.out b6) b7)
    clear o6 P3 O4 P2
    have s3 := b3.size
    have s4 := b4.size
    have s5 := b5.size
    have s6 := b6.size
    have s7 := b7.size
    have s2 := hb2.size
    go_wp2_with fail
    refine (markStringS_keep w2.heap.size _ _ _ l 1 w7 rfl (by omega) (by omega) (by omega) (by omega) Q3.out).mono ?_
    rintro e w8 ⟨rfl, o8, b8, g8⟩
    have hb8 : Below w.heap.size w w8 := hb7.trans (b8.mono hb2.size)
    have R4 := Lib.hid (own_gb Q4.out g8 (fun q hq => by have := (hlt4 q hq).1; have h3 := (hlt3 w2.heap.size rfl).2; simp; omega))
    have R2 := Lib.hid (own_gb Q2.out g8 (fun q hq => by have h2 := hltA q hq; intro e; simp at e; omega))
    clear o8 g8 Q3 Q4 Q2
    have hk1 : ¬ (1 + (l.length : Int)) < 0 := by omega
    go_wp2_with fail
    refine (eqStringS_same _ _ _ _ p _ (by omega) (TReads.of_own R4.out) (TReads.of_own R2.out)).mono ?_
    rintro e w9 ⟨rfl, b9⟩
    have hb9 := Below.next (w := w) hb8 b9
    have T4 := Lib.hid (own_below R4.out b9)
    have T2 := Lib.hid (own_below R2.out b9)
    clear R4 R2
    have s8 := b8.size
    have s9 := b9.size
    go_wp2_with fail
    refine (markStringS_keep w3.heap.size _ _ _ p 1 w9 rfl (by omega) (by omega) (by omega) (by omega) T4.out).mono ?_
    rintro e w10 ⟨rfl, o10, b10, g10⟩
    have hb10 : Below w.heap.size w w10 := hb9.trans (b10.mono (by omega))
    have U2 := Lib.hid (own_gb T2.out g10 (fun q hq => by have h2 := (hlt2 q hq).2; have h4 := T4.out.lt; intro e; cases A1 with | none => simp at e | some a => (have := (h4 q (by simpa [Value.ownBlock] using e.symm)).1; omega)))
    clear T2 T4 g10
    go_wp2_with fail
    refine (heldStringS_any _ _ p.length 1 w10 (by omega) (by omega) (by omega) (own_reads o10 (marksT_len _ _))).mono ?_
    rintro e w11 ⟨rfl, b11⟩
    have hb11 := Below.next (w := w) hb10 b11
    have V2 := Lib.hid (own_below U2.out b11)
    have O10 := Lib.hid (own_below o10 b11)
    clear o10 U2
    have hq1 : ¬ (1 + (p.length : Int)) < 0 := by omega
    go_wp2_with fail
    refine (toStringS_any _ _ l _ (by omega) (HR.out.to hb11)).mono ?_
    rintro e w12 ⟨rfl, o12, b12⟩
    have hb12 := Below.next (w := w) hb11 b12
    go_wp2_with fail
    refine (HI.out _ _ (TReads.of_own o12) (HK.out.to hb12)).mono ?_
    rintro e w13 ⟨v3, rfl, o13, b13⟩
    obtain ⟨A3, c3, rfl⟩ := own_slice o13
    have hb13 := Below.next (w := w) hb12 b13
    have X2 := Lib.hid (own_below (own_below V2.out b12) b13)
    have X10 := Lib.hid (own_below (own_below O10.out b12) b13)
    clear o12 V2 O10
    go_wp2_with fail
    refine (eqStringS_same _ _ _ _ p _ (by omega) (TReads.of_own o13) (TReads.of_own X2.out)).mono ?_
    rintro e w14 ⟨rfl, b14⟩
    have hb14 := Below.next (w := w) hb13 b14
    have Y10 := Lib.hid (own_below X10.out b14)
    clear o13 X2 X10
    go_wp2_with fail
    refine (heldStringS_any _ _ p.length 1 w14 (by omega) (by omega) (by omega) (own_reads Y10.out (marksT_len _ _))).mono ?_
    rintro e w15 ⟨rfl, b15⟩
    have hb15 := Below.next (w := w) hb14 b15
    go_wp2
    go_ret
    exact ⟨rfl, hb15⟩
end Go.Proofs.YtepfjacpfbdkeaaDoor.fnExactTreePath
