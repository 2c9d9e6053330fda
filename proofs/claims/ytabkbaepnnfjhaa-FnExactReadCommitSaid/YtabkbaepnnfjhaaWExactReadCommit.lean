/-
  The law FnExactReadCommit: the walk.
-/
import Derived.Test.YtabkbaepnnfjhaaRdC
import Derived.Test.YtabkbaepnnfjhaaRdC2
import Derived.Test.YtabkbaepnnfjhaaLawC2
import Derived.Test.YtabkbaepnnfjhaaLawC3
namespace Go.Proofs.Ytabkbaepnnfjhaa.fnExactReadCommit
open Go.ChangeShapes Go.WideShapes Go.ChangeAt Go.RowKit
set_option linter.unusedVariables false
set_option maxRecDepth 100000

set_option maxHeartbeats 4000000 in
theorem walk (l : List UInt8) (w : World) (hl : l.length ≤ 9223372036854775807) :
    Calls Try.prog 8 #[.string (S l)] w fun e w' => e = .returned (.bool true) ∧ Below w.heap.size w w' := by
  have hb := Below.refl w.heap.size w
  by_cases h : l.length ≤ 1048576
  · have HS := Lib.hid fun W : World => sReadCommit_any l W h
    have HI := Lib.hid fun W : World => iReadCommit_any l W h
    have hlen := (readCom_len l).1
    generalize readComS l = V at *
    obtain ⟨⟨h, r, id, x⟩, bo⟩ := V
    simp only at HS HI hlen
    have hk1 : ¬ (1 + 2 * (x.length : Int)) < 0 := by omega
    go_enter Try.func8, Try.ntmps8
    go_wp2_with fail
    refine (HS.out _).mono ?_
    rintro e w1 ⟨A0, c0, rfl, o1, b1⟩
    have hb1 := Below.next (w := w) hb b1
    have zz1 := hb1.size
    go_wp2_with fail
    have hX := H4.new w1 41 (.int .i64 h) (.int .i64 r) (.string (S id)) (.slice A0 x.length c0)
    have hbW := hb1.alloc zz1 (.cells #[.int .i64 h, .int .i64 r, .string (S id), .slice A0 x.length c0] 41)
    have oW := o1.alloc (.cells #[.int .i64 h, .int .i64 r, .string (S id), .slice A0 x.length c0] 41)
    have zW : (w1.alloc (.cells #[.int .i64 h, .int .i64 r, .string (S id), .slice A0 x.length c0] 41)).heap.size = w1.heap.size + 1 := by simp
    generalize w1.alloc (.cells #[.int .i64 h, .int .i64 r, .string (S id), .slice A0 x.length c0] 41) = W1 at *
    generalize w1.heap.size = X at *
    clear o1 b1 hb1
    refine (HI.out _).mono ?_
    rintro e w2 ⟨A1, c1, rfl, o2, b2⟩
    have hb2 := Below.next (w := w) hbW b2
    have O1 := Lib.hid (own_below oW b2)
    have zz2 := b2.size
    have L1 := Lib.hid oW.lt
    have hX2 := hX.next b2
    clear oW hX
    obtain ⟨_, x0, x1, x2, x3, _⟩ := And.intro hX2.1 hX2.2
    go_wp2_with fail
    have hY := H4.new w2 41 (.int .i64 h) (.int .i64 r) (.string (S id)) (.slice A1 x.length c1)
    have hbV := hb2.alloc (by omega) (.cells #[.int .i64 h, .int .i64 r, .string (S id), .slice A1 x.length c1] 41)
    have oV := o2.alloc (.cells #[.int .i64 h, .int .i64 r, .string (S id), .slice A1 x.length c1] 41)
    have OV := Lib.hid (O1.out.alloc (.cells #[.int .i64 h, .int .i64 r, .string (S id), .slice A1 x.length c1] 41))
    have hX3 := hX2.alloc (.cells #[.int .i64 h, .int .i64 r, .string (S id), .slice A1 x.length c1] 41)
    have zV : (w2.alloc (.cells #[.int .i64 h, .int .i64 r, .string (S id), .slice A1 x.length c1] 41)).heap.size = w2.heap.size + 1 := by simp
    have L2 := Lib.hid o2.lt
    generalize w2.alloc (.cells #[.int .i64 h, .int .i64 r, .string (S id), .slice A1 x.length c1] 41) = W2 at *
    generalize w2.heap.size = Y at *
    clear o2 b2 hb2 hX2 O1
    refine (eqCommit_same _ _ _ _ _ _ _ x _ (by omega) (own_sreads oV rfl) (own_sreads OV.out rfl)).mono ?_
    rintro e w3 ⟨rfl, b3⟩
    have hb3 := Below.next (w := w) hbV b3
    have P1 := Lib.hid (own_below OV.out b3)
    have P2 := Lib.hid (own_below oV b3)
    have HX3 := Lib.hid (hX3.next b3)
    have hY3 := hY.next b3
    have zz3 := b3.size
    obtain ⟨_, y0, y1, y2, y3, _⟩ := And.intro hY3.1 hY3.2
    clear oV OV hX3 hY
    go_wp2_with fail
    refine (markCommit_keep W1.heap.size _ _ _ _ _ x 1 w3 (by omega) (by omega) (by omega) (by omega) P2.out).mono ?_
    rintro e w4 ⟨rfl, o4, b4, g4⟩
    have hb4 : Below w.heap.size w w4 := hb3.trans (b4.mono hbW.size)
    have Q1 := Lib.hid (own_gb P1.out g4 (fun q hq => by have h1 := (L1.out q hq).2; intro e; cases A1 with | none => simp at e | some a => (have := (L2.out q (by simpa [Value.ownBlock] using e.symm)).1; omega)))
    have hX4 := HX3.out.block (g4.block X HX3.out.1 (fun e => by cases A1 with | none => simp at e | some a => (have := (L2.out X (by simpa [Value.ownBlock] using e.symm)).1; omega))) g4.size
    have hY4 := hY3.block (g4.block Y hY3.1 (fun e => by cases A1 with | none => simp at e | some a => (have := (L2.out Y (by simpa [Value.ownBlock] using e.symm)).2; omega))) g4.size
    obtain ⟨_, y0, y1, y2, y3, _⟩ := And.intro hY4.1 hY4.2
    clear P1 P2 HX3 hY3
    have hbs4 := g4.size
    clear g4
    go_wp2_with fail
    refine (heldCommit_any _ _ _ _ _ x.length 1 w4 (by omega) (by omega) (by omega) (own_sreads o4 (marksC_len _ _))).mono ?_
    rintro e w5 ⟨rfl, b5⟩
    have hb5 := Below.next (w := w) hb4 b5
    have R1 := Lib.hid (own_below Q1.out b5)
    have R4 := Lib.hid (own_below o4 b5)
    have HX5 := Lib.hid (hX4.next b5)
    have HY5 := Lib.hid (hY4.next b5)
    clear o4 Q1 hX4 hY4
    go_wp2_with fail
    refine (HI.out _).mono ?_
    rintro e w6 ⟨A2, c2, rfl, o6, b6⟩
    have hb6 := Below.next (w := w) hb5 b6
    have T1 := Lib.hid (own_below R1.out b6)
    have T4 := Lib.hid (own_below R4.out b6)
    have hX6 := HX5.out.next b6
    have HY6 := Lib.hid (HY5.out.next b6)
    obtain ⟨_, x0, x1, x2, x3, _⟩ := And.intro hX6.1 hX6.2
    have zz6 := hb6.size
    clear R1 R4 HX5 HY5
    go_wp2_with fail
    have o6a := o6.alloc (.cells #[.int .i64 h, .int .i64 r, .string (S id), .slice A2 x.length c2] 41)
    have T1a := T1.out.alloc (.cells #[.int .i64 h, .int .i64 r, .string (S id), .slice A2 x.length c2] 41)
    have T4a := T4.out.alloc (.cells #[.int .i64 h, .int .i64 r, .string (S id), .slice A2 x.length c2] 41)
    have HY6a := HY6.out.alloc (.cells #[.int .i64 h, .int .i64 r, .string (S id), .slice A2 x.length c2] 41)
    have hX6a := hX6.alloc (.cells #[.int .i64 h, .int .i64 r, .string (S id), .slice A2 x.length c2] 41)
    have hZ6 := H4.new w6 41 (.int .i64 h) (.int .i64 r) (.string (S id)) (.slice A2 x.length c2)
    have hb6a := hb6.alloc zz6 (.cells #[.int .i64 h, .int .i64 r, .string (S id), .slice A2 x.length c2] 41)
    generalize w6.alloc (.cells #[.int .i64 h, .int .i64 r, .string (S id), .slice A2 x.length c2] 41) = W6 at *
    generalize w6.heap.size = Z at *
    refine (eqCommit_same _ _ _ _ _ _ _ x _ (by omega) (own_sreads o6a rfl) (own_sreads T1a rfl)).mono ?_
    rintro e w7 ⟨rfl, b7⟩
    have hb7 := Below.next (w := w) hb6a b7
    have U4 := Lib.hid (own_below T4a b7)
    have hY7 := HY6a.next b7
    obtain ⟨_, y0, y1, y2, y3, _⟩ := And.intro hY7.1 hY7.2
    clear o6 T1 T4 o6a T1a T4a
    go_wp2_with fail
    refine (heldCommit_any _ _ _ _ _ x.length 1 w7 (by omega) (by omega) (by omega) (own_sreads U4.out (marksC_len _ _))).mono ?_
    rintro e w8 ⟨rfl, b8⟩
    have hb8 := Below.next (w := w) hb7 b8
    go_wp2
    go_ret
    exact ⟨rfl, hb8⟩
  · go_enter Try.func8, Try.ntmps8
    go_wp2
    go_ret
    exact ⟨rfl, hb⟩
end Go.Proofs.Ytabkbaepnnfjhaa.fnExactReadCommit
