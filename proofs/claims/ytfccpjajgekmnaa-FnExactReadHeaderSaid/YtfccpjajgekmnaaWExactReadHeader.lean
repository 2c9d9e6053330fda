/-
  The law FnExactReadHeader: the walk.
-/
import Derived.Test.YtfccpjajgekmnaaRdH
namespace Go.Proofs.Ytfccpjajgekmnaa.fnExactReadHeader
open Go.ChangeShapes Go.WideShapes Go.ChangeAt Go.RowKit
set_option linter.unusedVariables false
set_option maxRecDepth 100000

theorem eqHeader_same (x : HeadT) (w : World) :
    Calls Try.prog 25 #[x.val, x.val] w fun e w' => e = .returned (.bool true) ∧ Below w.heap.size w w' := by
  obtain ⟨h, t, a, b, c, d⟩ := x
  have hv : HeadT.val ⟨h, t, a, b, c, d⟩ = .agg #[.int .i64 h, .int .i64 t, .string (S a), .string (S b), .string (S c), .string (S d)] := rfl
  rw [hv]
  have hb := Below.refl w.heap.size w
  go_enter Try.func25, Try.ntmps25
  go_wp2
  go_ret
  exact ⟨rfl, (by repeat (first | with_reducible exact hb | with_reducible exact Below.refl _ _ | refine Below.drew ?_ | refine Below.setCell ?_ (by first | omega | (simp <;> omega)) _ | refine Below.alloc ?_ (by first | omega | (simp <;> omega)) _))⟩
theorem walk (l : List UInt8) (w : World) (hl : l.length ≤ 9223372036854775807) :
    Calls Try.prog 5 #[.string (S l)] w fun e w' => e = .returned (.bool true) ∧ Below w.heap.size w w' := by
  have hb := Below.refl w.heap.size w
  by_cases h : l.length ≤ 1048576
  · have HS := Lib.hid fun W : World => sReadHeader_any l W h
    have HI := Lib.hid fun W : World => iReadHeader_any l W h
    generalize readHeadS l = V at *
    obtain ⟨x, bo⟩ := V
    have HE := Lib.hid fun W : World => eqHeader_same x W
    obtain ⟨h', t, a, b, c, d⟩ := x
    have hv : HeadT.val ⟨h', t, a, b, c, d⟩ = .agg #[.int .i64 h', .int .i64 t, .string (S a), .string (S b), .string (S c), .string (S d)] := rfl
    rw [hv] at HE
    simp only at HS HI
    rw [hv] at HS HI
    clear hv
    go_enter Try.func5, Try.ntmps5
    go_wp2_with fail
    refine (HS.out _).mono ?_
    rintro e w1 ⟨rfl, b1⟩
    have hb := Below.next (w := w) hb b1
    have z0 := hb.size
    go_wp2_with fail
    refine (HI.out _).mono ?_
    rintro e w2 ⟨rfl, b2⟩
    have z1 := b2.size
    simp at z1
    have hb := Below.next (w := w) (by repeat (first | with_reducible exact hb | with_reducible exact Below.refl _ _ | refine Below.drew ?_ | refine Below.setCell ?_ (by first | omega | (simp <;> omega)) _ | refine Below.alloc ?_ (by first | omega | (simp <;> omega)) _)) b2
    have z2 := hb.size
    obtain ⟨hc2, hf2⟩ := bcell b2
    have hq : w1.heap.size < w2.heap.size := by omega
    clear b2
    go_wp2_with (go_at_call 25; refine (HE.out _).mono ?_; rintro e w3 ⟨rfl, b3⟩; have hb := Below.next (w := w) (by repeat (first | with_reducible exact hb | with_reducible exact Below.refl _ _ | refine Below.drew ?_ | refine Below.setCell ?_ (by first | omega | (simp <;> omega)) _ | refine Below.alloc ?_ (by first | omega | (simp <;> omega)) _)) b3)
    go_ret
    exact ⟨rfl, hb⟩
  · go_enter Try.func5, Try.ntmps5
    go_wp2
    go_ret
    exact ⟨rfl, hb⟩
end Go.Proofs.Ytfccpjajgekmnaa.fnExactReadHeader
