/-
  ValsHash, both sides.
-/
import Derived.Test.YtepfjacpfbdkeaaDoorLeaf1
import Derived.Test.YtepfjacpfbdkeaaDoorShowV
namespace Go.Proofs.YtepfjacpfbdkeaaDoor
open Go.ChangeShapes Go.WideShapes Go.ChangeAt Go.RowKit
set_option linter.unusedVariables false
set_option linter.unusedSimpArgs false
set_option maxRecDepth 100000

/-- What ValsHash returns. -/
def valsHashS (l : List ValT) : List UInt8 := if valsOkB l then shortS (showValsS l) else []
theorem showValsS_len (l : List ValT) : (showValsS l).length ≤ 200 := by
  unfold showValsS
  cases hok : valsOkB l
  · simp
  · have h1 : l.length ≤ 7 := by
      unfold valsOkB at hok
      simp only [Bool.and_eq_true] at hok
      have := inB_true hok.1
      omega
    have h2 := showVal_len l
    have h3 := varS_len (l.length : Int)
    simp only [if_true, List.length_append]
    omega
theorem iValsHash_any (A : Option Addr) (c : Nat) (l : List ValT) (w : World) (hl : l.length ≤ 4194304) (hR : VReads w w.heap.size A l) (hK : HasK w) :
    Calls Tryd.prog 22 #[.slice A l.length c] w fun e w' => e = .returned (.string (S (valsHashS l))) ∧ Below w.heap.size w w' := by
  have HK := Lib.hid hK
  have HR := Lib.hid hR
  have HSH := Lib.hid fun (W : World) (h : HasK W) => iShort_any (showValsS l) W (by have := showValsS_len l; omega) h
  clear hR hK
  have hb := Below.refl w.heap.size w
  cases hok : valsOkB l
  · have HV : Hid (valsHashS l = []) := by unfold Hid valsHashS; rw [hok]; rfl
    go_enter Tryd.func22, Tryd.ntmps22
    go_wp2_with (go_at_call 54; refine (iValsOk_any _ _ _ _ hl HR.out).mono ?_; rintro e wn ⟨rfl, hbn⟩; have hb := Below.next (w := w) (by repeat (first | with_reducible exact hb | with_reducible exact Below.refl _ _ | refine Below.drew ?_ | refine Below.setCell ?_ (by simp <;> omega) _ | refine Below.alloc ?_ (by simp <;> omega) _)) hbn; clear hbn)
    go_ret
    exact ⟨ret_string (by rw [HV.out]; rfl), hb⟩
  · have HV : Hid (valsHashS l = shortS (showValsS l)) := by unfold Hid valsHashS; rw [hok]; rfl
    go_enter Tryd.func22, Tryd.ntmps22
    go_wp2_with (first | (go_at_call 54; refine (iValsOk_any _ _ _ _ hl HR.out).mono ?_; rintro e wn ⟨rfl, hbn⟩; have hb := Below.next (w := w) (by repeat (first | with_reducible exact hb | with_reducible exact Below.refl _ _ | refine Below.drew ?_ | refine Below.setCell ?_ (by simp <;> omega) _ | refine Below.alloc ?_ (by simp <;> omega) _)) hbn; clear hbn) | (go_at_call 55; refine (iShowVals_any _ _ _ _ hl (HR.out.to hb)).mono ?_; rintro e wn ⟨rfl, hbn⟩; have hb := Below.next (w := w) (by repeat (first | with_reducible exact hb | with_reducible exact Below.refl _ _ | refine Below.drew ?_ | refine Below.setCell ?_ (by simp <;> omega) _ | refine Below.alloc ?_ (by simp <;> omega) _)) hbn; clear hbn) | (go_at_call 49; refine (HSH.out _ (HK.out.to hb)).mono ?_; rintro e wn ⟨rfl, hbn⟩; have hb := Below.next (w := w) (by repeat (first | with_reducible exact hb | with_reducible exact Below.refl _ _ | refine Below.drew ?_ | refine Below.setCell ?_ (by simp <;> omega) _ | refine Below.alloc ?_ (by simp <;> omega) _)) hbn; clear hbn))
    go_ret
    exact ⟨ret_string (by rw [HV.out]), hb⟩
theorem sValsHash_any (A : Option Addr) (c : Nat) (l : List ValT) (w : World) (hl : l.length ≤ 4194304) (hR : VReads w w.heap.size A l) :
    Calls Tryd.prog 20 #[.slice A l.length c] w fun e w' => e = .returned (.string (S (valsHashS l))) ∧ Below w.heap.size w w' := by
  have HR := Lib.hid hR
  have HSH := Lib.hid fun (W : World) => sShort_any (showValsS l) W (by have := showValsS_len l; omega)
  clear hR
  have hb := Below.refl w.heap.size w
  cases hok : valsOkB l
  · have HV : Hid (valsHashS l = []) := by unfold Hid valsHashS; rw [hok]; rfl
    go_enter Tryd.func20, Tryd.ntmps20
    go_wp2_with (go_at_call 51; refine (sValsOk_any _ _ _ _ hl HR.out).mono ?_; rintro e wn ⟨rfl, hbn⟩; have hb := Below.next (w := w) (by repeat (first | with_reducible exact hb | with_reducible exact Below.refl _ _ | refine Below.drew ?_ | refine Below.setCell ?_ (by simp <;> omega) _ | refine Below.alloc ?_ (by simp <;> omega) _)) hbn; clear hbn)
    go_ret
    exact ⟨ret_string (by rw [HV.out]; rfl), hb⟩
  · have HV : Hid (valsHashS l = shortS (showValsS l)) := by unfold Hid valsHashS; rw [hok]; rfl
    go_enter Tryd.func20, Tryd.ntmps20
    go_wp2_with (first | (go_at_call 51; refine (sValsOk_any _ _ _ _ hl HR.out).mono ?_; rintro e wn ⟨rfl, hbn⟩; have hb := Below.next (w := w) (by repeat (first | with_reducible exact hb | with_reducible exact Below.refl _ _ | refine Below.drew ?_ | refine Below.setCell ?_ (by simp <;> omega) _ | refine Below.alloc ?_ (by simp <;> omega) _)) hbn; clear hbn) | (go_at_call 52; refine (sShowVals_any _ _ _ _ hl (HR.out.to hb)).mono ?_; rintro e wn ⟨rfl, hbn⟩; have hb := Below.next (w := w) (by repeat (first | with_reducible exact hb | with_reducible exact Below.refl _ _ | refine Below.drew ?_ | refine Below.setCell ?_ (by simp <;> omega) _ | refine Below.alloc ?_ (by simp <;> omega) _)) hbn; clear hbn) | (go_at_call 46; refine (HSH.out _).mono ?_; rintro e wn ⟨rfl, hbn⟩; have hb := Below.next (w := w) (by repeat (first | with_reducible exact hb | with_reducible exact Below.refl _ _ | refine Below.drew ?_ | refine Below.setCell ?_ (by simp <;> omega) _ | refine Below.alloc ?_ (by simp <;> omega) _)) hbn; clear hbn))
    go_ret
    exact ⟨ret_string (by rw [HV.out]), hb⟩
end Go.Proofs.YtepfjacpfbdkeaaDoor
