/-
  SignAs: both sides.
-/
import Derived.Test.YtnmgecaflildoaaDoorLeaf1
import Derived.Test.YtnmgecaflildoaaDoorHs0
import Derived.Test.YtnmgecaflildoaaDoorNum2
namespace Go.Proofs.YtnmgecaflildoaaDoor
open Go.ChangeShapes Go.WideShapes Go.ChangeAt Go.RowKit
set_option linter.unusedVariables false
set_option linter.unusedSimpArgs false
set_option maxRecDepth 100000

/-! SignAs. -/
theorem sSignAs_any (v : Int) (d : List UInt8) (w : World) (hl : d.length ≤ 4194000) :
    Calls Tryd.prog 19 #[.int .i64 v, .string (S d)] w fun e w' => e = .returned (.string (S (signAsS v d))) ∧ Below w.heap.size w w' := by
  have hb := Below.refl w.heap.size w
  by_cases h1 : inB v 1 99 = true
  · have HV : Hid (signAsS v d = shortS (4 :: (fixedS v 2 ++ d))) := by unfold Hid signAsS; rw [h1]; rfl
    obtain ⟨b1, b2⟩ := inB_true h1
    have hS := S_cons1 4 (fixedS v 2)
    have hfl : (fixedS v 2).length ≤ 7 := by unfold fixedS; split <;> simp
    have HF := Lib.hid fun W : World => sFixed_any v 2 W (by omega)
    have HSH := Lib.hid fun W : World => sShort_any (4 :: (fixedS v 2 ++ d)) W (by simp; omega)
    generalize fixedS v 2 = f at *
    go_enter Tryd.func19, Tryd.ntmps19
    go_wp2_with (first | (go_at_call 44; refine (l1In_b _ _ _ _).mono ?_; rintro e w' ⟨rfl, rfl⟩) | (go_at_call 45; refine (HF.out _).mono ?_; rintro e wn ⟨rfl, hbn⟩; have hb := Below.next (w := w) (by repeat (first | with_reducible exact hb | with_reducible exact Below.refl _ _ | refine Below.drew ?_ | refine Below.setCell ?_ (by simp <;> omega) _ | refine Below.alloc ?_ (by simp <;> omega) _)) hbn; clear hbn) | (go_at_call 41; refine (HSH.out _).mono ?_; rintro e wn ⟨rfl, hbn⟩; have hb := Below.next (w := w) (by repeat (first | with_reducible exact hb | with_reducible exact Below.refl _ _ | refine Below.drew ?_ | refine Below.setCell ?_ (by simp <;> omega) _ | refine Below.alloc ?_ (by simp <;> omega) _)) hbn; clear hbn))
    go_ret
    exact ⟨ret_string (by rw [HV.out]), hb⟩
  · have h1' : inB v 1 99 = false := by simpa using h1
    have HV : Hid (signAsS v d = []) := by unfold Hid signAsS; rw [h1']; rfl
    clear h1
    go_enter Tryd.func19, Tryd.ntmps19
    go_wp2_with (go_at_call 44; refine (l1In_b _ _ _ _).mono ?_; rintro e w' ⟨rfl, rfl⟩)
    go_ret
    exact ⟨ret_string (by rw [HV.out]; rfl), hb⟩
theorem isVal_in (x : Int) (w : World) :
    Calls Tryd.prog 25 #[.int .i64 x] w fun e w' => e = .returned (.bool (inB x 1 99)) ∧ w = w' := by
  go_enter Tryd.func25, Tryd.ntmps25
  go_wp2_with (go_at_call 36; refine (within_b _ _ _ _).mono ?_; rintro e w' ⟨rfl, rfl⟩)
  go_ret
  exact ⟨rfl, rfl⟩
theorem iSignAs_any (v : Int) (d : List UInt8) (w : World) (hl : d.length ≤ 4194000) (hK : HasK w) :
    Calls Tryd.prog 9 #[.int .i64 v, .string (S d)] w fun e w' => e = .returned (.string (S (signAsS v d))) ∧ Below w.heap.size w w' := by
  have hb := Below.refl w.heap.size w
  have HK := Lib.hid hK
  clear hK
  by_cases h1 : inB v 1 99 = true
  · have HV : Hid (signAsS v d = shortS (4 :: (fixedS v 2 ++ d))) := by unfold Hid signAsS; rw [h1]; rfl
    obtain ⟨b1, b2⟩ := inB_true h1
    have hS := S_cons1 4 (fixedS v 2)
    have hfl : (fixedS v 2).length ≤ 7 := by unfold fixedS; split <;> simp
    have HF := Lib.hid fun W : World => iFixed_any v 2 W (by omega)
    have HSH := Lib.hid fun (W : World) (h : HasK W) => iShort_any (4 :: (fixedS v 2 ++ d)) W (by simp; omega) h
    generalize fixedS v 2 = f at *
    go_enter Tryd.func9, Tryd.ntmps9
    go_wp2_with (first | (go_at_call 25; refine (isVal_in _ _).mono ?_; rintro e w' ⟨rfl, rfl⟩) | (go_at_call 27; refine (HF.out _).mono ?_; rintro e wn ⟨rfl, hbn⟩; have hb := Below.next (w := w) (by repeat (first | with_reducible exact hb | with_reducible exact Below.refl _ _ | refine Below.drew ?_ | refine Below.setCell ?_ (by simp <;> omega) _ | refine Below.alloc ?_ (by simp <;> omega) _)) hbn; clear hbn) | (go_at_call 26; refine (HSH.out _ (HK.out.to hb)).mono ?_; rintro e wn ⟨rfl, hbn⟩; have hb := Below.next (w := w) (by repeat (first | with_reducible exact hb | with_reducible exact Below.refl _ _ | refine Below.drew ?_ | refine Below.setCell ?_ (by simp <;> omega) _ | refine Below.alloc ?_ (by simp <;> omega) _)) hbn; clear hbn))
    go_ret
    exact ⟨ret_string (by rw [HV.out]), hb⟩
  · have h1' : inB v 1 99 = false := by simpa using h1
    have HV : Hid (signAsS v d = []) := by unfold Hid signAsS; rw [h1']; rfl
    clear h1
    go_enter Tryd.func9, Tryd.ntmps9
    go_wp2_with (go_at_call 25; refine (isVal_in _ _).mono ?_; rintro e w' ⟨rfl, rfl⟩)
    go_ret
    exact ⟨ret_string (by rw [HV.out]; rfl), hb⟩
end Go.Proofs.YtnmgecaflildoaaDoor
