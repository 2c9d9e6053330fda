/-
  Var, both.
-/
import Derived.Test.YtnmgecaflildoaaDoorNum1
import Derived.Test.YtnmgecaflildoaaDoorMath3
namespace Go.Proofs.YtnmgecaflildoaaDoor
open Go.ChangeShapes Go.WideShapes Go.ChangeAt Go.RowKit
set_option linter.unusedVariables false

theorem sVar_no (n : Int) (w : World) (h : n < 0 ∨ 562949953421311 < n) :
    Calls Tryd.prog 46 #[.int .i64 n] w fun e w' => e = .returned (.string (S (varS n))) ∧ Below w.heap.size w w' := by
  rw [varS_no h]
  go_enter Tryd.func46, Tryd.ntmps46
  go_wp2_with (go_at_call 44; refine (l1In_not _ _ _ _ h).mono ?_; rintro e w' ⟨rfl, rfl⟩)
  go_ret
  exact ⟨rfl, Below.refl _ _⟩
set_option maxRecDepth 100000 in
set_option maxHeartbeats 400000 in
theorem sVar_yes (m : Nat) (w : World) (hm : m ≤ 562949953421311) :
    Calls Tryd.prog 46 #[.int .i64 m] w fun e w' => e = .returned (.string (S (varS m))) ∧ Below w.heap.size w w' := by
  rw [varS_yes hm]
  obtain ⟨i0, hi, hz0, hz1, hz2⟩ := info_parts info_u8
  go_enter Tryd.func46, Tryd.ntmps46
  go_wp2_with (go_at_call 44; refine (l1In_yes _ _ _ _ (by omega) (by omega)).mono ?_; rintro e w' ⟨rfl, rfl⟩)
  go_loopw [0, 3] (fun n out wr => ∃ (k q : Nat) (xs : List UInt8), k ≤ 7 ∧ q ≤ m ∧ xs.length + k ≤ 7 ∧ Hid (q < 128 ^ k) ∧ n = .int .i64 q ∧ Hid (xs ++ varF k q = varL m) ∧ wr.ownsRow w.heap.size 5 1 out xs.length (xs.map bv) ∧ Below w.heap.size w wr) (fun n _ _ => (intOf n).toNat)
  case atStart => 
    refine ⟨7, m, [], by omega, by omega, by simp, by unfold Hid; omega, rfl, rfl, ?_, (Below.refl _ _).alloc (Nat.le_refl _) _⟩
    exact World.ownsRow_lit w #[] 0 (Nat.le_refl _) (by simp [maxLen]) rfl
  case round =>
    obtain ⟨k, q, xs, hk7, hqm, hxk, hqk, rfl, HX, hown, hb⟩ := hrel
    by_cases hlt : q < 128
    · have hx1 : Hid (xs ++ [UInt8.ofNat q] = varL m) := by unfold Hid; rw [← HX.out, varF_end k q hlt]
      have hbv := Lib.hid (bv_ofNat q (by omega))
      clear HX hqk
      go_wp2_with (at_builtin; refine app_lit rfl _ _ 22 rfl Tryd.underlying22 hi hz0 hz1 hz2 rfl (by decide) rfl hown hb rfl rfl (one_cell1 _ _) (by unfold maxLen; omega) (by omega) ?_; intro v1 w1 hown1 hb1; have hcv := conv_own (l := varL m) Tryd.underlying22 Tryd.underlying5 Tryd.underlying9 (by rw [← hx1.out, List.map_append, List.map_singleton, hbv.out]; exact hown1))
      go_ret
      exact ⟨rfl, hb1⟩
    · obtain ⟨j, hj, hqj, hv⟩ := varF_step k q (by omega) hqk.out
      obtain rfl := hj
      rw [Hid, hv] at HX
      have HX' := Lib.hid HX
      have hqj' := Lib.hid hqj
      have hbv := Lib.hid (bv_ofNat (128 + q % 128) (by omega))
      clear HX hqj hv hqk
      go_wp2_with (at_builtin; refine app_lit rfl _ _ 22 rfl Tryd.underlying22 hi hz0 hz1 hz2 rfl (by decide) rfl hown hb rfl rfl (one_cell1 _ _) (by unfold maxLen; omega) (by omega) ?_; intro v1 w1 hown1 hb1)
      go_roundw
      case rel => exact ⟨j, q / 128, xs ++ [UInt8.ofNat (128 + q % 128)], by omega, by omega, by simp; omega, hqj'.out, by go_num, by unfold Hid; rw [← HX'.out]; simp, by rw [List.map_append, List.map_singleton, hbv.out, List.length_append]; exact hown1, hb1⟩
      case measure => simp [intOf]; omega
theorem sVar_any (n : Int) (w : World) :
    Calls Tryd.prog 46 #[.int .i64 n] w fun e w' => e = .returned (.string (S (varS n))) ∧ Below w.heap.size w w' := by
  by_cases h : n < 0 ∨ 562949953421311 < n
  · exact sVar_no n w h
  · obtain ⟨m, rfl⟩ := Int.eq_ofNat_of_zero_le (a := n) (by omega)
    exact sVar_yes m w (by omega)
theorem iVar_no (n : Int) (w : World) (h : n < 0 ∨ 562949953421311 < n) :
    Calls Tryd.prog 28 #[.int .i64 n] w fun e w' => e = .returned (.string (S (varS n))) ∧ Below w.heap.size w w' := by
  rw [varS_no h]
  go_enter Tryd.func28, Tryd.ntmps28
  go_wp2_with (go_at_call 36; refine (within_not _ _ _ _ h).mono ?_; rintro e w' ⟨rfl, rfl⟩)
  go_ret
  exact ⟨rfl, Below.refl _ _⟩
set_option maxRecDepth 100000 in
set_option maxHeartbeats 400000 in
theorem iVar_yes (m : Nat) (w : World) (hm : m ≤ 562949953421311) :
    Calls Tryd.prog 28 #[.int .i64 m] w fun e w' => e = .returned (.string (S (varS m))) ∧ Below w.heap.size w w' := by
  rw [varS_yes hm]
  obtain ⟨i0, hi, hz0, hz1, hz2⟩ := info_parts info_u8
  go_enter Tryd.func28, Tryd.ntmps28
  go_wp2_with (go_at_call 36; refine (within_yes _ _ _ _ (by omega) (by omega)).mono ?_; rintro e w' ⟨rfl, rfl⟩)
  go_loopw [0, 3] (fun n out wr => ∃ (k q : Nat) (xs : List UInt8), k ≤ 7 ∧ q ≤ m ∧ xs.length + k ≤ 7 ∧ Hid (q < 128 ^ k) ∧ n = .int .i64 q ∧ Hid (xs ++ varF k q = varL m) ∧ wr.ownsRow w.heap.size 5 1 out xs.length (xs.map bv) ∧ Below w.heap.size w wr) (fun n _ _ => (intOf n).toNat)
  case atStart => 
    refine ⟨7, m, [], by omega, by omega, by simp, by unfold Hid; omega, rfl, rfl, ?_, (Below.refl _ _).alloc (Nat.le_refl _) _⟩
    exact World.ownsRow_lit w #[] 0 (Nat.le_refl _) (by simp [maxLen]) rfl
  case round =>
    obtain ⟨k, q, xs, hk7, hqm, hxk, hqk, rfl, HX, hown, hb⟩ := hrel
    by_cases hlt : q < 128
    · have hx1 : Hid (xs ++ [UInt8.ofNat q] = varL m) := by unfold Hid; rw [← HX.out, varF_end k q hlt]
      have hbv := Lib.hid (bv_ofNat q (by omega))
      clear HX hqk
      go_wp2_with (at_builtin; refine app_lit rfl _ _ 22 rfl Tryd.underlying22 hi hz0 hz1 hz2 rfl (by decide) rfl hown hb rfl rfl (one_cell1 _ _) (by unfold maxLen; omega) (by omega) ?_; intro v1 w1 hown1 hb1; have hcv := conv_own (l := varL m) Tryd.underlying22 Tryd.underlying5 Tryd.underlying9 (by rw [← hx1.out, List.map_append, List.map_singleton, hbv.out]; exact hown1))
      go_ret
      exact ⟨rfl, hb1⟩
    · obtain ⟨j, hj, hqj, hv⟩ := varF_step k q (by omega) hqk.out
      obtain rfl := hj
      rw [Hid, hv] at HX
      have HX' := Lib.hid HX
      have hqj' := Lib.hid hqj
      have hbv := Lib.hid (bv_ofNat (128 + q % 128) (by omega))
      have ha : bits .and .i64 (q : Int) 127 = (q : Int) % 128 := by have := and127 q (by omega); simpa using this
      have ho : bits .or .i64 ((q : Int) % 128) 128 = 128 + (q : Int) % 128 := by have := or_128 (q % 128) (by omega); simpa using this
      clear HX hqj hv hqk
      go_wp2_with (at_builtin; refine app_lit rfl _ _ 22 rfl Tryd.underlying22 hi hz0 hz1 hz2 rfl (by decide) rfl hown hb rfl rfl (one_cell1 _ _) (by unfold maxLen; omega) (by omega) ?_; intro v1 w1 hown1 hb1)
      go_roundw
      case rel => exact ⟨j, q / 128, xs ++ [UInt8.ofNat (128 + q % 128)], by omega, by omega, by simp; omega, hqj'.out, by go_num, by unfold Hid; rw [← HX'.out]; simp, by rw [List.map_append, List.map_singleton, hbv.out, List.length_append]; exact hown1, hb1⟩
      case measure => simp [intOf]; omega
theorem iVar_any (n : Int) (w : World) :
    Calls Tryd.prog 28 #[.int .i64 n] w fun e w' => e = .returned (.string (S (varS n))) ∧ Below w.heap.size w w' := by
  by_cases h : n < 0 ∨ 562949953421311 < n
  · exact iVar_no n w h
  · obtain ⟨m, rfl⟩ := Int.eq_ofNat_of_zero_le (a := n) (by omega)
    exact iVar_yes m w (by omega)
end Go.Proofs.YtnmgecaflildoaaDoor
