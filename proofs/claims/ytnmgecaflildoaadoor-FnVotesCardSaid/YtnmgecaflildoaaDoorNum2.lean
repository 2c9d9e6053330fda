/-
  Fixed of the reference.
-/
import Derived.Test.YtnmgecaflildoaaDoorNum1
import Derived.Test.YtnmgecaflildoaaDoorMath1
namespace Go.Proofs.YtnmgecaflildoaaDoor
open Go.ChangeShapes Go.WideShapes Go.ChangeAt Go.RowKit

theorem sFixed_no (n width : Int) (w : World) (h : width < 1 ∨ 7 < width ∨ n < 0) :
    Calls Tryd.prog 45 #[.int .i64 n, .int .i64 width] w fun e w' => e = .returned (.string (S (fixedS n width))) ∧ Below w.heap.size w w' := by
  rw [fixedS_no h]
  by_cases hw : 1 ≤ width ∧ width ≤ 7
  · have hn : n < 0 := by omega
    have h1 : (decide (1 ≤ width) && decide (width ≤ 7)) = true := by simp; omega
    clear h hw
    go_enter Tryd.func45, Tryd.ntmps45
    go_wp2_with (go_at_call 44; refine (l1In_any _ _ _ _).mono ?_; rintro e w' ⟨rfl, rfl⟩)
    go_ret
    exact ⟨rfl, Below.refl _ _⟩
  · have h1 : (decide (1 ≤ width) && decide (width ≤ 7)) = false := by simp; omega
    clear h hw
    go_enter Tryd.func45, Tryd.ntmps45
    go_wp2_with (go_at_call 44; refine (l1In_any _ _ _ _).mono ?_; rintro e w' ⟨rfl, rfl⟩)
    go_ret
    exact ⟨rfl, Below.refl _ _⟩

set_option maxHeartbeats 400000 in
theorem sFixed_yes (m v : Nat) (w : World) (h1 : 1 ≤ v) (h2 : v ≤ 7) (hm : m ≤ 9223372036854775807) :
    Calls Tryd.prog 45 #[.int .i64 m, .int .i64 v] w fun e w' => e = .returned (.string (S (fixedS m v))) ∧ Below w.heap.size w w' := by
  have hw : (decide ((1 : Int) ≤ v) && decide ((v : Int) ≤ 7)) = true := by simp; omega
  have hcv := conv_one (P := Tryd.prog) 22 9 5 Tryd.underlying22 Tryd.underlying5 Tryd.underlying9
  go_enter Tryd.func45, Tryd.ntmps45
  go_wp2_with (go_at_call 44; refine (l1In_any _ _ _ _).mono ?_; rintro e w' ⟨rfl, rfl⟩)
  go_loopw [0, 5, 6] (fun n out i wr => ∃ k q : Nat, k ≤ v ∧ i = .int .i64 k ∧ out = .string (S (fixedL k m)) ∧ n = .int .i64 q ∧ Hid (q = m / 256 ^ k) ∧ Below w.heap.size w wr) (fun _ _ i _ => v - (intOf i).toNat)
  case atStart => exact ⟨0, m, by omega, rfl, rfl, rfl, by simp [Hid], Below.refl _ _⟩
  case round =>
    obtain ⟨k, q, hk, rfl, rfl, rfl, HQ, hb⟩ := hrel
    have hq : q ≤ m := by rw [HQ.out]; exact Nat.div_le_self _ _
    by_cases hlt : k < v
    · have hlen := fixedL_length k m
      go_wp2
      go_roundw
      case rel => exact ⟨k + 1, q / 256, by omega, by go_num, by rw [fixedL_succ, ← HQ.out], by go_num, by rw [Hid, HQ.out, Nat.div_div_eq_div_mul, ← Nat.pow_succ], hb.alloc hb.size _⟩
      case measure => simp [intOf]; omega
    · have hkv : Hid (k = v) := by unfold Hid; omega
      go_wp2
      · have hq0 : 0 < q := by assumption
        go_ret
        refine ⟨ret_string ?_, hb⟩
        rw [fixedS_big (by rw [← div_pow_pos, ← hkv.out, ← HQ.out]; exact hq0)]; rfl
      · have hq0 : ¬ 0 < q := by assumption
        go_ret
        refine ⟨ret_string ?_, hb⟩
        rw [hkv.out] at HQ ⊢
        rw [fixedS_yes h1 h2]
        have := HQ.out
        have h3 := (div_pow_pos (m := m) (v := v)).2
        omega
/-- The reference's Fixed, at every argument. -/
theorem sFixed_any (n width : Int) (w : World) (hn : n ≤ 9223372036854775807) :
    Calls Tryd.prog 45 #[.int .i64 n, .int .i64 width] w fun e w' => e = .returned (.string (S (fixedS n width))) ∧ Below w.heap.size w w' := by
  by_cases h : width < 1 ∨ 7 < width ∨ n < 0
  · exact sFixed_no n width w h
  · obtain ⟨m, rfl⟩ := Int.eq_ofNat_of_zero_le (a := n) (by omega)
    obtain ⟨v, rfl⟩ := Int.eq_ofNat_of_zero_le (a := width) (by omega)
    exact sFixed_yes m v w (by omega) (by omega) (by omega)
end Go.Proofs.YtnmgecaflildoaaDoor
