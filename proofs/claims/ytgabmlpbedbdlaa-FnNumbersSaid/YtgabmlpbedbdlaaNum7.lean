/-
  Dec of the reference.
-/
import Derived.Test.YtgabmlpbedbdlaaNum1
import Derived.Test.YtgabmlpbedbdlaaMath5
namespace Go.Proofs.Ytgabmlpbedbdlaa
open Go.ChangeShapes Go.WideShapes Go.ChangeAt Go.RowKit
set_option linter.unusedVariables false
set_option maxRecDepth 100000

theorem sDec_zero (w : World) : Calls Try.prog 29 #[.int .i64 0] w fun e w' => e = .returned (.string (S (decS 0))) ∧ Below w.heap.size w w' := by
  go_enter Try.func29, Try.ntmps29
  go_wp2
  go_ret
  exact ⟨rfl, Below.refl _ _⟩

theorem sDec_pos (m : Nat) (w : World) (h0 : 0 < m) (hm : m ≤ 9223372036854775807) :
    Calls Try.prog 29 #[.int .i64 m] w fun e w' => e = .returned (.string (S (decS m))) ∧ Below w.heap.size w w' := by
  rw [decS_pos h0]
  have hcv := conv_one (P := Try.prog) 31 9 5 Try.underlying31 Try.underlying5 Try.underlying9
  go_enter Try.func29, Try.ntmps29
  go_wp2
  go_loopw [0, 3, 5] (fun n out d wr => ∃ (k q : Nat) (xs : List UInt8), k ≤ 19 ∧ q ≤ m ∧ xs.length + k ≤ 19 ∧ Hid (q < 10 ^ k) ∧ n = .int .i64 q ∧ out = .string (S xs) ∧ Hid (decF k q ++ xs = decF 19 m) ∧ Below w.heap.size w wr) (fun n _ _ _ => (intOf n).toNat)
  case atStart => exact ⟨19, m, [], by omega, by omega, by simp, by unfold Hid; omega, rfl, rfl, by simp [Hid], Below.refl _ _⟩
  case round =>
    obtain ⟨k, q, xs, hk, hqm, hxk, hqk, rfl, rfl, HX, hb⟩ := hrel
    by_cases hq : q = 0
    · subst hq
      rw [Hid, decF_zero] at HX
      have HX' := Lib.hid HX
      clear HX hqk
      go_wp2
      go_ret
      exact ⟨ret_string (by rw [← HX'.out]; rfl), hb⟩
    · obtain ⟨j, hj, hqj, hv⟩ := decF_step k q (by omega) hqk.out
      obtain rfl := hj
      rw [Hid, hv] at HX
      have HX' := Lib.hid HX
      have hqj' := Lib.hid hqj
      clear HX hqj hv hqk
      go_wp2
      go_roundw
      case rel => exact ⟨j, q / 10, UInt8.ofNat (48 + q % 10) :: xs, by omega, by omega, by simp; omega, hqj'.out, by go_num, by simp [UInt8.ofNat_add], by unfold Hid; rw [← HX'.out]; simp, hb.alloc hb.size _⟩
      case measure => simp [intOf]; omega
theorem sDec_neg (m : Nat) (w : World) (h0 : 0 < m) (hm : m ≤ 9223372036854775808) :
    Calls Try.prog 29 #[.int .i64 (-(m : Int))] w fun e w' => e = .returned (.string (S (decS (-(m : Int))))) ∧ Below w.heap.size w w' := by
  rw [decS_neg h0]
  have hcv := conv_one (P := Try.prog) 31 9 5 Try.underlying31 Try.underlying5 Try.underlying9
  go_enter Try.func29, Try.ntmps29
  go_wp2
  go_loopw [0, 3, 5] (fun n out d wr => ∃ (k q : Nat) (xs : List UInt8), k ≤ 19 ∧ q ≤ m ∧ xs.length + k ≤ 19 ∧ Hid (q < 10 ^ k) ∧ n = .int .i64 (-(q : Int)) ∧ out = .string (S xs) ∧ Hid (decF k q ++ xs = decF 19 m) ∧ Below w.heap.size w wr) (fun n _ _ _ => (-(intOf n)).toNat)
  case atStart => exact ⟨19, m, [], by omega, by omega, by simp, by unfold Hid; omega, rfl, rfl, by simp [Hid], Below.refl _ _⟩
  case round =>
    obtain ⟨k, q, xs, hk, hqm, hxk, hqk, rfl, rfl, HX, hb⟩ := hrel
    by_cases hq : q = 0
    · subst hq
      rw [Hid, decF_zero] at HX
      have HX' := Lib.hid HX
      clear HX hqk
      go_wp2
      go_ret
      exact ⟨ret_string (by rw [← HX'.out]; rfl), hb⟩
    · obtain ⟨j, hj, hqj, hv⟩ := decF_step k q (by omega) hqk.out
      obtain rfl := hj
      rw [Hid, hv] at HX
      have HX' := Lib.hid HX
      have hqj' := Lib.hid hqj
      clear HX hqj hv hqk
      have htm := tmod_neg q
      have htd := tdiv_neg q
      go_wp2
      · go_roundw
        case rel => exact ⟨j, q / 10, UInt8.ofNat (48 + q % 10) :: xs, by omega, by omega, by simp; omega, hqj'.out, by simp, by simp [UInt8.ofNat_add], by unfold Hid; rw [← HX'.out]; simp, hb.alloc hb.size _⟩
        case measure => simp [intOf]; omega
      · have hle : (q : Int) % 10 ≤ 0 := by assumption
        have ez : (48 + -((q : Int) % 10)).toNat = 48 + q % 10 := by omega
        go_roundw
        case rel => exact ⟨j, q / 10, UInt8.ofNat (48 + q % 10) :: xs, by omega, by omega, by simp; omega, hqj'.out, by simp, by rw [ez], by unfold Hid; rw [← HX'.out]; simp, hb.alloc hb.size _⟩
        case measure => simp [intOf]; omega
theorem sDec_any (n : Int) (w : World) (h1 : n ≤ 9223372036854775807) (h2 : -9223372036854775808 ≤ n) :
    Calls Try.prog 29 #[.int .i64 n] w fun e w' => e = .returned (.string (S (decS n))) ∧ Below w.heap.size w w' := by
  rcases Int.lt_trichotomy n 0 with h | rfl | h
  · obtain ⟨m, hm⟩ := Int.eq_ofNat_of_zero_le (a := -n) (by omega)
    obtain rfl : n = -(m : Int) := by omega
    exact sDec_neg m w (by omega) (by omega)
  · exact sDec_zero w
  · obtain ⟨m, rfl⟩ := Int.eq_ofNat_of_zero_le (a := n) (by omega)
    exact sDec_pos m w (by omega) (by omega)
end Go.Proofs.Ytgabmlpbedbdlaa
