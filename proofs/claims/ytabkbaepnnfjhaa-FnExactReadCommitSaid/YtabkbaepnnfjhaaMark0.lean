/-
  The laws' markText.
-/
import Derived.Test.YtabkbaepnnfjhaaBase
import Derived.Test.YtabkbaepnnfjhaaMath10
import Derived.RegionTactic
import Derived.BigRegion
namespace Go.Proofs.Ytabkbaepnnfjhaa
open Go.ChangeShapes Go.WideShapes Go.ChangeAt Go.RowKit
set_option linter.unusedVariables false
set_option linter.unusedSimpArgs false
set_option maxRecDepth 100000

/-- A mark as a text. -/
def markT (k : Nat) : List UInt8 := 109 :: decF 19 k
theorem markText_any (k : Nat) (w : World) (h0 : 0 < k) (hk : k ≤ 8388608) :
    Calls Try.prog 95 #[.int .i64 k] w fun e w' => e = .returned (.string (S (markT k))) ∧ Below w.heap.size w w' := by
  have hcv := conv_one (P := Try.prog) 22 9 5 Try.underlying22 Try.underlying5 Try.underlying9
  go_enter Try.func95, Try.ntmps95
  go_wp2
  go_loopw [0, 3] (fun n out wr => ∃ (j q : Nat) (xs : List UInt8), j ≤ 19 ∧ q ≤ k ∧ xs.length + j ≤ 19 ∧ Hid (q < 10 ^ j) ∧ n = .int .i64 q ∧ out = .string (S xs) ∧ Hid (decF j q ++ xs = decF 19 k) ∧ Below w.heap.size w wr) (fun n _ _ => (intOf n).toNat)
  case atStart => exact ⟨19, k, [], by omega, by omega, by simp, by unfold Hid; omega, rfl, rfl, by simp [Hid], Below.refl _ _⟩
  case round =>
    obtain ⟨j, q, xs, hj, hqm, hxk, hqk, rfl, rfl, HX, hb⟩ := hrel
    by_cases hq : q = 0
    · subst hq
      rw [Hid, decF_zero] at HX
      have HX' := Lib.hid HX
      clear HX hqk
      go_wp2
      go_ret
      exact ⟨ret_string (by unfold markT; rw [← HX'.out]; rfl), hb⟩
    · obtain ⟨i, hi, hqj, hv⟩ := decF_step j q (by omega) hqk.out
      obtain rfl := hi
      rw [Hid, hv] at HX
      have HX' := Lib.hid HX
      have hqj' := Lib.hid hqj
      clear HX hqj hv hqk
      go_wp2
      go_roundw
      case rel => exact ⟨i, q / 10, UInt8.ofNat (48 + q % 10) :: xs, by omega, by omega, by simp; omega, hqj'.out, by go_num, by simp [UInt8.ofNat_add], by unfold Hid; rw [← HX'.out]; simp, hb.alloc hb.size _⟩
      case measure => simp [intOf]; omega
end Go.Proofs.Ytabkbaepnnfjhaa
