/-
  Fixed of the program.
-/
import Derived.Test.YtnmgecaflildoaaDoorNum1
import Derived.Test.YtnmgecaflildoaaDoorMath1
namespace Go.Proofs.YtnmgecaflildoaaDoor
open Go.ChangeShapes Go.WideShapes Go.ChangeAt Go.RowKit


theorem shl_pow (v : Nat) (h2 : v ≤ 7) : wrap64 ((2 : Int) ^ (8 * v)) = ((256 ^ v : Nat) : Int) := by
  match v, h2 with
  | 0, _ => simp [wrap64]
  | 1, _ => simp [wrap64]
  | 2, _ => simp [wrap64]
  | 3, _ => simp [wrap64]
  | 4, _ => simp [wrap64]
  | 5, _ => simp [wrap64]
  | 6, _ => simp [wrap64]
  | 7, _ => simp [wrap64]

set_option maxHeartbeats 400000 in
theorem iFixed_no (n width : Int) (w : World) (h : width < 1 ∨ 7 < width ∨ n < 0) :
    Calls Tryd.prog 27 #[.int .i64 n, .int .i64 width] w fun e w' => e = .returned (.string (S (fixedS n width))) ∧ Below w.heap.size w w' := by
  rw [fixedS_no h]
  by_cases hw : 1 ≤ width ∧ width ≤ 7
  · have hn : n < 0 := by omega
    have h1 : (decide (1 ≤ width) && decide (width ≤ 7)) = true := by simp; omega
    clear h hw
    go_enter Tryd.func27, Tryd.ntmps27
    go_wp2_with (go_at_call 36; refine (within_any _ _ _ _).mono ?_; rintro e w' ⟨rfl, rfl⟩)
    go_ret
    exact ⟨rfl, Below.refl _ _⟩
  · have h1 : (decide (1 ≤ width) && decide (width ≤ 7)) = false := by simp; omega
    clear h hw
    go_enter Tryd.func27, Tryd.ntmps27
    go_wp2_with (go_at_call 36; refine (within_any _ _ _ _).mono ?_; rintro e w' ⟨rfl, rfl⟩)
    go_ret
    exact ⟨rfl, Below.refl _ _⟩

theorem iFixed_big (m v : Nat) (w : World) (h1 : 1 ≤ v) (h2 : v ≤ 7) (hv : 256 ^ v ≤ m) :
    Calls Tryd.prog 27 #[.int .i64 m, .int .i64 v] w fun e w' => e = .returned (.string (S (fixedS m v))) ∧ Below w.heap.size w w' := by
  rw [fixedS_big hv]
  have hw : (decide ((1 : Int) ≤ v) && decide ((v : Int) ≤ 7)) = true := by simp; omega
  have hs := shl_pow v h2
  generalize 256 ^ v = p at *
  go_enter Tryd.func27, Tryd.ntmps27
  go_wp2_with (go_at_call 36; refine (within_any _ _ _ _).mono ?_; rintro e w' ⟨rfl, rfl⟩)
  go_ret
  exact ⟨rfl, Below.refl _ _⟩

theorem fill_step (m v j q : Nat) (hj : j < v) (hq : q = m / 256 ^ j) :
    ((List.replicate (v - j) (0 : UInt8) ++ fixedL j m).map bv).set (v - 1 - j) (.int .u8 ((q % 256 : Nat) : Int)) = (List.replicate (v - (j + 1)) (0 : UInt8) ++ fixedL (j + 1) m).map bv := by
  have e : v - j = (v - (j + 1)) + 1 := by omega
  rw [e, List.replicate_succ', List.append_assoc, List.map_append, List.set_append_right _ _ (by simp; omega)]
  rw [fixedL_succ, ← hq]
  have e2 : v - 1 - j - (List.map bv (List.replicate (v - (j + 1)) 0)).length = 0 := by simp; omega
  rw [e2, List.map_append]
  simp [bv]

set_option maxHeartbeats 400000 in
theorem iFixed_yes (m v : Nat) (w : World) (h1 : 1 ≤ v) (h2 : v ≤ 7) (hv : m < 256 ^ v) (hm : m ≤ 9223372036854775807) :
    Calls Tryd.prog 27 #[.int .i64 m, .int .i64 v] w fun e w' => e = .returned (.string (S (fixedS m v))) ∧ Below w.heap.size w w' := by
  rw [fixedS_yes h1 h2 hv]
  have hw : (decide ((1 : Int) ≤ v) && decide ((v : Int) ≤ 7)) = true := by simp; omega
  have hs := shl_pow v h2
  generalize 256 ^ v = p at *
  obtain ⟨i0, hi, hz0, hz1, hz2⟩ := info_parts info_u8
  go_enter Tryd.func27, Tryd.ntmps27
  go_wp2_with (first
    | (go_at_call 36; refine (within_any _ _ _ _).mono ?_; rintro e w' ⟨rfl, rfl⟩)
    | (at_make; refine wpList_make_full _ rfl _ _ 22 rfl w.heap.size 5 i0 _ 1 Tryd.underlying22 hi hz0 hz1 .i64 .i64 v v v rfl rfl rfl rfl (by rw [hz2]; omega) (by unfold maxLen; omega) (Nat.le_refl _) ?_; intro w1 hown hgrow))
  have hb1 : Below w.heap.size w w1 := (Below.refl _ _).grown hgrow (Nat.le_refl _) (fun _ h => by cases h)
  clear hs
  go_loopw [0, 6] (fun n i wr => ∃ j q : Nat, j ≤ v ∧ q ≤ m ∧ i = .int .i64 ((v : Int) - 1 - j) ∧ n = .int .i64 q ∧ Hid (q = m / 256 ^ j) ∧ wr.ownsRow w.heap.size 5 1 (.slice (some ⟨w.heap.size, 0, none⟩) v v) v ((List.replicate (v - j) (0 : UInt8) ++ fixedL j m).map bv) ∧ Below w.heap.size w wr) (fun _ i _ => (intOf i + 1).toNat)
  case atStart => exact ⟨0, m, by omega, by omega, by simp, rfl, by simp [Hid], by rw [Nat.mul_one, made_bytes] at hown; simpa [fixedL] using hown, hb1⟩
  case round =>
    obtain ⟨j, q, hj, hqm, rfl, rfl, HQ, hown, hb⟩ := hrel
    by_cases hlt : j < v
    · obtain ⟨u0, hc⟩ := own_some hown (j := v - 1 - j) (by omega)
      have hf := hown.frozenAt (v - 1 - j)
      have hba := and255 q (by omega)
      have hst := hown.stored (v - 1 - j) (.int .u8 ((q % 256 : Nat) : Int))
      rw [fill_step m v j q hlt HQ.out] at hst
      have hst1 := Lib.hid hst.1
      clear hst hown
      go_wp2
      go_roundw
      case rel => exact ⟨j + 1, q / 256, by omega, by omega, by go_num, by go_num, by rw [Hid, HQ.out, Nat.div_div_eq_div_mul, ← Nat.pow_succ], by simpa using hst1.out, hb.setCell (Nat.le_refl _) _⟩
      case measure => simp [intOf]; omega
    · have hkv : Hid (j = v) := by unfold Hid; omega
      have hcv := conv_own Tryd.underlying22 Tryd.underlying5 Tryd.underlying9 hown
      go_wp2
      go_ret
      exact ⟨ret_string (by rw [hkv.out]; simp), hb⟩
/-- The program's Fixed, at every argument. -/
theorem iFixed_any (n width : Int) (w : World) (hn : n ≤ 9223372036854775807) :
    Calls Tryd.prog 27 #[.int .i64 n, .int .i64 width] w fun e w' => e = .returned (.string (S (fixedS n width))) ∧ Below w.heap.size w w' := by
  by_cases h : width < 1 ∨ 7 < width ∨ n < 0
  · exact iFixed_no n width w h
  · obtain ⟨m, rfl⟩ := Int.eq_ofNat_of_zero_le (a := n) (by omega)
    obtain ⟨v, rfl⟩ := Int.eq_ofNat_of_zero_le (a := width) (by omega)
    by_cases hv : m < 256 ^ v
    · exact iFixed_yes m v w (by omega) (by omega) hv (by omega)
    · exact iFixed_big m v w (by omega) (by omega) (by omega)
end Go.Proofs.YtnmgecaflildoaaDoor
