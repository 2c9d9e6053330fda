/-
  Unhex, both.
-/
import Derived.Test.YtgabmlpbedbdlaaNum9
import Derived.Test.YtgabmlpbedbdlaaMath8
namespace Go.Proofs.Ytgabmlpbedbdlaa
open Go.ChangeShapes Go.WideShapes Go.ChangeAt Go.RowKit
set_option linter.unusedVariables false
set_option linter.unusedSimpArgs false
set_option maxRecDepth 100000

theorem hexValue_any (b : UInt8) (w : World) : Calls Try.prog 54 #[.int .u8 (b.toNat : Int)] w fun e w' => e = .returned (.int .i64 (hexV b)) ∧ w' = w := by
  have hb := b.toNat_lt
  by_cases h1 : 48 ≤ b.toNat
  · by_cases h2 : b.toNat ≤ 57
    · have HV : Hid (hexV b = (b.toNat : Int) - 48) := by unfold Hid hexV; rw [if_pos (by omega)]
      go_enter Try.func54, Try.ntmps54
      go_wp2
      go_ret
      exact ⟨ret_int HV.out.symm, rfl⟩
    · by_cases h3 : 97 ≤ b.toNat
      · by_cases h4 : b.toNat ≤ 102
        · have HV : Hid (hexV b = (b.toNat : Int) - 87) := by unfold Hid hexV; rw [if_neg (by omega), if_pos (by omega)]
          go_enter Try.func54, Try.ntmps54
          go_wp2
          go_ret
          exact ⟨ret_int (by rw [HV.out]; omega), rfl⟩
        · have HV : Hid (hexV b = -1) := by unfold Hid hexV; rw [if_neg (by omega), if_neg (by omega)]
          go_enter Try.func54, Try.ntmps54
          go_wp2
          go_ret
          exact ⟨ret_int HV.out.symm, rfl⟩
      · have HV : Hid (hexV b = -1) := by unfold Hid hexV; rw [if_neg (by omega), if_neg (by omega)]
        go_enter Try.func54, Try.ntmps54
        go_wp2
        go_ret
        exact ⟨ret_int HV.out.symm, rfl⟩
  · have HV : Hid (hexV b = -1) := by unfold Hid hexV; rw [if_neg (by omega), if_neg (by omega)]
    go_enter Try.func54, Try.ntmps54
    go_wp2
    go_ret
    exact ⟨ret_int HV.out.symm, rfl⟩

theorem l1FromHex_any (b : UInt8) (w : World) : Calls Try.prog 53 #[.int .u8 (b.toNat : Int)] w fun e w' => e = .returned (.int .i64 (hexV b)) ∧ w = w' := by
  go_enter Try.func53, Try.ntmps53
  go_wp2
  go_loop [3] (fun i => ∃ k : Nat, k ≤ 16 ∧ i = .int .i64 k ∧ Hid (∀ j, j < k → hexD j ≠ b)) (fun i => 16 - (intOf i).toNat)
  case atStart => exact ⟨0, by omega, rfl, fun j h => absurd h (by omega)⟩
  case round =>
    obtain ⟨k, hk, rfl, HN⟩ := hrel
    by_cases hlt : k < 16
    · by_cases hh : hexD k = b
      · have HV : Hid (hexV b = k) := by unfold Hid; rw [← hh]; exact hexV_of k hlt
        subst hh
        go_wp2_with (go_at_call 40; refine (l1Digit_any _ _ (by omega) (by omega)).mono ?_; rintro e w' ⟨rfl, rfl⟩)
        go_ret
        exact ⟨ret_int HV.out.symm, rfl⟩
      · have hne : (((hexD k).toNat : Int) == (b.toNat : Int)) = false := by
          rw [beq_eq_false_iff_ne]
          intro h
          exact hh (UInt8.toNat.inj (by omega))
        have HN' : Hid (∀ j, j < k + 1 → hexD j ≠ b) := fun j hj => by
          rcases Nat.lt_or_ge j k with h | h
          · exact HN.out j h
          · obtain rfl : j = k := by omega
            exact hh
        go_wp2_with (go_at_call 40; refine (l1Digit_any _ _ (by omega) (by omega)).mono ?_; rintro e w' ⟨rfl, rfl⟩)
        go_round
        case rel => exact ⟨k + 1, by omega, by go_num, HN'⟩
        case measure => simp [intOf]; omega
    · have HV : Hid (hexV b = -1) := hexV_none b fun j hj => HN.out j (by omega)
      go_wp2
      go_ret
      exact ⟨ret_int HV.out.symm, rfl⟩
theorem sUnhex_odd (l : List UInt8) (w : World) (hl : l.length ≤ 1048576) (h : l.length % 2 = 1) :
    Calls Try.prog 31 #[.string (S l)] w fun e w' => e = .returned (.tuple #[.string (S (unhexS l).1), .bool (unhexS l).2]) ∧ Below w.heap.size w w' := by
  rw [unhexS_none (unhexF_odd _ l (Nat.le_refl _) h)]
  have h1 : (l.length : Int) % 2 = 1 := by omega
  clear h
  go_enter Try.func31, Try.ntmps31
  go_wp2
  go_ret2
  exact ⟨rfl, by first | exact Below.refl _ _ | exact (Below.refl _ _).alloc (Nat.le_refl _) _⟩

set_option maxHeartbeats 800000 in
theorem sUnhex_even (l : List UInt8) (w : World) (hl : l.length ≤ 1048576) (h : l.length % 2 = 0) :
    Calls Try.prog 31 #[.string (S l)] w fun e w' => e = .returned (.tuple #[.string (S (unhexS l).1), .bool (unhexS l).2]) ∧ Below w.heap.size w w' := by
  have h1 : (l.length : Int) % 2 = 0 := by omega
  have HE := Lib.hid h
  clear h
  obtain ⟨i0, hi, hz0, hz1, hz2⟩ := info_parts info_u8
  go_enter Try.func31, Try.ntmps31
  go_wp2
  clear h1
  go_loopw [4, 5, 6, 7] (fun out i _ _ wr => ∃ (m : Nat) (ys : List UInt8), m ≤ l.length ∧ ys.length ≤ m ∧ i = .int .i64 m ∧ Hid (UnhexAt l m ys) ∧ wr.ownsRow w.heap.size 5 1 out ys.length (ys.map bv) ∧ Below w.heap.size w wr) (fun _ i _ _ _ => l.length - (intOf i).toNat)
  case atStart => exact ⟨0, [], by omega, by simp, rfl, UnhexAt.start l, World.ownsRow_lit w #[] 0 (Nat.le_refl _) (by simp [maxLen]) rfl, (Below.refl _ _).alloc (Nat.le_refl _) _⟩
  case round =>
    obtain ⟨m, ys, hm, hym, rfl, HU, hown, hb⟩ := hrel
    by_cases hlt : m < l.length
    · have hm1 : m + 1 < l.length := by have := HU.out.1; have := HE.out; omega
      have lo1 := hexV_lo l[m]
      have lo2 := hexV_lo l[m + 1]
      have hi1 := hexV_hi l[m]
      have hi2 := hexV_hi l[m + 1]
      by_cases ha : hexV l[m] < 0
      · have HV : Hid (unhexS l = ([], false)) := unhexS_none (HU.out.bad hm1 (.inl ha))
        go_wp2_with (go_at_call 53; refine (l1FromHex_any _ _).mono ?_; rintro e w' ⟨rfl, rfl⟩)
        go_ret2
        exact ⟨by rw [HV.out]; rfl, hb⟩
      · by_cases hb2 : hexV l[m + 1] < 0
        · have HV : Hid (unhexS l = ([], false)) := unhexS_none (HU.out.bad hm1 (.inr hb2))
          go_wp2_with (go_at_call 53; refine (l1FromHex_any _ _).mono ?_; rintro e w' ⟨rfl, rfl⟩)
          go_ret2
          exact ⟨by rw [HV.out]; rfl, hb⟩
        · have HS := Lib.hid (HU.out.step hm1 (by omega) (by omega))
          have ha' : 0 ≤ hexV l[m] := by omega
          have hb' : 0 ≤ hexV l[m + 1] := by omega
          have hbv := Lib.hid (bv_ofNat (16 * (hexV l[m]).toNat + (hexV l[m + 1]).toNat) (by omega))
          have hval : Hid (((16 * (hexV l[m]).toNat + (hexV l[m + 1]).toNat : Nat) : Int) = 16 * hexV l[m] + hexV l[m + 1]) := by unfold Hid; omega
          have hor : bits .or .i64 (hexV l[m] * 16) (hexV l[m + 1]) = 16 * hexV l[m] + hexV l[m + 1] := by
            obtain ⟨x, hx⟩ := Int.eq_ofNat_of_zero_le ha'
            obtain ⟨y, hy⟩ := Int.eq_ofNat_of_zero_le hb'
            rw [hx, hy]
            exact or_16 x y (by omega) (by omega)
          go_wp2_with (first | (go_at_call 53; refine (l1FromHex_any _ _).mono ?_; rintro e w' ⟨rfl, rfl⟩) | (at_builtin; refine app_lit rfl _ _ 31 rfl Try.underlying31 hi hz0 hz1 hz2 rfl (by decide) rfl hown hb rfl rfl (one_cell1 _ _) (by unfold maxLen; omega) (by omega) ?_; intro v1 w1 hown1 hb1))
          go_roundw
          case rel => exact ⟨m + 2, ys ++ [UInt8.ofNat (16 * (hexV l[m]).toNat + (hexV l[m + 1]).toNat)], by omega, by simp; omega, by go_num, HS.out, by rw [List.map_append, List.map_singleton, hbv.out, hval.out, List.length_append]; exact hown1, hb1⟩
          case measure => simp [intOf]; omega
    · have HV : Hid (unhexS l = (ys, true)) := unhexS_some (HU.out.fin (by omega))
      have hcv := conv_own Try.underlying31 Try.underlying5 Try.underlying9 hown
      go_wp2
      go_ret2
      exact ⟨by rw [HV.out]; rfl, hb⟩

theorem iUnhex_odd (l : List UInt8) (w : World) (hl : l.length ≤ 1048576) (h : l.length % 2 = 1) :
    Calls Try.prog 32 #[.string (S l)] w fun e w' => e = .returned (.tuple #[.string (S (unhexS l).1), .bool (unhexS l).2]) ∧ Below w.heap.size w w' := by
  rw [unhexS_none (unhexF_odd _ l (Nat.le_refl _) h)]
  have h1 : (l.length : Int) % 2 = 1 := by omega
  clear h
  go_enter Try.func32, Try.ntmps32
  go_wp2
  go_ret2
  exact ⟨rfl, by first | exact Below.refl _ _ | exact (Below.refl _ _).alloc (Nat.le_refl _) _⟩

set_option maxHeartbeats 800000 in
theorem iUnhex_even (l : List UInt8) (w : World) (hl : l.length ≤ 1048576) (h : l.length % 2 = 0) :
    Calls Try.prog 32 #[.string (S l)] w fun e w' => e = .returned (.tuple #[.string (S (unhexS l).1), .bool (unhexS l).2]) ∧ Below w.heap.size w w' := by
  have h1 : (l.length : Int) % 2 = 0 := by omega
  have HE := Lib.hid h
  clear h
  obtain ⟨i0, hi, hz0, hz1, hz2⟩ := info_parts info_u8
  go_enter Try.func32, Try.ntmps32
  go_wp2_with (at_make; refine wpList_make_own _ rfl _ _ 31 rfl w.heap.size 5 i0 _ 1 Try.underlying31 hi hz0 hz1 .i64 .i64 _ (l.length / 2) rfl rfl (by omega) (by rw [hz2]; omega) (by unfold maxLen; omega) (Nat.le_refl _) ?_; intro w1 hown hgrow)
  have hb1 : Below w.heap.size w w1 := (Below.refl _ _).grown hgrow (Nat.le_refl _) (fun _ h => by cases h)
  clear h1
  go_loopw [4, 5, 6, 7] (fun out i _ _ wr => ∃ (m : Nat) (ys : List UInt8), m ≤ l.length ∧ ys.length ≤ m ∧ i = .int .i64 m ∧ Hid (UnhexAt l m ys) ∧ wr.ownsRow w.heap.size 5 1 out ys.length (ys.map bv) ∧ Below w.heap.size w wr) (fun _ i _ _ _ => l.length - (intOf i).toNat)
  case atStart => exact ⟨0, [], by omega, by simp, rfl, UnhexAt.start l, hown, hb1⟩
  case round =>
    obtain ⟨m, ys, hm, hym, rfl, HU, hown, hb⟩ := hrel
    by_cases hlt : m < l.length
    · have hm1 : m + 1 < l.length := by have := HU.out.1; have := HE.out; omega
      have lo1 := hexV_lo l[m]
      have lo2 := hexV_lo l[m + 1]
      have hi1 := hexV_hi l[m]
      have hi2 := hexV_hi l[m + 1]
      by_cases ha : hexV l[m] < 0
      · have HV : Hid (unhexS l = ([], false)) := unhexS_none (HU.out.bad hm1 (.inl ha))
        have e1 : IntKind.i64.wrap ((m : Int) + 1) = (m : Int) + 1 := by rw [IntKind.wrap_i64]; omega
        have e2 : ((m : Int) + 1).toNat = m + 1 := by omega
        have e3 : 0 ≤ (m : Int) + 1 := by omega
        have e4 : (m : Int) + 1 < l.length := by omega
        go_wp2
        go_quiet ((go_at_call 54; exact Calls.quiet_of_same (hexValue_any _ _)))
        have hbd : Below w.heap.size w (wr.drewN nq) := below_drewN hb nq
        go_wp2
        go_ret2
        exact ⟨by rw [HV.out]; rfl, hbd⟩
      · by_cases hb2 : hexV l[m + 1] < 0
        · have HV : Hid (unhexS l = ([], false)) := unhexS_none (HU.out.bad hm1 (.inr hb2))
          have e1 : IntKind.i64.wrap ((m : Int) + 1) = (m : Int) + 1 := by rw [IntKind.wrap_i64]; omega
          have e2 : ((m : Int) + 1).toNat = m + 1 := by omega
          have e3 : 0 ≤ (m : Int) + 1 := by omega
          have e4 : (m : Int) + 1 < l.length := by omega
          go_wp2
          go_quiet ((go_at_call 54; exact Calls.quiet_of_same (hexValue_any _ _)))
          have hbd : Below w.heap.size w (wr.drewN nq) := below_drewN hb nq
          go_wp2
          go_ret2
          exact ⟨by rw [HV.out]; rfl, hbd⟩
        · have HS := Lib.hid (HU.out.step hm1 (by omega) (by omega))
          have ha' : 0 ≤ hexV l[m] := by omega
          have hb' : 0 ≤ hexV l[m + 1] := by omega
          have hbv := Lib.hid (bv_ofNat (16 * (hexV l[m]).toNat + (hexV l[m + 1]).toNat) (by omega))
          have hval : Hid (((16 * (hexV l[m]).toNat + (hexV l[m + 1]).toNat : Nat) : Int) = 16 * hexV l[m] + hexV l[m + 1]) := by unfold Hid; omega
          have hor : bits .or .i64 (hexV l[m] * 16) (hexV l[m + 1]) = 16 * hexV l[m] + hexV l[m + 1] := by
            obtain ⟨x, hx⟩ := Int.eq_ofNat_of_zero_le ha'
            obtain ⟨y, hy⟩ := Int.eq_ofNat_of_zero_le hb'
            rw [hx, hy]
            exact or_16 x y (by omega) (by omega)
          have e1 : IntKind.i64.wrap ((m : Int) + 1) = (m : Int) + 1 := by rw [IntKind.wrap_i64]; omega
          have e2 : ((m : Int) + 1).toNat = m + 1 := by omega
          have e3 : 0 ≤ (m : Int) + 1 := by omega
          have e4 : (m : Int) + 1 < l.length := by omega
          go_wp2
          go_quiet ((go_at_call 54; exact Calls.quiet_of_same (hexValue_any _ _)))
          have hbd : Below w.heap.size w (wr.drewN nq) := below_drewN hb nq
          go_wp2_with (at_builtin; refine app_lit rfl _ _ 31 rfl Try.underlying31 hi hz0 hz1 hz2 rfl (by decide) rfl hown hbd rfl rfl (one_cell1 _ _) (by unfold maxLen; omega) (by omega) ?_; intro v1 w1 hown1 hb1)
          go_roundw
          case rel => exact ⟨m + 2, ys ++ [UInt8.ofNat (16 * (hexV l[m]).toNat + (hexV l[m + 1]).toNat)], by omega, by simp; omega, by go_num, HS.out, by rw [List.map_append, List.map_singleton, hbv.out, hval.out, List.length_append]; exact hown1, hb1⟩
          case measure => simp [intOf]; omega
    · have HV : Hid (unhexS l = (ys, true)) := unhexS_some (HU.out.fin (by omega))
      have hcv := conv_own Try.underlying31 Try.underlying5 Try.underlying9 hown
      go_wp2
      go_ret2
      exact ⟨by rw [HV.out]; rfl, hb⟩

theorem sUnhex_any (l : List UInt8) (w : World) (hl : l.length ≤ 1048576) :
    Calls Try.prog 31 #[.string (S l)] w fun e w' => e = .returned (.tuple #[.string (S (unhexS l).1), .bool (unhexS l).2]) ∧ Below w.heap.size w w' := by
  rcases Nat.mod_two_eq_zero_or_one l.length with h | h
  · exact sUnhex_even l w hl h
  · exact sUnhex_odd l w hl h
theorem iUnhex_any (l : List UInt8) (w : World) (hl : l.length ≤ 1048576) :
    Calls Try.prog 32 #[.string (S l)] w fun e w' => e = .returned (.tuple #[.string (S (unhexS l).1), .bool (unhexS l).2]) ∧ Below w.heap.size w w' := by
  rcases Nat.mod_two_eq_zero_or_one l.length with h | h
  · exact iUnhex_even l w hl h
  · exact iUnhex_odd l w hl h
end Go.Proofs.Ytgabmlpbedbdlaa
