/-
  Hex, both.
-/
import Derived.Test.YtgabmlpbedbdlaaNum1
import Derived.Test.YtgabmlpbedbdlaaMath7
import Derived.Deep.AppendLies
import Derived.Deep.RegionLaw
import Derived.BigRegion
namespace Go.Proofs.Ytgabmlpbedbdlaa
open Go.ChangeShapes Go.WideShapes Go.ChangeAt Go.RowKit
set_option linter.unusedVariables false
set_option linter.unusedSimpArgs false
set_option maxRecDepth 100000

theorem l1Digit_any (k : Int) (w : World) (h0 : 0 ≤ k) (h1 : k < 16) :
    Calls Try.prog 40 #[.int .i64 k] w fun e w' => e = .returned (.int .u8 ((hexD k.toNat).toNat : Int)) ∧ w = w' := by
  obtain ⟨m, rfl⟩ := Int.eq_ofNat_of_zero_le h0
  have hp1 : 0 ≤ (m : Int) ∧ (m : Int) < 16 := by omega
  have he1 : ∀ h : m < 16, (ByteArray.mk #[48, 49, 50, 51, 52, 53, 54, 55, 56, 57, 97, 98, 99, 100, 101, 102])[m]'h = hexD m := fun h => hexDigits_at m (by omega)
  go_enter Try.func40, Try.ntmps40
  go_wp2
  go_ret
  exact ⟨rfl, rfl⟩

theorem sHex_any (l : List UInt8) (w : World) (hl : l.length ≤ 1048576) :
    Calls Try.prog 13 #[.string (S l)] w fun e w' => e = .returned (.string (S (hexL l))) ∧ Below w.heap.size w w' := by
  obtain ⟨i0, hi, hz0, hz1, hz2⟩ := info_parts info_u8
  go_enter Try.func13, Try.ntmps13
  go_wp2
  go_loopw [3, 4] (fun out i wr => ∃ k : Nat, k ≤ l.length ∧ i = .int .i64 k ∧ wr.ownsRow w.heap.size 5 1 out (2 * k) ((hexL (l.take k)).map bv) ∧ Below w.heap.size w wr) (fun _ i _ => l.length - (intOf i).toNat)
  case atStart => exact ⟨0, by omega, rfl, World.ownsRow_lit w #[] 0 (Nat.le_refl _) (by simp [maxLen]) rfl, (Below.refl _ _).alloc (Nat.le_refl _) _⟩
  case round =>
    obtain ⟨k, hk, rfl, hown, hb⟩ := hrel
    by_cases hlt : k < l.length
    · have hby := l[k].toNat_lt
      have hbz := hb.size
      have w16 : IntKind.i64.wrap ((l[k].toNat : Int)) = (l[k].toNat : Int) := by rw [IntKind.wrap_i64]; omega
      have w17 : IntKind.i64.wrap ((l[k].toNat : Int) / 16) = (l[k].toNat : Int) / 16 := by rw [IntKind.wrap_i64]; omega
      have w18 : ((l[k].toNat : Int)).tmod 16 = (l[k].toNat : Int) % 16 := Int.tmod_eq_emod_of_nonneg (by omega)
      have e17 : ((l[k].toNat : Int) / 16).toNat = l[k].toNat / 16 := by omega
      have e18 : ((l[k].toNat : Int) % 16).toNat = l[k].toNat % 16 := by omega
      go_wp2
      go_region_law (first
        | (refine step_append_lies _ rfl _ _ 31 rfl w.heap.size 5 i0 (.int .u8 0) 1 1 Try.underlying31 hi hz0 hz1 hz2 rfl (by decide) _ (2 * k) _ rfl (hown.alloc _) ⟨wr.heap.size, 0, none⟩ 2 2 [bv (hexD (l[k].toNat / 16)), bv (hexD (l[k].toNat % 16))] rfl rfl (cells2 (by simp [bv, e17]) (by simp [bv, e18])) (by intro u hu; simp at hu; rcases hu with rfl | rfl <;> rfl) (by omega) (by unfold maxLen; omega) (by omega) (by simp; omega) _ rfl ?_; intro g cap w2 hown2 hgr2 _ _; have hb2 : Below w.heap.size w w2 := ((hb.alloc hbz _).drew).grown hgr2 (by simp; omega) (fun q hq => (hown.lt q hq).1))
        | (go_simp; go_at_call 40; refine (l1Digit_any _ _ (by omega) (by omega)).mono ?_; rintro e w' ⟨rfl, rfl⟩))
      all_goals
        go_wp2
        go_roundw
        case rel => exact ⟨k + 1, by omega, by go_num, by rw [hexL_take l k hlt, List.map_append, Nat.mul_succ]; exact hown2, hb2⟩
        case measure => simp [intOf]; omega
    · have hkl : Hid (k = l.length) := by unfold Hid; omega
      have hcv := conv_own Try.underlying31 Try.underlying5 Try.underlying9 hown
      go_wp2
      go_ret
      exact ⟨ret_string (by rw [hkl.out, List.take_length]), hb⟩

theorem iHex_any (l : List UInt8) (w : World) (hl : l.length ≤ 1048576) :
    Calls Try.prog 14 #[.string (S l)] w fun e w' => e = .returned (.string (S (hexL l))) ∧ Below w.heap.size w w' := by
  obtain ⟨i0, hi, hz0, hz1, hz2⟩ := info_parts info_u8
  go_enter Try.func14, Try.ntmps14
  go_wp2_with (at_make; refine wpList_make_own _ rfl _ _ 31 rfl w.heap.size 5 i0 _ 1 Try.underlying31 hi hz0 hz1 .i64 .i64 _ (2 * l.length) rfl rfl (by omega) (by rw [hz2]; omega) (by unfold maxLen; omega) (Nat.le_refl _) ?_; intro w1 hown hgrow)
  have hb1 : Below w.heap.size w w1 := (Below.refl _ _).grown hgrow (Nat.le_refl _) (fun _ h => by cases h)
  go_loopw [3, 4] (fun out i wr => ∃ k : Nat, k ≤ l.length ∧ i = .int .i64 k ∧ wr.ownsRow w.heap.size 5 1 out (2 * k) ((hexL (l.take k)).map bv) ∧ Below w.heap.size w wr) (fun _ i _ => l.length - (intOf i).toNat)
  case atStart => exact ⟨0, by omega, rfl, hown, hb1⟩
  case round =>
    obtain ⟨k, hk, rfl, hown, hb⟩ := hrel
    by_cases hlt : k < l.length
    · have hby := l[k].toNat_lt
      have hand := and15 l[k].toNat hby
      have hbz := hb.size
      have hp1 : 0 ≤ (l[k].toNat : Int) / 16 ∧ (l[k].toNat : Int) / 16 < 16 := by omega
      have hp2 : 0 ≤ (l[k].toNat : Int) % 16 ∧ (l[k].toNat : Int) % 16 < 16 := by omega
      have he1 : ∀ h : ((l[k].toNat : Int) / 16).toNat < 16, (ByteArray.mk #[48, 49, 50, 51, 52, 53, 54, 55, 56, 57, 97, 98, 99, 100, 101, 102])[((l[k].toNat : Int) / 16).toNat]'h = hexD (l[k].toNat / 16) := fun h => hexDigits_at (l[k].toNat / 16) (by omega)
      have he2 : ∀ h : ((l[k].toNat : Int) % 16).toNat < 16, (ByteArray.mk #[48, 49, 50, 51, 52, 53, 54, 55, 56, 57, 97, 98, 99, 100, 101, 102])[((l[k].toNat : Int) % 16).toNat]'h = hexD (l[k].toNat % 16) := fun h => hexDigits_at (l[k].toNat % 16) (by omega)
      go_wp2
      go_region_law (refine step_append_lies _ rfl _ _ 31 rfl w.heap.size 5 i0 (.int .u8 0) 1 1 Try.underlying31 hi hz0 hz1 hz2 rfl (by decide) _ (2 * k) _ rfl (hown.alloc _) ⟨wr.heap.size, 0, none⟩ 2 2 [bv (hexD (l[k].toNat / 16)), bv (hexD (l[k].toNat % 16))] rfl rfl (cells2 (by simp [bv]) (by simp [bv])) (by intro u hu; simp at hu; rcases hu with rfl | rfl <;> rfl) (by omega) (by unfold maxLen; omega) (by omega) (by simp; omega) _ rfl ?_; intro g cap w2 hown2 hgr2 _ _; have hb2 : Below w.heap.size w w2 := ((hb.alloc hbz _).drew).grown hgr2 (by simp; omega) (fun q hq => (hown.lt q hq).1))
      all_goals
        go_wp2
        go_roundw
        case rel => exact ⟨k + 1, by omega, by go_num, by rw [hexL_take l k hlt, List.map_append, Nat.mul_succ]; exact hown2, hb2⟩
        case measure => simp [intOf]; omega
    · have hkl : Hid (k = l.length) := by unfold Hid; omega
      have hcv := conv_own Try.underlying31 Try.underlying5 Try.underlying9 hown
      go_wp2
      go_ret
      exact ⟨ret_string (by rw [hkl.out, List.take_length]), hb⟩
end Go.Proofs.Ytgabmlpbedbdlaa
