/-
  ReadFixed, both.
-/
import Derived.Test.YtgabmlpbedbdlaaNum1
import Derived.Test.YtgabmlpbedbdlaaMath2
namespace Go.Proofs.Ytgabmlpbedbdlaa
open Go.ChangeShapes Go.WideShapes Go.ChangeAt Go.RowKit
set_option linter.unusedVariables false

/-- Two results, a number and a bool. -/
@[simp, go_sem] def nb (r : Nat × Bool) : Value := .tuple #[.int .i64 r.1, .bool r.2]

theorem sReadFixed_no (l : List UInt8) (width : Int) (w : World) (hl : l.length ≤ 9223372036854775807) (h : width < 1 ∨ 7 < width ∨ (l.length : Int) < width) :
    Calls Try.prog 15 #[.string (S l), .int .i64 width] w fun e w' => e = .returned (nb (readFixedS l width)) ∧ w = w' := by
  rw [readFixedS_no h]
  by_cases hw : 1 ≤ width ∧ width ≤ 7
  · have hn : (l.length : Int) < width := by omega
    have h1 : (decide (1 ≤ width) && decide (width ≤ 7)) = true := by simp; omega
    clear h hw
    go_enter Try.func15, Try.ntmps15
    go_wp2_with (go_at_call 41; refine (l1In_any _ _ _ _).mono ?_; rintro e w' ⟨rfl, rfl⟩)
    go_ret2
    exact ⟨rfl, rfl⟩
  · have h1 : (decide (1 ≤ width) && decide (width ≤ 7)) = false := by simp; omega
    clear h hw
    go_enter Try.func15, Try.ntmps15
    go_wp2_with (go_at_call 41; refine (l1In_any _ _ _ _).mono ?_; rintro e w' ⟨rfl, rfl⟩)
    go_ret2
    exact ⟨rfl, rfl⟩

theorem sReadFixed_yes (l : List UInt8) (v : Nat) (w : World) (hl : l.length ≤ 9223372036854775807) (h1 : 1 ≤ v) (h2 : v ≤ 7) (h3 : v ≤ l.length) :
    Calls Try.prog 15 #[.string (S l), .int .i64 v] w fun e w' => e = .returned (nb (readFixedS l v)) ∧ w = w' := by
  rw [readFixedS_yes h1 h2 h3]
  have hw : (decide ((1 : Int) ≤ v) && decide ((v : Int) ≤ 7)) = true := by simp; omega
  go_enter Try.func15, Try.ntmps15
  go_wp2_with (go_at_call 41; refine (l1In_any _ _ _ _).mono ?_; rintro e w' ⟨rfl, rfl⟩)
  go_loop [6, 7] (fun n i => ∃ k q : Nat, k ≤ v ∧ i = .int .i64 k ∧ n = .int .i64 q ∧ Hid (q = beNat (l.take k))) (fun _ i => v - (intOf i).toNat)
  case atStart => exact ⟨0, 0, by omega, rfl, rfl, rfl⟩
  case round =>
    obtain ⟨k, q, hk, rfl, rfl, HQ⟩ := hrel
    by_cases hlt : k < v
    · have hq : q < 281474976710656 := by rw [HQ.out]; exact beNat_lt6 l k (by omega) (by omega)
      have hkl : k < l.length := by omega
      have hby := (l[k]).toNat_lt
      go_wp2
      go_round
      case rel => exact ⟨k + 1, q * 256 + l[k].toNat, by omega, by go_num, by go_num, by rw [Hid, beNat_take l k hkl, HQ.out]⟩
      case measure => simp [intOf]; omega
    · have hkv : Hid (k = v) := by unfold Hid; omega
      go_wp2
      go_ret2
      exact ⟨by rw [HQ.out, hkv.out]; rfl, rfl⟩

theorem iReadFixed_no (l : List UInt8) (width : Int) (w : World) (hl : l.length ≤ 9223372036854775807) (h : width < 1 ∨ 7 < width ∨ (l.length : Int) < width) :
    Calls Try.prog 16 #[.string (S l), .int .i64 width] w fun e w' => e = .returned (nb (readFixedS l width)) ∧ w = w' := by
  rw [readFixedS_no h]
  by_cases hw : 1 ≤ width ∧ width ≤ 7
  · have hn : (l.length : Int) < width := by omega
    have h1 : (decide (1 ≤ width) && decide (width ≤ 7)) = true := by simp; omega
    clear h hw
    go_enter Try.func16, Try.ntmps16
    go_wp2_with (go_at_call 42; refine (within_any _ _ _ _).mono ?_; rintro e w' ⟨rfl, rfl⟩)
    go_ret2
    exact ⟨rfl, rfl⟩
  · have h1 : (decide (1 ≤ width) && decide (width ≤ 7)) = false := by simp; omega
    clear h hw
    go_enter Try.func16, Try.ntmps16
    go_wp2_with (go_at_call 42; refine (within_any _ _ _ _).mono ?_; rintro e w' ⟨rfl, rfl⟩)
    go_ret2
    exact ⟨rfl, rfl⟩

theorem iReadFixed_yes (l : List UInt8) (v : Nat) (w : World) (hl : l.length ≤ 9223372036854775807) (h1 : 1 ≤ v) (h2 : v ≤ 7) (h3 : v ≤ l.length) :
    Calls Try.prog 16 #[.string (S l), .int .i64 v] w fun e w' => e = .returned (nb (readFixedS l v)) ∧ w = w' := by
  rw [readFixedS_yes h1 h2 h3]
  have hw : (decide ((1 : Int) ≤ v) && decide ((v : Int) ≤ 7)) = true := by simp; omega
  go_enter Try.func16, Try.ntmps16
  go_wp2_with (go_at_call 42; refine (within_any _ _ _ _).mono ?_; rintro e w' ⟨rfl, rfl⟩)
  go_loop [6, 7] (fun n i => ∃ k q : Nat, k ≤ v ∧ i = .int .i64 k ∧ n = .int .i64 q ∧ Hid (q = beNat (l.take k))) (fun _ i => v - (intOf i).toNat)
  case atStart => exact ⟨0, 0, by omega, rfl, rfl, rfl⟩
  case round =>
    obtain ⟨k, q, hk, rfl, rfl, HQ⟩ := hrel
    by_cases hlt : k < v
    · have hq : q < 281474976710656 := by rw [HQ.out]; exact beNat_lt6 l k (by omega) (by omega)
      have hkl : k < l.length := by omega
      have hby := (l[k]).toNat_lt
      have hor := or_byte q l[k].toNat hq hby
      go_wp2
      go_round
      case rel => exact ⟨k + 1, q * 256 + l[k].toNat, by omega, by go_num, by go_num, by rw [Hid, beNat_take l k hkl, HQ.out]⟩
      case measure => simp [intOf]; omega
    · have hkv : Hid (k = v) := by unfold Hid; omega
      go_wp2
      go_ret2
      exact ⟨by rw [HQ.out, hkv.out]; rfl, rfl⟩
theorem sReadFixed_any (l : List UInt8) (width : Int) (w : World) (hl : l.length ≤ 9223372036854775807) :
    Calls Try.prog 15 #[.string (S l), .int .i64 width] w fun e w' => e = .returned (nb (readFixedS l width)) ∧ w = w' := by
  by_cases h : width < 1 ∨ 7 < width ∨ (l.length : Int) < width
  · exact sReadFixed_no l width w hl h
  · obtain ⟨v, rfl⟩ := Int.eq_ofNat_of_zero_le (a := width) (by omega)
    exact sReadFixed_yes l v w hl (by omega) (by omega) (by omega)
theorem iReadFixed_any (l : List UInt8) (width : Int) (w : World) (hl : l.length ≤ 9223372036854775807) :
    Calls Try.prog 16 #[.string (S l), .int .i64 width] w fun e w' => e = .returned (nb (readFixedS l width)) ∧ w = w' := by
  by_cases h : width < 1 ∨ 7 < width ∨ (l.length : Int) < width
  · exact iReadFixed_no l width w hl h
  · obtain ⟨v, rfl⟩ := Int.eq_ofNat_of_zero_le (a := width) (by omega)
    exact iReadFixed_yes l v w hl (by omega) (by omega) (by omega)
end Go.Proofs.Ytgabmlpbedbdlaa
