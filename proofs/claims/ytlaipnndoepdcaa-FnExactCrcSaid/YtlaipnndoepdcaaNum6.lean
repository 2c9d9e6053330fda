/-
  Crc, both.
-/
import Derived.Test.YtlaipnndoepdcaaNum1
import Derived.Test.YtlaipnndoepdcaaMath4
namespace Go.Proofs.Ytlaipnndoepdcaa
open Go.ChangeShapes Go.WideShapes Go.ChangeAt Go.RowKit
set_option linter.unusedVariables false
set_option maxRecDepth 100000

theorem sCrc_any (l : List UInt8) (w : World) (hl : l.length ≤ 9223372036854775807) :
    Calls Try.prog 35 #[.string (S l)] w fun e w' => e = .returned (.int .i64 (crcS l)) ∧ w = w' := by
  go_enter Try.func35, Try.ntmps35
  go_wp2
  go_loop [3, 4] (fun c i => ∃ k q : Nat, k ≤ l.length ∧ q < 4294967296 ∧ i = .int .i64 k ∧ c = .int .i64 q ∧ Hid (q = crcL (l.take k))) (fun _ i => l.length - (intOf i).toNat)
  case atStart => exact ⟨0, crcStart, by omega, by decide, rfl, rfl, rfl⟩
  case round =>
    obtain ⟨k, q, hk, hq, rfl, rfl, HQ⟩ := hrel
    by_cases hlt : k < l.length
    · have hxb : bits .xor .i64 (q : Int) (l[k].toNat : Int) = ((q ^^^ l[k].toNat : Nat) : Int) := xor_i64 _ _ (by omega) (by have := l[k].toNat_lt; omega)
      have hby := l[k].toNat_lt
      have hb := xor_byte_lt q l[k] hq
      obtain ⟨d, hd⟩ : ∃ d, d = q ^^^ l[k].toNat := ⟨_, rfl⟩
      rw [← hd] at hxb hb
      have HD := Lib.hid hd
      clear hd
      go_wp2
      go_loop [3, 5, 6] (fun c j _ => ∃ n p : Nat, n ≤ 8 ∧ p < 4294967296 ∧ j = .int .i64 n ∧ c = .int .i64 p ∧ Hid (p = crcN n d)) (fun _ j _ => 8 - (intOf j).toNat)
      case atStart => exact ⟨0, d, by omega, hb, rfl, rfl, rfl⟩
      case round =>
        obtain ⟨n, p, hn, hp, rfl, rfl, HP⟩ := hrel
        by_cases hn8 : n < 8
        · have hxp : bits .xor .i64 ((p : Int) / 2) 2197175160 = ((p / 2 ^^^ crcPoly : Nat) : Int) := by
            have := xor_i64 (p / 2) 2197175160 (by omega) (by omega)
            rw [Int.natCast_ediv] at this
            exact this
          by_cases hodd : p % 2 = 1
          · have hst : Hid (crcStep p = p / 2 ^^^ crcPoly) := by unfold Hid; rw [crcStep, if_pos hodd]
            have hlt2 := crcStep_lt p hp
            rw [hst.out] at hlt2
            generalize p / 2 ^^^ crcPoly = r at *
            go_wp2
            go_round
            case rel => exact ⟨n + 1, r, by omega, hlt2, by go_num, rfl, by rw [Hid, crcN, ← HP.out, hst.out]⟩
            case measure => simp [intOf]; omega
          · have hst : Hid (crcStep p = p / 2) := by unfold Hid; rw [crcStep, if_neg hodd]
            go_wp2
            go_round
            case rel => exact ⟨n + 1, p / 2, by omega, by omega, by go_num, by go_num, by rw [Hid, crcN, ← HP.out, hst.out]⟩
            case measure => simp [intOf]; omega
        · have hn' : Hid (n = 8) := by unfold Hid; omega
          have hlt3 := hp
          go_wp2
          go_round
          case rel => exact ⟨k + 1, p, by omega, hp, by go_num, rfl, by rw [Hid, crcL_take l k hlt, ← HQ.out, ← HD.out, HP.out, hn'.out]⟩
          case measure => simp [intOf]; omega
    · have hkl : Hid (k = l.length) := by unfold Hid; omega
      go_wp2
      go_ret
      exact ⟨ret_int (by rw [crcS, HQ.out, hkl.out, List.take_length]), rfl⟩
theorem iCrc_any (l : List UInt8) (w : World) (hl : l.length ≤ 9223372036854775807) :
    Calls Try.prog 36 #[.string (S l)] w fun e w' => e = .returned (.int .i64 (crcS l)) ∧ w = w' := by
  go_enter Try.func36, Try.ntmps36
  go_wp2
  go_loop [3, 4] (fun c i => ∃ k q : Nat, k ≤ l.length ∧ q < 4294967296 ∧ i = .int .i64 k ∧ c = .int .i64 q ∧ Hid (q = crcL (l.take k))) (fun _ i => l.length - (intOf i).toNat)
  case atStart => exact ⟨0, crcStart, by omega, by decide, rfl, rfl, rfl⟩
  case round =>
    obtain ⟨k, q, hk, hq, rfl, rfl, HQ⟩ := hrel
    by_cases hlt : k < l.length
    · have hxb : bits .xor .i64 (q : Int) (l[k].toNat : Int) = ((q ^^^ l[k].toNat : Nat) : Int) := xor_i64 _ _ (by omega) (by have := l[k].toNat_lt; omega)
      have hby := l[k].toNat_lt
      have hb := xor_byte_lt q l[k] hq
      obtain ⟨d, hd⟩ : ∃ d, d = q ^^^ l[k].toNat := ⟨_, rfl⟩
      rw [← hd] at hxb hb
      have HD := Lib.hid hd
      clear hd
      go_wp2
      go_loop [3, 5, 18] (fun c _ j => ∃ n p : Nat, n ≤ 8 ∧ p < 4294967296 ∧ j = .int .i64 n ∧ c = .int .i64 p ∧ Hid (p = crcN n d)) (fun _ _ j => 8 - (intOf j).toNat)
      case atStart => exact ⟨0, d, by omega, hb, rfl, rfl, rfl⟩
      case round =>
        obtain ⟨n, p, hn, hp, rfl, rfl, HP⟩ := hrel
        by_cases hn8 : n < 8
        · have hxp : bits .xor .i64 ((p : Int) / 2) 2197175160 = ((p / 2 ^^^ crcPoly : Nat) : Int) := by
            have := xor_i64 (p / 2) 2197175160 (by omega) (by omega)
            rw [Int.natCast_ediv] at this
            exact this
          have hand : bits .and .i64 (p : Int) 1 = (p : Int) % 2 := by have := and_i64 p 1 (by omega) (by omega); rw [Nat.and_one_is_mod] at this; simpa using this
          by_cases hodd : p % 2 = 1
          · have hst : Hid (crcStep p = p / 2 ^^^ crcPoly) := by unfold Hid; rw [crcStep, if_pos hodd]
            have hlt2 := crcStep_lt p hp
            rw [hst.out] at hlt2
            generalize p / 2 ^^^ crcPoly = r at *
            go_wp2
            go_round
            case rel => exact ⟨n + 1, r, by omega, hlt2, by go_num, rfl, by rw [Hid, crcN, ← HP.out, hst.out]⟩
            case measure => simp [intOf]; omega
          · have hst : Hid (crcStep p = p / 2) := by unfold Hid; rw [crcStep, if_neg hodd]
            go_wp2
            go_round
            case rel => exact ⟨n + 1, p / 2, by omega, by omega, by go_num, by go_num, by rw [Hid, crcN, ← HP.out, hst.out]⟩
            case measure => simp [intOf]; omega
        · have hn' : Hid (n = 8) := by unfold Hid; omega
          have hlt3 := hp
          go_wp2
          go_round
          case rel => exact ⟨k + 1, p, by omega, hp, by go_num, rfl, by rw [Hid, crcL_take l k hlt, ← HQ.out, ← HD.out, HP.out, hn'.out]⟩
          case measure => simp [intOf]; omega
    · have hkl : Hid (k = l.length) := by unfold Hid; omega
      go_wp2
      go_ret
      exact ⟨ret_int (by rw [crcS, HQ.out, hkl.out, List.take_length]), rfl⟩
end Go.Proofs.Ytlaipnndoepdcaa
