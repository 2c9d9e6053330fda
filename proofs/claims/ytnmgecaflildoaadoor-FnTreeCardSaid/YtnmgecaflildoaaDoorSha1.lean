/-
  The words of SHA-256: RotateLeft32, word, l3Word, l3Right.
-/
import Derived.Test.YtnmgecaflildoaaDoorHasK
import Derived.RegionTactic
import Derived.BigRegion
import Derived.Deep.QuietTactic
import Derived.BigQuiet
namespace Go.Proofs.YtnmgecaflildoaaDoor
open Go.ChangeShapes Go.WideShapes Go.ChangeAt Go.RowKit
set_option linter.unusedVariables false
set_option linter.unusedSimpArgs false
set_option maxRecDepth 100000

theorem rotl_any (x : W32) (n : Nat) (h1 : 1 ≤ n) (h2 : n ≤ 31) (w : World) :
    Calls Tryd.prog 57 #[.int .u32 (wn x), .int .i64 (-(n : Int))] w fun e w' => e = .returned (.int .u32 (wn (rotr x n))) ∧ w = w' := by
  have hx := wn_lo x
  have hx2 := wn_hi x
  have e1 : IntKind.u64.wrap (-(n : Int)) = 18446744073709551616 - (n : Int) := by simp [IntKind.wrap, IntKind.bits, IntKind.signed]; omega
  have e2 := u64_31 n h1 h2
  have e3 : IntKind.u64.wrap (32 - (32 - (n : Int))) = (n : Int) := by simp [IntKind.wrap, IntKind.bits, IntKind.signed]; omega
  have e4 : (32 - (n : Int)).toNat = 32 - n := by omega
  have e5 : 0 ≤ 32 - (n : Int) ∧ 32 - (n : Int) ≤ 32 := by omega
  have e6 : (0 : Int) ≤ (n : Int) ∧ (n : Int) ≤ 32 := by omega
  have e7 := u32_shl x (32 - n)
  have e8 := u32_shr x n
  have e9 := u32_or (x <<< (32 - n)) (x >>> n)
  have e10 : x <<< (32 - n) ||| x >>> n = rotr x n := by unfold rotr; exact BitVec.or_comm _ _
  go_enter Tryd.func57, Tryd.ntmps57
  go_wp2
  go_ret
  exact ⟨rfl, rfl⟩
theorem rotl_m (x : W32) (m : Int) (n : Nat) (hm : m = -(n : Int)) (h1 : 1 ≤ n) (h2 : n ≤ 31) (w : World) :
    Calls Tryd.prog 57 #[.int .u32 (wn x), .int .i64 m] w fun e w' => e = .returned (.int .u32 (wn (rotr x n))) ∧ w = w' := by subst hm; exact rotl_any x n h1 h2 w
theorem bw_wn (b : UInt8) : ((b.toNat : Int)) = wn (bw b) := by rw [wn_nat, bw_toNat]
theorem word_any (l : List UInt8) (h : 4 ≤ l.length) (w : World) :
    Calls Tryd.prog 56 #[.string (S l)] w fun e w' => e = .returned (.int .u32 (wn (wordB (l.getD 0 0) (l.getD 1 0) (l.getD 2 0) (l.getD 3 0)))) ∧ Below w.heap.size w w' := by
  have g0 : (0 : Int) < l.length ∧ (1 : Int) < l.length ∧ (2 : Int) < l.length ∧ (3 : Int) < l.length := by omega
  obtain ⟨g0, g1, g2, g3⟩ := g0
  have e0 : ∀ h : 0 < l.length, l[0]'h = l.getD 0 0 := fun h => by simp [List.getD, List.getElem?_eq_getElem h]
  have e1 : ∀ h : 1 < l.length, l[1]'h = l.getD 1 0 := fun h => by simp [List.getD, List.getElem?_eq_getElem h]
  have e2 : ∀ h : 2 < l.length, l[2]'h = l.getD 2 0 := fun h => by simp [List.getD, List.getElem?_eq_getElem h]
  have e3 : ∀ h : 3 < l.length, l[3]'h = l.getD 3 0 := fun h => by simp [List.getD, List.getElem?_eq_getElem h]
  generalize l.getD 0 0 = b0 at *
  generalize l.getD 1 0 = b1 at *
  generalize l.getD 2 0 = b2 at *
  generalize l.getD 3 0 = b3 at *
  have c0 := bw_wn b0
  have c1 := bw_wn b1
  have c2 := bw_wn b2
  have c3 := bw_wn b3
  have s0 : IntKind.u32.wrap (wn (bw b0) * 16777216) = wn (bw b0 <<< 24) := u32_shl (bw b0) 24
  have s1 : IntKind.u32.wrap (wn (bw b1) * 65536) = wn (bw b1 <<< 16) := u32_shl (bw b1) 16
  have s2 : IntKind.u32.wrap (wn (bw b2) * 256) = wn (bw b2 <<< 8) := u32_shl (bw b2) 8
  have ew : wordB b0 b1 b2 b3 = bw b0 <<< 24 ||| bw b1 <<< 16 ||| bw b2 <<< 8 ||| bw b3 := rfl
  rw [ew]
  clear ew
  go_enter Tryd.func56, Tryd.ntmps56
  go_wp2
  go_quiet (fail)
  go_wp2
  go_ret
  exact ⟨rfl, below_drewN (Below.refl _ _) _⟩
theorem l3Word_any (z : Int) (w : World) :
    Calls Tryd.prog 59 #[.int .i64 z] w fun e w' => e = .returned (.int .i64 (wn (BitVec.ofInt 32 z))) ∧ w = w' := by
  have e1 := i64_word z
  go_enter Tryd.func59, Tryd.ntmps59
  go_wp2
  go_ret
  exact ⟨rfl, rfl⟩
theorem l3Right_any (x : W32) (n : Nat) (h1 : 1 ≤ n) (h2 : n ≤ 31) (w : World) :
    Calls Tryd.prog 58 #[.int .i64 (wn x), .int .u64 (n : Int)] w fun e w' => e = .returned (.int .i64 (wn (rotr x n))) ∧ w = w' := by
  have hx := wn_lo x
  have hx2 := wn_hi x
  have e3 : IntKind.u64.wrap (32 - (n : Int)) = 32 - (n : Int) := by simp [IntKind.wrap, IntKind.bits, IntKind.signed]; omega
  have e4 : (32 - (n : Int)).toNat = 32 - n := by omega
  have e5 : 0 ≤ 32 - (n : Int) ∧ 32 - (n : Int) ≤ 64 := by omega
  have e6 : (0 : Int) ≤ (n : Int) ∧ (n : Int) ≤ 64 := by omega
  have e7 := i64_right x n h1 h2
  go_enter Tryd.func58, Tryd.ntmps58
  go_wp2
  go_ret
  exact ⟨rfl, rfl⟩
end Go.Proofs.YtnmgecaflildoaaDoor
