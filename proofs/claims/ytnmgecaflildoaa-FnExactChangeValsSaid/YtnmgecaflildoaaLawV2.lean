/-
  markValS changes its own row alone; heldValS.
-/
import Derived.Test.YtnmgecaflildoaaLawV
import Derived.Test.YtnmgecaflildoaaOwn0
namespace Go.Proofs.Ytnmgecaflildoaa
open Go.ChangeShapes Go.WideShapes Go.ChangeAt Go.RowKit
set_option linter.unusedVariables false
set_option linter.unusedSimpArgs false
set_option maxRecDepth 100000

/-- The marks from k on. -/
def marksV (k n : Nat) : List ValT := (List.range n).map fun i => ⟨((k + 2 * i : Nat) : Int), ((k + 2 * i + 1 : Nat) : Int)⟩
@[simp] theorem marksV_len (k n : Nat) : (marksV k n).length = n := by simp [marksV]
theorem marksV_at (k n j : Nat) (h : j < (marksV k n).length) : (marksV k n)[j] = ⟨((k + 2 * j : Nat) : Int), ((k + 2 * j + 1 : Nat) : Int)⟩ := by simp [marksV]
theorem mark_val (l : List ValT) (k i : Nat) (h : i < l.length) : (marksV k i ++ l.drop i).set i ⟨((k + 2 * i : Nat) : Int), ((k + 2 * i + 1 : Nat) : Int)⟩ = marksV k (i + 1) ++ l.drop (i + 1) := by
  rw [List.set_append_right _ _ (by simp)]
  rw [marksV_len, Nat.sub_self, List.drop_eq_getElem_cons h, List.set_cons_zero]
  unfold marksV
  rw [List.range_succ, List.map_append]
  simp

theorem markValS_keep (base : Nat) (A : Option Addr) (c : Nat) (l : List ValT) (k : Nat) (w : World) (hl : l.length ≤ 2097152) (hk0 : 0 < k) (hk : k ≤ 8388608) (hown : w.ownsRow base 34 2 (.slice A l.length c) l.length (vcells l)) :
    Calls Try.prog 9 #[.slice A l.length c, .int .i64 (k : Int)] w fun e w' => e = .returned (.int .i64 ((k : Int) + 2 * l.length)) ∧ w'.ownsRow base 34 2 (.slice A l.length c) l.length (vcells (marksV k l.length)) ∧ Below base w w' ∧ w.grownBy w' (A.map Addr.block) := by
  have HO := Lib.hid hown
  clear hown
  go_enter Try.func9, Try.ntmps9
  go_wp2_with fail
  go_loopw [1, 5] (fun kk i wr => ∃ j : Nat, j ≤ l.length ∧ i = .int .i64 (j : Int) ∧ kk = .int .i64 ((k : Int) + 2 * j) ∧ wr.ownsRow base 34 2 (.slice A l.length c) l.length (vcells (marksV k j ++ l.drop j)) ∧ Below base w wr ∧ w.grownBy wr (A.map Addr.block)) (fun _ i _ => l.length - (intOf i).toNat)
  case atStart => exact ⟨0, by omega, rfl, by simp, by simpa [marksV] using HO.out, ⟨rfl, rfl, rfl, Nat.le_refl _, fun _ _ => rfl⟩, ⟨rfl, rfl, rfl, Nat.le_refl _, fun _ _ _ => rfl⟩⟩
  case round =>
    obtain ⟨j, hj, rfl, rfl, hown, hb, hgb⟩ := hrel
    have hji0 : 0 ≤ (j : Int) ∧ (j : Int) ≤ l.length := by omega
    by_cases hlt : j < l.length
    · obtain ⟨g, cap, hv, hg, hgl⟩ := hown.form (by omega)
      simp only [Value.slice.injEq] at hv
      obtain ⟨rfl, _, rfl⟩ := hv
      have hji : 0 ≤ (j : Int) ∧ (j : Int) < l.length := by omega
      have hlen : (marksV k j ++ l.drop j).length = l.length := by simp; omega
      obtain ⟨u0, s0⟩ : ∃ u, wr.cell? ⟨g, j * 2, none⟩ = some u := ⟨_, (hown.cellAt (j * 2) (by omega)).trans (vcells_at _ j (by omega)).1⟩
      obtain ⟨u1, s1⟩ : ∃ u, wr.cell? ⟨g, j * 2 + 1, none⟩ = some u := ⟨_, (hown.cellAt (j * 2 + 1) (by omega)).trans (vcells_at _ j (by omega)).2⟩
      have f0 := hown.frozenAt (j * 2)
      have f1 := hown.frozenAt (j * 2 + 1)
      have hst := ((hown.stored (j * 2) (.int .i64 ((k + 2 * j : Nat) : Int))).1.stored (j * 2 + 1) (.int .i64 ((k + 2 * j + 1 : Nat) : Int))).1
      rw [vcells_set _ j _ _ (by omega), mark_val l k j hlt] at hst
      simp only [Int.natCast_add, Int.natCast_mul, Int.cast_ofNat_Int] at hst
      have HST := Lib.hid hst
      have HGB := Lib.hid hgb
      have e1 : IntKind.i64.wrap ((k : Int) + 2 * (j : Int) + 1) = (k : Int) + 2 * (j : Int) + 1 := by rw [IntKind.wrap_i64]; omega
      have e2 : IntKind.i64.wrap ((k : Int) + 2 * (j : Int) + 1 + 1) = (k : Int) + 2 * (j : Int) + 1 + 1 := by rw [IntKind.wrap_i64]; omega
      clear hst hown hgb hlen
      go_wp2
      go_roundw
      case rel => exact ⟨j + 1, by omega, by go_num, by congr 1 <;> omega, HST.out, (hb.setCell hg _).setCell hg _, gb_trans (gb_trans HGB.out (gb_set g _ _)) (gb_set g _ _)⟩
      case measure => simp [intOf]; omega
    · have hkl : Hid (j = l.length) := by unfold Hid; omega
      have HOW := Lib.hid hown
      have HGB := Lib.hid hgb
      clear hown hgb
      go_wp2
      go_ret
      exact ⟨ret_int (by rw [hkl.out]), by have := HOW.out; rw [hkl.out] at this; simpa using this, hb, HGB.out⟩

theorem heldValS_any (A : Option Addr) (c n k : Nat) (w : World) (hn : n ≤ 2097152) (hk0 : 0 < k) (hk : k ≤ 8388608) (hR : VReads w w.heap.size A (marksV k n)) :
    Calls Try.prog 10 #[.slice A n c, .int .i64 (k : Int)] w fun e w' => e = .returned (.int .i64 ((k : Int) + 2 * n)) ∧ Below w.heap.size w w' := by
  have HR := Lib.hid hR
  clear hR
  go_enter Try.func10, Try.ntmps10
  go_wp2_with fail
  go_loopw [1, 5] (fun kk i wr => ∃ j : Nat, j ≤ n ∧ i = .int .i64 (j : Int) ∧ kk = .int .i64 ((k : Int) + 2 * j) ∧ Below w.heap.size w wr) (fun _ i _ => n - (intOf i).toNat)
  case atStart => exact ⟨0, by omega, rfl, by simp, Below.refl _ _⟩
  case round =>
    obtain ⟨j, hj, rfl, rfl, hb⟩ := hrel
    have hji0 : 0 ≤ (j : Int) ∧ (j : Int) ≤ n := by omega
    by_cases hlt : j < n
    · obtain ⟨b, off, rfl, hbB, hc⟩ := ((HR.out.below hb (Nat.le_refl _)).more hb.size) (by simp; omega)
      obtain ⟨c0, c1⟩ := hc j (by simpa using hlt)
      simp only [marksV_at, Int.natCast_add, Int.natCast_mul, Int.cast_ofNat_Int] at c0 c1
      have hji : 0 ≤ (j : Int) ∧ (j : Int) < n := by omega
      have e1 : IntKind.i64.wrap ((k : Int) + 2 * (j : Int) + 1) = (k : Int) + 2 * (j : Int) + 1 := by rw [IntKind.wrap_i64]; omega
      have e2 : IntKind.i64.wrap ((k : Int) + 2 * (j : Int) + 1 + 1) = (k : Int) + 2 * (j : Int) + 1 + 1 := by rw [IntKind.wrap_i64]; omega
      clear hc
      go_wp2
      go_roundw
      case rel => exact ⟨j + 1, by omega, by go_num, by congr 1 <;> omega, hb⟩
      case measure => simp [intOf]; omega
    · have hkl : Hid (j = n) := by unfold Hid; omega
      go_wp2
      go_ret
      exact ⟨ret_int (by rw [hkl.out]), hb⟩
end Go.Proofs.Ytnmgecaflildoaa
