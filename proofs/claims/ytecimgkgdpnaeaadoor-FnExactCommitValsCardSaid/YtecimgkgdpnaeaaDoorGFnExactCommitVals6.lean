/-
  Texts of this proof, laid into one: LawI3.
-/
import Derived.Test.YtecimgkgdpnaeaaDoorGFnExactCommitVals2
import Derived.Test.YtecimgkgdpnaeaaDoorGFnExactCommitVals3
/-
  markIntS changes its own row alone; heldIntS.
-/
namespace Go.Proofs.YtecimgkgdpnaeaaDoor
open Go.ChangeShapes Go.WideShapes Go.ChangeAt Go.RowKit
set_option linter.unusedVariables false
set_option linter.unusedSimpArgs false
set_option maxRecDepth 100000

/-- The marks from k on. -/
def marksI (k n : Nat) : List Int := (List.range n).map fun i => ((k + i : Nat) : Int)
@[simp] theorem marksI_len (k n : Nat) : (marksI k n).length = n := by simp [marksI]
theorem marksI_at (k n j : Nat) (h : j < (marksI k n).length) : (marksI k n)[j] = ((k + j : Nat) : Int) := by simp [marksI]
theorem mark_int (l : List Int) (k i : Nat) (h : i < l.length) : ((marksI k i ++ l.drop i).map iv).set i (.int .i64 ((k + i : Nat) : Int)) = (marksI k (i + 1) ++ l.drop (i + 1)).map iv := by
  rw [show (Value.int .i64 ((k + i : Nat) : Int)) = iv ((k + i : Nat) : Int) from rfl, ← List.map_set]
  congr 1
  rw [List.set_append_right _ _ (by simp)]
  rw [marksI_len, Nat.sub_self, List.drop_eq_getElem_cons h, List.set_cons_zero]
  unfold marksI
  rw [List.range_succ, List.map_append]
  simp

theorem markIntS_keep (base : Nat) (A : Option Addr) (c : Nat) (l : List Int) (k : Nat) (w : World) (hl : l.length ≤ 2097152) (hk0 : 0 < k) (hk : k ≤ 8388608) (hown : w.ownsRow base 3 1 (.slice A l.length c) l.length (l.map iv)) :
    Calls Tryd.prog 29 #[.slice A l.length c, .int .i64 (k : Int)] w fun e w' => e = .returned (.int .i64 ((k : Int) + l.length)) ∧ w'.ownsRow base 3 1 (.slice A l.length c) l.length ((marksI k l.length).map iv) ∧ Below base w w' ∧ w.grownBy w' (A.map Addr.block) := by
  have HO := Lib.hid hown
  clear hown
  go_enter Tryd.func29, Tryd.ntmps29
  go_wp2_with fail
  go_loopw [1, 5] (fun kk i wr => ∃ j : Nat, j ≤ l.length ∧ i = .int .i64 (j : Int) ∧ kk = .int .i64 ((k : Int) + j) ∧ wr.ownsRow base 3 1 (.slice A l.length c) l.length ((marksI k j ++ l.drop j).map iv) ∧ Below base w wr ∧ w.grownBy wr (A.map Addr.block)) (fun _ i _ => l.length - (intOf i).toNat)
  case atStart => exact ⟨0, by omega, rfl, by simp, by simpa [marksI] using HO.out, ⟨rfl, rfl, rfl, Nat.le_refl _, fun _ _ => rfl⟩, ⟨rfl, rfl, rfl, Nat.le_refl _, fun _ _ _ => rfl⟩⟩
  case round =>
    obtain ⟨j, hj, rfl, rfl, hown, hb, hgb⟩ := hrel
    have hji0 : 0 ≤ (j : Int) ∧ (j : Int) ≤ l.length := by omega
    by_cases hlt : j < l.length
    · obtain ⟨g, cap, hv, hg, hgl⟩ := hown.form (by omega)
      simp only [Value.slice.injEq] at hv
      obtain ⟨rfl, _, rfl⟩ := hv
      have hji : 0 ≤ (j : Int) ∧ (j : Int) < l.length := by omega
      have hlen : (marksI k j ++ l.drop j).length = l.length := by simp; omega
      obtain ⟨u0, s0⟩ : ∃ u, wr.cell? ⟨g, j, none⟩ = some u := ⟨_, (hown.cellAt j (by omega)).trans (List.getElem?_eq_getElem (by rw [List.length_map]; omega))⟩
      have f0 := hown.frozenAt j
      have hst := (hown.stored j (.int .i64 ((k + j : Nat) : Int))).1
      rw [mark_int l k j hlt] at hst
      simp only [Int.natCast_add] at hst
      have HST := Lib.hid hst
      have HGB := Lib.hid hgb
      have e1 : IntKind.i64.wrap ((k : Int) + (j : Int) + 1) = (k : Int) + (j : Int) + 1 := by rw [IntKind.wrap_i64]; omega
      clear hst hown hgb hlen
      go_wp2
      go_roundw
      case rel => exact ⟨j + 1, by omega, by go_num, by congr 1 <;> omega, HST.out, hb.setCell hg _, gb_trans HGB.out (gb_set g _ _)⟩
      case measure => simp [intOf]; omega
    · have hkl : Hid (j = l.length) := by unfold Hid; omega
      have HOW := Lib.hid hown
      have HGB := Lib.hid hgb
      clear hown hgb
      go_wp2
      go_ret
      exact ⟨ret_int (by rw [hkl.out]), by have := HOW.out; rw [hkl.out] at this; simpa using this, hb, HGB.out⟩

theorem heldIntS_any (A : Option Addr) (c n k : Nat) (w : World) (hn : n ≤ 2097152) (hk0 : 0 < k) (hk : k ≤ 8388608) (hR : IReads w w.heap.size A (marksI k n)) :
    Calls Tryd.prog 30 #[.slice A n c, .int .i64 (k : Int)] w fun e w' => e = .returned (.int .i64 ((k : Int) + n)) ∧ Below w.heap.size w w' := by
  have HR := Lib.hid hR
  clear hR
  go_enter Tryd.func30, Tryd.ntmps30
  go_wp2_with fail
  go_loopw [1, 5] (fun kk i wr => ∃ j : Nat, j ≤ n ∧ i = .int .i64 (j : Int) ∧ kk = .int .i64 ((k : Int) + j) ∧ Below w.heap.size w wr) (fun _ i _ => n - (intOf i).toNat)
  case atStart => exact ⟨0, by omega, rfl, by simp, Below.refl _ _⟩
  case round =>
    obtain ⟨j, hj, rfl, rfl, hb⟩ := hrel
    have hji0 : 0 ≤ (j : Int) ∧ (j : Int) ≤ n := by omega
    by_cases hlt : j < n
    · obtain ⟨b, off, rfl, hbB, hc⟩ := ((HR.out.below hb (Nat.le_refl _)).more hb.size) (by simp; omega)
      have c0 := hc j (by simpa using hlt)
      simp only [marksI_at, Int.natCast_add] at c0
      have hji : 0 ≤ (j : Int) ∧ (j : Int) < n := by omega
      have e1 : IntKind.i64.wrap ((k : Int) + (j : Int) + 1) = (k : Int) + (j : Int) + 1 := by rw [IntKind.wrap_i64]; omega
      clear hc
      go_wp2
      go_roundw
      case rel => exact ⟨j + 1, by omega, by go_num, by congr 1 <;> omega, hb⟩
      case measure => simp [intOf]; omega
    · have hkl : Hid (j = n) := by unfold Hid; omega
      go_wp2
      go_ret
      exact ⟨ret_int (by rw [hkl.out]), hb⟩
end Go.Proofs.YtecimgkgdpnaeaaDoor
