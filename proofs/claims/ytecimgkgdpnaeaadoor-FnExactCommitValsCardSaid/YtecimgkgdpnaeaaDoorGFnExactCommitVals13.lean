/-
  Texts of this proof, laid into one: LawC3.
-/
import Derived.Deep.RegionHeld3
import Derived.Test.YtecimgkgdpnaeaaDoorGFnExactCommitVals11
import Derived.Test.YtecimgkgdpnaeaaDoorGFnExactCommitVals8
import Derived.Test.YtecimgkgdpnaeaaDoorGFnExactCommitVals3
/-
  markCommit changes its own row alone; heldCommit.
-/
namespace Go.Proofs.YtecimgkgdpnaeaaDoor
open Go.ChangeShapes Go.WideShapes Go.ChangeAt Go.RowKit
set_option linter.unusedVariables false
set_option linter.unusedSimpArgs false
set_option maxRecDepth 100000

/-- The marks from k on. -/
def marksC (k n : Nat) : List SigT := (List.range n).map fun i => ⟨((k + 2 * i : Nat) : Int), markT (k + 2 * i + 1)⟩
@[simp] theorem marksC_len (k n : Nat) : (marksC k n).length = n := by simp [marksC]
theorem marksC_at (k n j : Nat) (h : j < (marksC k n).length) : (marksC k n)[j] = ⟨((k + 2 * j : Nat) : Int), markT (k + 2 * j + 1)⟩ := by simp [marksC]
theorem mark_sig (l : List SigT) (k i : Nat) (h : i < l.length) : (marksC k i ++ l.drop i).set i ⟨((k + 2 * i : Nat) : Int), markT (k + 2 * i + 1)⟩ = marksC k (i + 1) ++ l.drop (i + 1) := by
  rw [List.set_append_right _ _ (by simp)]
  rw [marksC_len, Nat.sub_self, List.drop_eq_getElem_cons h, List.set_cons_zero]
  unfold marksC
  rw [List.range_succ, List.map_append]
  simp

theorem markCSigS_keep (base : Nat) (A : Option Addr) (c : Nat) (l : List SigT) (k : Nat) (w : World) (hl : l.length ≤ 1048576) (hk0 : 0 < k) (hk : k ≤ 2097152) (hB : base ≤ w.heap.size) (hown : w.ownsRow base 85 2 (.slice A l.length c) l.length (scells l)) :
    Calls Tryd.prog 72 #[.slice A l.length c, .int .i64 (k : Int)] w fun e w' => e = .returned (.int .i64 ((k : Int) + 2 * l.length)) ∧ w'.ownsRow base 85 2 (.slice A l.length c) l.length (scells (marksC k l.length)) ∧ Below base w w' ∧ w.grownBy w' (A.map Addr.block) := by
  have HO := Lib.hid hown
  clear hown
  go_enter Tryd.func72, Tryd.ntmps72
  go_wp2_with fail
  go_loopw [1, 5] (fun kk i wr => ∃ j : Nat, j ≤ l.length ∧ i = .int .i64 (j : Int) ∧ kk = .int .i64 ((k : Int) + 2 * j) ∧ wr.ownsRow base 85 2 (.slice A l.length c) l.length (scells (marksC k j ++ l.drop j)) ∧ base ≤ wr.heap.size ∧ Below base w wr ∧ w.grownBy wr (A.map Addr.block)) (fun _ i _ => l.length - (intOf i).toNat)
  case atStart => exact ⟨0, by omega, rfl, by simp, by simpa [marksC] using HO.out, hB, ⟨rfl, rfl, rfl, Nat.le_refl _, fun _ _ => rfl⟩, ⟨rfl, rfl, rfl, Nat.le_refl _, fun _ _ _ => rfl⟩⟩
  case round =>
    obtain ⟨j, hj, rfl, rfl, hown, hB, hb, hgb⟩ := hrel
    have hji0 : 0 ≤ (j : Int) ∧ (j : Int) ≤ l.length := by omega
    by_cases hlt : j < l.length
    · obtain ⟨g, cap, hv, hg, hgl⟩ := hown.form (by omega)
      simp only [Value.slice.injEq] at hv
      obtain ⟨rfl, _, rfl⟩ := hv
      have hji : 0 ≤ (j : Int) ∧ (j : Int) < l.length := by omega
      have hlen : (marksC k j ++ l.drop j).length = l.length := by simp; omega
      obtain ⟨u0, s0⟩ : ∃ u, wr.cell? ⟨g, j * 2, none⟩ = some u := ⟨_, (hown.cellAt (j * 2) (by omega)).trans (scells_at _ j (by omega)).1⟩
      obtain ⟨u1, s1⟩ : ∃ u, wr.cell? ⟨g, j * 2 + 1, none⟩ = some u := ⟨_, (hown.cellAt (j * 2 + 1) (by omega)).trans (scells_at _ j (by omega)).2⟩
      have f0 := hown.frozenAt (j * 2)
      have f1 := hown.frozenAt (j * 2 + 1)
      have h1 := (hown.stored (j * 2) (.int .i64 ((k + 2 * j : Nat) : Int))).1
      have HST1 := Lib.hid h1
      have hmt := fun W : World => markText_any (k + 2 * j + 1) W (by omega) (by omega)
      simp only [Int.natCast_add, Int.natCast_mul, Int.cast_ofNat_Int] at hmt
      have HMT := Lib.hid hmt
      have HGB := Lib.hid hgb
      have HB := Lib.hid hb
      have e1 : IntKind.i64.wrap ((k : Int) + 2 * (j : Int) + 1) = (k : Int) + 2 * (j : Int) + 1 := by rw [IntKind.wrap_i64]; omega
      have e2 : IntKind.i64.wrap ((k : Int) + 2 * (j : Int) + 1 + 1) = (k : Int) + 2 * (j : Int) + 1 + 1 := by rw [IntKind.wrap_i64]; omega
      have HQ : Hid (((scells (marksC k j ++ l.drop j)).set (j * 2) (.int .i64 ((k + 2 * j : Nat) : Int))).set (j * 2 + 1) (.string (S (markT (k + 2 * j + 1)))) = scells (marksC k (j + 1) ++ l.drop (j + 1))) := by
        unfold Hid
        rw [scells_set _ j _ _ (by omega), mark_sig l k j hlt]
      have HX0 : Hid (j * 2 + 1 < ((scells (marksC k j ++ l.drop j)).set (j * 2) (.int .i64 ((k + 2 * j : Nat) : Int))).length) := by unfold Hid; rw [List.length_set, scells_length]; omega
      have hgs : base ≤ (wr.setCell ⟨g, j * 2, none⟩ (.int .i64 ((k : Int) + 2 * (j : Int)))).heap.size := by simpa [World.setCell] using hB
      simp only [Int.natCast_add, Int.natCast_mul, Int.cast_ofNat_Int] at HST1 HQ HX0
      have HB1 := Lib.hid (hb.setCell (p := ⟨g, j * 2, none⟩) hg (.int .i64 ((k : Int) + 2 * (j : Int))))
      have HG1 := Lib.hid (gb_trans hgb (gb_set g (j * 2) (.int .i64 ((k : Int) + 2 * (j : Int)))))
      clear h1 hown hgb hlen hmt hb s1 f1
      go_wp2_with (go_at_call 104; refine (HMT.out _).mono ?_; rintro e wm ⟨rfl, hbm⟩; have hown2 := own_below HST1.out hbm; have hb2 : Below base w wm := HB1.out.trans (hbm.mono hgs); have hgb2 := Lib.hid (gb_trans HG1.out (gb_of_below hbm)); have hsz := hbm.size; obtain ⟨u1, s1⟩ : ∃ u, wm.cell? ⟨g, j * 2 + 1, none⟩ = some u := ⟨_, (hown2.cellAt (j * 2 + 1) (by omega)).trans (List.getElem?_eq_getElem HX0.out)⟩; have f1 := hown2.frozenAt (j * 2 + 1); have hst := (hown2.stored (j * 2 + 1) (.string (S (markT (k + 2 * j + 1))))).1; rw [HQ.out] at hst; have HST := Lib.hid hst; clear hown2 hbm hst)
      go_roundw
      case rel => exact ⟨j + 1, by omega, by go_num, by congr 1 <;> omega, HST.out, by simp [World.setCell] at hgs hsz ⊢; omega, hb2.setCell hg _, gb_trans hgb2.out (gb_set g _ _)⟩
      case measure => simp [intOf]; omega
    · have hkl : Hid (j = l.length) := by unfold Hid; omega
      have HOW := Lib.hid hown
      have HGB := Lib.hid hgb
      clear hown hgb
      go_wp2
      go_ret
      exact ⟨ret_int (by rw [hkl.out]), by have := HOW.out; rw [hkl.out] at this; simpa using this, hb, HGB.out⟩

theorem markCommit_keep (base : Nat) (h r : Int) (id : List UInt8) (A : Option Addr) (c : Nat) (l : List SigT) (k : Nat) (w : World) (hl : l.length ≤ 1048576) (hk0 : 0 < k) (hk : k ≤ 2097152) (hB : base ≤ w.heap.size) (hown : w.ownsRow base 85 2 (.slice A l.length c) l.length (scells l)) :
    Calls Tryd.prog 28 #[.agg #[.int .i64 h, .int .i64 r, .string (S id), .slice A l.length c], .int .i64 (k : Int)] w fun e w' => e = .returned (.int .i64 ((k : Int) + 2 * l.length)) ∧ w'.ownsRow base 85 2 (.slice A l.length c) l.length (scells (marksC k l.length)) ∧ Below base w w' ∧ w.grownBy w' (A.map Addr.block) := by
  have HM := Lib.hid fun (W : World) (hB : base ≤ W.heap.size) (o : W.ownsRow base 85 2 (.slice A l.length c) l.length (scells l)) => markCSigS_keep base A c l k W hl hk0 hk hB o
  have HO := Lib.hid (hown.alloc (.cells #[.int .i64 h, .int .i64 r, .string (S id), .slice A l.length c] 33))
  have hb := Below.refl base w
  have hb1 := (Below.refl base w).alloc hB (.cells #[.int .i64 h, .int .i64 r, .string (S id), .slice A l.length c] 33)
  have hgb : w.grownBy (w.alloc (.cells #[.int .i64 h, .int .i64 r, .string (S id), .slice A l.length c] 33)) (A.map Addr.block) := gb_of_below ((Below.refl _ _).alloc (Nat.le_refl _) _)
  have HGB := Lib.hid hgb
  clear hown hgb
  go_enter Tryd.func28, Tryd.ntmps28
  go_wp2_with fail
  refine (HM.out _ (by simp; omega) HO.out).mono ?_
  rintro e w1 ⟨rfl, o1, b1, g1⟩
  go_wp2
  go_ret
  exact ⟨rfl, o1, hb1.trans b1, gb_trans HGB.out g1⟩
end Go.Proofs.YtecimgkgdpnaeaaDoor
