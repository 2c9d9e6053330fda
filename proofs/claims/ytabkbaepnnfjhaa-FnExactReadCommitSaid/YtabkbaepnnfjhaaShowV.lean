/-
  ShowVals, both.
-/
import Derived.Test.YtabkbaepnnfjhaaVal1
import Derived.Test.YtabkbaepnnfjhaaShow0
import Derived.Test.YtabkbaepnnfjhaaNum5
import Derived.Deep.RegionHeld3
namespace Go.Proofs.Ytabkbaepnnfjhaa
open Go.ChangeShapes Go.WideShapes Go.ChangeAt Go.RowKit
set_option linter.unusedVariables false
set_option linter.unusedSimpArgs false
set_option maxRecDepth 100000

/-- Two cells are held over a call that makes memory. -/
theorem held2 {w cur wm : World} {B o p : Nat} {u0 u1 : Value}
    (H : Below w.heap.size w cur ∧ B < cur.heap.size ∧ cur.cell? ⟨B, o, none⟩ = some u0 ∧ cur.cell? ⟨B, p, none⟩ = some u1) (hb : Below cur.heap.size cur wm) :
    Below w.heap.size w wm ∧ B < wm.heap.size ∧ wm.cell? ⟨B, o, none⟩ = some u0 ∧ wm.cell? ⟨B, p, none⟩ = some u1 := by
  obtain ⟨h1, h2, c0, c1⟩ := H
  have k : ∀ i, wm.cell? ⟨B, i, none⟩ = cur.cell? ⟨B, i, none⟩ := fun i => hb.cell (p := ⟨B, i, none⟩) h2
  exact ⟨Below.next h1 hb, Nat.lt_of_lt_of_le h2 hb.size, (k o).trans c0, (k p).trans c1⟩

theorem iShowVals_yes (A : Option Addr) (c : Nat) (l : List ValT) (w : World) (hl : l.length ≤ 4194304) (hR : VReads w w.heap.size A l) (hok : valsOkB l = true) :
    Calls Try.prog 75 #[.slice A l.length c] w fun e w' => e = .returned (.string (S (showValsS l))) ∧ Below w.heap.size w w' := by
  have HV : Hid (showValsS l = varS (l.length : Int) ++ l.flatMap showVal) := by unfold Hid showValsS; rw [if_pos hok]
  have HR := Lib.hid hR
  clear hR
  have hb := Below.refl w.heap.size w
  have q0 := varS_len (l.length : Int)
  obtain ⟨N, hN⟩ : ∃ N, N = varS (l.length : Int) := ⟨_, rfl⟩
  go_enter Try.func75, Try.ntmps75
  go_wp2_with (first | (go_at_call 48; refine (iValsOk_any _ _ _ _ hl HR.out).mono ?_; rintro e wn ⟨rfl, hbn⟩; have hb := Below.next (w := w) (by repeat (first | with_reducible exact hb | with_reducible exact Below.refl _ _ | refine Below.drew ?_ | refine Below.setCell ?_ (by simp <;> omega) _ | refine Below.alloc ?_ (by simp <;> omega) _)) hbn; clear hbn) | (go_at_call 32; refine (iVar_any _ _).mono ?_; rintro e wn ⟨rfl, hbn⟩; have hb := Below.next (w := w) (by repeat (first | with_reducible exact hb | with_reducible exact Below.refl _ _ | refine Below.drew ?_ | refine Below.setCell ?_ (by simp <;> omega) _ | refine Below.alloc ?_ (by simp <;> omega) _)) hbn; clear hbn))
  rw [← hN] at q0 HV ⊢
  have HN := Lib.hid hN
  clear hN
  have hb0 := Lib.hid hb
  go_loopw [3, 14] (fun s i wr => ∃ k : Nat, k ≤ l.length ∧ i = .int .i64 k ∧ s = .string (S (N ++ (l.take k).flatMap showVal)) ∧ Below w.heap.size w wr) (fun _ i _ => l.length - (intOf i).toNat)
  case atStart => exact ⟨0, by omega, rfl, by simp, hb0.out⟩
  case round =>
    obtain ⟨k, hk, rfl, rfl, hb⟩ := hrel
    by_cases hlt : k < l.length
    · obtain ⟨b, off, rfl, hbB, hc⟩ := ((HR.out.below hb (Nat.le_refl _)).more hb.size) (by omega)
      obtain ⟨c0, c1⟩ := hc k hlt
      have hki : 0 ≤ (k : Int) ∧ (k : Int) < l.length := by omega
      have hs := Lib.hid (showVal_take l k hlt)
      have hlen : ((l.take k).flatMap showVal).length ≤ 16 * l.length := Nat.le_trans (showVal_len _) (by simp; omega)
      have q1 := varS_len l[k].id
      have q2 := varS_len l[k].power
      generalize (l.take k).flatMap showVal = T at *
      have m1 := fun W : World => run_string_add_sum (P := Try.prog) W (S (N ++ T)) (S (varS l[k].id)) (by simp; omega)
      have m2 := fun W : World => run_string_add_sum (P := Try.prog) W (S (N ++ (T ++ varS l[k].id))) (S (varS l[k].power)) (by simp; omega)
      have hb1 := Lib.hid (hb.alloc hb.size (.cells #[.int .i64 l[k].id, .int .i64 l[k].power] 33))
      clear hc
      go_wp2_with fail
      go_region_held3 (fun w' => Below w.heap.size w w' ∧ wr.heap.size < w'.heap.size ∧ w'.cell? ⟨wr.heap.size, 0, none⟩ = some (.int .i64 l[k].id) ∧ w'.cell? ⟨wr.heap.size, 1, none⟩ = some (.int .i64 l[k].power)) (first | exact ⟨hb1.out.drew, by simp, by go_simp, by go_simp⟩ | exact held2 (by assumption) hbm | go_keep) (first | (go_at_call 32; refine (iVar_any _ _).mono ?_; rintro e wm ⟨rfl, hbm⟩))
      all_goals
        have hbx : Below w.heap.size w wm := by
          apply And.left
          assumption
        go_wp2
        go_roundw
        case rel => exact ⟨k + 1, by omega, by go_num, by rw [hs.out], hbx⟩
        case measure => simp [intOf]; omega
    · have hkl : Hid ((l.take k).flatMap showVal = l.flatMap showVal) := by unfold Hid; rw [List.take_of_length_le (by omega)]
      go_wp2
      go_ret
      exact ⟨ret_string (by rw [HV.out, hkl.out]), hb⟩

theorem iShowVals_no (A : Option Addr) (c : Nat) (l : List ValT) (w : World) (hl : l.length ≤ 4194304) (hR : VReads w w.heap.size A l) (hok : valsOkB l = false) :
    Calls Try.prog 75 #[.slice A l.length c] w fun e w' => e = .returned (.string (S (showValsS l))) ∧ Below w.heap.size w w' := by
  have HV : Hid (showValsS l = []) := by unfold Hid showValsS; rw [hok]; rfl
  have HR := Lib.hid hR
  clear hR
  have hb := Below.refl w.heap.size w
  go_enter Try.func75, Try.ntmps75
  go_wp2_with (go_at_call 48; refine (iValsOk_any _ _ _ _ hl HR.out).mono ?_; rintro e wn ⟨rfl, hbn⟩; have hb := Below.next (w := w) (by repeat (first | with_reducible exact hb | with_reducible exact Below.refl _ _ | refine Below.drew ?_ | refine Below.setCell ?_ (by simp <;> omega) _ | refine Below.alloc ?_ (by simp <;> omega) _)) hbn; clear hbn)
  go_ret
  exact ⟨ret_string (by rw [HV.out]; rfl), hb⟩
theorem iShowVals_any (A : Option Addr) (c : Nat) (l : List ValT) (w : World) (hl : l.length ≤ 4194304) (hR : VReads w w.heap.size A l) :
    Calls Try.prog 75 #[.slice A l.length c] w fun e w' => e = .returned (.string (S (showValsS l))) ∧ Below w.heap.size w w' := by
  cases hok : valsOkB l
  · exact iShowVals_no A c l w hl hR hok
  · exact iShowVals_yes A c l w hl hR hok
theorem sShowVals_yes (A : Option Addr) (c : Nat) (l : List ValT) (w : World) (hl : l.length ≤ 4194304) (hR : VReads w w.heap.size A l) (hok : valsOkB l = true) :
    Calls Try.prog 74 #[.slice A l.length c] w fun e w' => e = .returned (.string (S (showValsS l))) ∧ Below w.heap.size w w' := by
  have HV : Hid (showValsS l = varS (l.length : Int) ++ l.flatMap showVal) := by unfold Hid showValsS; rw [if_pos hok]
  have HR := Lib.hid hR
  clear hR
  have hb := Below.refl w.heap.size w
  have q0 := varS_len (l.length : Int)
  obtain ⟨N, hN⟩ : ∃ N, N = varS (l.length : Int) := ⟨_, rfl⟩
  go_enter Try.func74, Try.ntmps74
  go_wp2_with (first | (go_at_call 52; refine (sValsOk_any _ _ _ _ hl HR.out).mono ?_; rintro e wn ⟨rfl, hbn⟩; have hb := Below.next (w := w) (by repeat (first | with_reducible exact hb | with_reducible exact Below.refl _ _ | refine Below.drew ?_ | refine Below.setCell ?_ (by simp <;> omega) _ | refine Below.alloc ?_ (by simp <;> omega) _)) hbn; clear hbn) | (go_at_call 58; refine (sVar_any _ _).mono ?_; rintro e wn ⟨rfl, hbn⟩; have hb := Below.next (w := w) (by repeat (first | with_reducible exact hb | with_reducible exact Below.refl _ _ | refine Below.drew ?_ | refine Below.setCell ?_ (by simp <;> omega) _ | refine Below.alloc ?_ (by simp <;> omega) _)) hbn; clear hbn))
  rw [← hN] at q0 HV ⊢
  have HN := Lib.hid hN
  clear hN
  have hb0 := Lib.hid hb
  go_loopw [3, 4] (fun s i wr => ∃ k : Nat, k ≤ l.length ∧ i = .int .i64 k ∧ s = .string (S (N ++ (l.take k).flatMap showVal)) ∧ Below w.heap.size w wr) (fun _ i _ => l.length - (intOf i).toNat)
  case atStart => exact ⟨0, by omega, rfl, by simp, hb0.out⟩
  case round =>
    obtain ⟨k, hk, rfl, rfl, hb⟩ := hrel
    by_cases hlt : k < l.length
    · obtain ⟨b, off, rfl, hbB, hc⟩ := ((HR.out.below hb (Nat.le_refl _)).more hb.size) (by omega)
      obtain ⟨c0, c1⟩ := hc k hlt
      have hki : 0 ≤ (k : Int) ∧ (k : Int) < l.length := by omega
      have hs := Lib.hid (showVal_take l k hlt)
      have hlen : ((l.take k).flatMap showVal).length ≤ 16 * l.length := Nat.le_trans (showVal_len _) (by simp; omega)
      have q1 := varS_len l[k].id
      have q2 := varS_len l[k].power
      generalize (l.take k).flatMap showVal = T at *
      have m1 := fun W : World => run_string_add_sum (P := Try.prog) W (S (N ++ T)) (S (varS l[k].id)) (by simp; omega)
      have m2 := fun W : World => run_string_add_sum (P := Try.prog) W (S (N ++ (T ++ varS l[k].id))) (S (varS l[k].power)) (by simp; omega)
      clear hc
      go_wp2_with fail
      go_region_held3 (fun w' => Below w.heap.size w w' ∧ b < w'.heap.size ∧ w'.cell? ⟨b, off + k * 2, none⟩ = some (.int .i64 l[k].id) ∧ w'.cell? ⟨b, off + k * 2 + 1, none⟩ = some (.int .i64 l[k].power)) (first | exact ⟨hb.drew, hbB, c0, c1⟩ | exact held2 (by assumption) hbm | go_keep) (first | (go_at_call 58; refine (sVar_any _ _).mono ?_; rintro e wm ⟨rfl, hbm⟩))
      all_goals
        have hbx : Below w.heap.size w wm := by
          apply And.left
          assumption
        go_wp2
        go_roundw
        case rel => exact ⟨k + 1, by omega, by go_num, by rw [hs.out], hbx⟩
        case measure => simp [intOf]; omega
    · have hkl : Hid ((l.take k).flatMap showVal = l.flatMap showVal) := by unfold Hid; rw [List.take_of_length_le (by omega)]
      go_wp2
      go_ret
      exact ⟨ret_string (by rw [HV.out, hkl.out]), hb⟩

theorem sShowVals_no (A : Option Addr) (c : Nat) (l : List ValT) (w : World) (hl : l.length ≤ 4194304) (hR : VReads w w.heap.size A l) (hok : valsOkB l = false) :
    Calls Try.prog 74 #[.slice A l.length c] w fun e w' => e = .returned (.string (S (showValsS l))) ∧ Below w.heap.size w w' := by
  have HV : Hid (showValsS l = []) := by unfold Hid showValsS; rw [hok]; rfl
  have HR := Lib.hid hR
  clear hR
  have hb := Below.refl w.heap.size w
  go_enter Try.func74, Try.ntmps74
  go_wp2_with (go_at_call 52; refine (sValsOk_any _ _ _ _ hl HR.out).mono ?_; rintro e wn ⟨rfl, hbn⟩; have hb := Below.next (w := w) (by repeat (first | with_reducible exact hb | with_reducible exact Below.refl _ _ | refine Below.drew ?_ | refine Below.setCell ?_ (by simp <;> omega) _ | refine Below.alloc ?_ (by simp <;> omega) _)) hbn; clear hbn)
  go_ret
  exact ⟨ret_string (by rw [HV.out]; rfl), hb⟩
theorem sShowVals_any (A : Option Addr) (c : Nat) (l : List ValT) (w : World) (hl : l.length ≤ 4194304) (hR : VReads w w.heap.size A l) :
    Calls Try.prog 74 #[.slice A l.length c] w fun e w' => e = .returned (.string (S (showValsS l))) ∧ Below w.heap.size w w' := by
  cases hok : valsOkB l
  · exact sShowVals_no A c l w hl hR hok
  · exact sShowVals_yes A c l w hl hR hok
end Go.Proofs.Ytabkbaepnnfjhaa
