/-
  Texts of this proof, laid into one: ShowV, Com1, Com2, RdC.
-/
import Derived.Deep.RegionHeld3
import Derived.Test.YtecimgkgdpnaeaaDoorGFnHeaders5
import Derived.Test.YtecimgkgdpnaeaaDoorGFnHeaders10
import Derived.Test.YtecimgkgdpnaeaaDoorGFnHeaders9
import Derived.Test.YtecimgkgdpnaeaaDoorGFnHeaders12
import Derived.Test.YtecimgkgdpnaeaaDoorGFnHeaders11
/-
  ShowVals, both.
-/
namespace Go.Proofs.YtecimgkgdpnaeaaDoor
open Go.ChangeShapes Go.WideShapes Go.ChangeAt Go.RowKit
set_option linter.unusedVariables false
set_option linter.unusedSimpArgs false
set_option maxRecDepth 100000

/-- Two cells are held over a call that makes memory. -/
theorem held2 {w cur wm : World} {B o p : Nat} {u0 u1 : Value}
    (H : Below w.heap.size w cur ∧ B < cur.heap.size ∧ cur.cell? ⟨B, o, none⟩ = some u0 ∧ cur.cell? ⟨B, p, none⟩ = some u1) (hb : Below cur.heap.size cur wm) :
    Below w.heap.size w wm ∧ B < wm.heap.size ∧ wm.cell? ⟨B, o, none⟩ = some u0 ∧ wm.cell? ⟨B, p, none⟩ = some u1 := by
  obtain ⟨h1, h2, c0, c1⟩ := H
  have k : ∀ i, wm.cell? ⟨B, i, none⟩ = cur.cell? ⟨B, i, none⟩ := fun i => hb.cell (p := ⟨B, i, none⟩) h2
  exact ⟨Below.next h1 hb, Nat.lt_of_lt_of_le h2 hb.size, (k o).trans c0, (k p).trans c1⟩

theorem iShowVals_yes (A : Option Addr) (c : Nat) (l : List ValT) (w : World) (hl : l.length ≤ 4194304) (hR : VReads w w.heap.size A l) (hok : valsOkB l = true) :
    Calls Tryd.prog 105 #[.slice A l.length c] w fun e w' => e = .returned (.string (S (showValsS l))) ∧ Below w.heap.size w w' := by
  have HV : Hid (showValsS l = varS (l.length : Int) ++ l.flatMap showVal) := by unfold Hid showValsS; rw [if_pos hok]
  have HR := Lib.hid hR
  clear hR
  have hb := Below.refl w.heap.size w
  have q0 := varS_len (l.length : Int)
  obtain ⟨N, hN⟩ : ∃ N, N = varS (l.length : Int) := ⟨_, rfl⟩
  go_enter Tryd.func105, Tryd.ntmps105
  go_wp2_with (first | (go_at_call 73; refine (iValsOk_any _ _ _ _ hl HR.out).mono ?_; rintro e wn ⟨rfl, hbn⟩; have hb := Below.next (w := w) (by repeat (first | with_reducible exact hb | with_reducible exact Below.refl _ _ | refine Below.drew ?_ | refine Below.setCell ?_ (by simp <;> omega) _ | refine Below.alloc ?_ (by simp <;> omega) _)) hbn; clear hbn) | (go_at_call 46; refine (iVar_any _ _).mono ?_; rintro e wn ⟨rfl, hbn⟩; have hb := Below.next (w := w) (by repeat (first | with_reducible exact hb | with_reducible exact Below.refl _ _ | refine Below.drew ?_ | refine Below.setCell ?_ (by simp <;> omega) _ | refine Below.alloc ?_ (by simp <;> omega) _)) hbn; clear hbn))
  rw [← hN] at q0 HV ⊢
  have HN := Lib.hid hN
  clear hN
  have hb0 := Lib.hid hb
  go_loopw [3, 14] (fun s i wr => ∃ k : Nat, k ≤ l.length ∧ i = .int .i64 k ∧ s = .string (S (N ++ (l.take k).flatMap showVal)) ∧ Below w.heap.size w wr) (fun _ i _ => l.length - (intOf i).toNat)
  case atStart => exact ⟨0, by omega, rfl, by simp, hb0.out⟩
  case round =>
    obtain ⟨k, hk, rfl, rfl, hb⟩ := hrel
    by_cases hlt : k < l.length
    · obtain ⟨b, off, rfl, hbB, hc⟩ := ((HR.out.below hb (Nat.le_refl _)).more hb.size) (by omega)
      obtain ⟨c0, c1⟩ := hc k hlt
      have hki : 0 ≤ (k : Int) ∧ (k : Int) < l.length := by omega
      have hs := Lib.hid (showVal_take l k hlt)
      have hlen : ((l.take k).flatMap showVal).length ≤ 16 * l.length := Nat.le_trans (showVal_len _) (by simp; omega)
      have q1 := varS_len l[k].id
      have q2 := varS_len l[k].power
      generalize (l.take k).flatMap showVal = T at *
      have m1 := fun W : World => run_string_add_sum (P := Tryd.prog) W (S (N ++ T)) (S (varS l[k].id)) (by simp; omega)
      have m2 := fun W : World => run_string_add_sum (P := Tryd.prog) W (S (N ++ (T ++ varS l[k].id))) (S (varS l[k].power)) (by simp; omega)
      have hb1 := Lib.hid (hb.alloc hb.size (.cells #[.int .i64 l[k].id, .int .i64 l[k].power] 101))
      clear hc
      go_wp2_with fail
      go_region_held3 (fun w' => Below w.heap.size w w' ∧ wr.heap.size < w'.heap.size ∧ w'.cell? ⟨wr.heap.size, 0, none⟩ = some (.int .i64 l[k].id) ∧ w'.cell? ⟨wr.heap.size, 1, none⟩ = some (.int .i64 l[k].power)) (first | exact ⟨hb1.out.drew, by simp, by go_simp, by go_simp⟩ | exact held2 (by assumption) hbm | go_keep) (first | (go_at_call 46; refine (iVar_any _ _).mono ?_; rintro e wm ⟨rfl, hbm⟩))
      all_goals
        have hbx : Below w.heap.size w wm := by
          apply And.left
          assumption
        go_wp2
        go_roundw
        case rel => exact ⟨k + 1, by omega, by go_num, by rw [hs.out], hbx⟩
        case measure => simp [intOf]; omega
    · have hkl : Hid ((l.take k).flatMap showVal = l.flatMap showVal) := by unfold Hid; rw [List.take_of_length_le (by omega)]
      go_wp2
      go_ret
      exact ⟨ret_string (by rw [HV.out, hkl.out]), hb⟩

theorem iShowVals_no (A : Option Addr) (c : Nat) (l : List ValT) (w : World) (hl : l.length ≤ 4194304) (hR : VReads w w.heap.size A l) (hok : valsOkB l = false) :
    Calls Tryd.prog 105 #[.slice A l.length c] w fun e w' => e = .returned (.string (S (showValsS l))) ∧ Below w.heap.size w w' := by
  have HV : Hid (showValsS l = []) := by unfold Hid showValsS; rw [hok]; rfl
  have HR := Lib.hid hR
  clear hR
  have hb := Below.refl w.heap.size w
  go_enter Tryd.func105, Tryd.ntmps105
  go_wp2_with (go_at_call 73; refine (iValsOk_any _ _ _ _ hl HR.out).mono ?_; rintro e wn ⟨rfl, hbn⟩; have hb := Below.next (w := w) (by repeat (first | with_reducible exact hb | with_reducible exact Below.refl _ _ | refine Below.drew ?_ | refine Below.setCell ?_ (by simp <;> omega) _ | refine Below.alloc ?_ (by simp <;> omega) _)) hbn; clear hbn)
  go_ret
  exact ⟨ret_string (by rw [HV.out]; rfl), hb⟩
theorem iShowVals_any (A : Option Addr) (c : Nat) (l : List ValT) (w : World) (hl : l.length ≤ 4194304) (hR : VReads w w.heap.size A l) :
    Calls Tryd.prog 105 #[.slice A l.length c] w fun e w' => e = .returned (.string (S (showValsS l))) ∧ Below w.heap.size w w' := by
  cases hok : valsOkB l
  · exact iShowVals_no A c l w hl hR hok
  · exact iShowVals_yes A c l w hl hR hok
theorem sShowVals_yes (A : Option Addr) (c : Nat) (l : List ValT) (w : World) (hl : l.length ≤ 4194304) (hR : VReads w w.heap.size A l) (hok : valsOkB l = true) :
    Calls Tryd.prog 110 #[.slice A l.length c] w fun e w' => e = .returned (.string (S (showValsS l))) ∧ Below w.heap.size w w' := by
  have HV : Hid (showValsS l = varS (l.length : Int) ++ l.flatMap showVal) := by unfold Hid showValsS; rw [if_pos hok]
  have HR := Lib.hid hR
  clear hR
  have hb := Below.refl w.heap.size w
  have q0 := varS_len (l.length : Int)
  obtain ⟨N, hN⟩ : ∃ N, N = varS (l.length : Int) := ⟨_, rfl⟩
  go_enter Tryd.func110, Tryd.ntmps110
  go_wp2_with (first | (go_at_call 76; refine (sValsOk_any _ _ _ _ hl HR.out).mono ?_; rintro e wn ⟨rfl, hbn⟩; have hb := Below.next (w := w) (by repeat (first | with_reducible exact hb | with_reducible exact Below.refl _ _ | refine Below.drew ?_ | refine Below.setCell ?_ (by simp <;> omega) _ | refine Below.alloc ?_ (by simp <;> omega) _)) hbn; clear hbn) | (go_at_call 61; refine (sVar_any _ _).mono ?_; rintro e wn ⟨rfl, hbn⟩; have hb := Below.next (w := w) (by repeat (first | with_reducible exact hb | with_reducible exact Below.refl _ _ | refine Below.drew ?_ | refine Below.setCell ?_ (by simp <;> omega) _ | refine Below.alloc ?_ (by simp <;> omega) _)) hbn; clear hbn))
  rw [← hN] at q0 HV ⊢
  have HN := Lib.hid hN
  clear hN
  have hb0 := Lib.hid hb
  go_loopw [3, 4] (fun s i wr => ∃ k : Nat, k ≤ l.length ∧ i = .int .i64 k ∧ s = .string (S (N ++ (l.take k).flatMap showVal)) ∧ Below w.heap.size w wr) (fun _ i _ => l.length - (intOf i).toNat)
  case atStart => exact ⟨0, by omega, rfl, by simp, hb0.out⟩
  case round =>
    obtain ⟨k, hk, rfl, rfl, hb⟩ := hrel
    by_cases hlt : k < l.length
    · obtain ⟨b, off, rfl, hbB, hc⟩ := ((HR.out.below hb (Nat.le_refl _)).more hb.size) (by omega)
      obtain ⟨c0, c1⟩ := hc k hlt
      have hki : 0 ≤ (k : Int) ∧ (k : Int) < l.length := by omega
      have hs := Lib.hid (showVal_take l k hlt)
      have hlen : ((l.take k).flatMap showVal).length ≤ 16 * l.length := Nat.le_trans (showVal_len _) (by simp; omega)
      have q1 := varS_len l[k].id
      have q2 := varS_len l[k].power
      generalize (l.take k).flatMap showVal = T at *
      have m1 := fun W : World => run_string_add_sum (P := Tryd.prog) W (S (N ++ T)) (S (varS l[k].id)) (by simp; omega)
      have m2 := fun W : World => run_string_add_sum (P := Tryd.prog) W (S (N ++ (T ++ varS l[k].id))) (S (varS l[k].power)) (by simp; omega)
      clear hc
      go_wp2_with fail
      go_region_held3 (fun w' => Below w.heap.size w w' ∧ b < w'.heap.size ∧ w'.cell? ⟨b, off + k * 2, none⟩ = some (.int .i64 l[k].id) ∧ w'.cell? ⟨b, off + k * 2 + 1, none⟩ = some (.int .i64 l[k].power)) (first | exact ⟨hb.drew, hbB, c0, c1⟩ | exact held2 (by assumption) hbm | go_keep) (first | (go_at_call 61; refine (sVar_any _ _).mono ?_; rintro e wm ⟨rfl, hbm⟩))
      all_goals
        have hbx : Below w.heap.size w wm := by
          apply And.left
          assumption
        go_wp2
        go_roundw
        case rel => exact ⟨k + 1, by omega, by go_num, by rw [hs.out], hbx⟩
        case measure => simp [intOf]; omega
    · have hkl : Hid ((l.take k).flatMap showVal = l.flatMap showVal) := by unfold Hid; rw [List.take_of_length_le (by omega)]
      go_wp2
      go_ret
      exact ⟨ret_string (by rw [HV.out, hkl.out]), hb⟩

theorem sShowVals_no (A : Option Addr) (c : Nat) (l : List ValT) (w : World) (hl : l.length ≤ 4194304) (hR : VReads w w.heap.size A l) (hok : valsOkB l = false) :
    Calls Tryd.prog 110 #[.slice A l.length c] w fun e w' => e = .returned (.string (S (showValsS l))) ∧ Below w.heap.size w w' := by
  have HV : Hid (showValsS l = []) := by unfold Hid showValsS; rw [hok]; rfl
  have HR := Lib.hid hR
  clear hR
  have hb := Below.refl w.heap.size w
  go_enter Tryd.func110, Tryd.ntmps110
  go_wp2_with (go_at_call 76; refine (sValsOk_any _ _ _ _ hl HR.out).mono ?_; rintro e wn ⟨rfl, hbn⟩; have hb := Below.next (w := w) (by repeat (first | with_reducible exact hb | with_reducible exact Below.refl _ _ | refine Below.drew ?_ | refine Below.setCell ?_ (by simp <;> omega) _ | refine Below.alloc ?_ (by simp <;> omega) _)) hbn; clear hbn)
  go_ret
  exact ⟨ret_string (by rw [HV.out]; rfl), hb⟩
theorem sShowVals_any (A : Option Addr) (c : Nat) (l : List ValT) (w : World) (hl : l.length ≤ 4194304) (hR : VReads w w.heap.size A l) :
    Calls Tryd.prog 110 #[.slice A l.length c] w fun e w' => e = .returned (.string (S (showValsS l))) ∧ Below w.heap.size w w' := by
  cases hok : valsOkB l
  · exact sShowVals_no A c l w hl hR hok
  · exact sShowVals_yes A c l w hl hR hok
end Go.Proofs.YtecimgkgdpnaeaaDoor

/-
  ShowCommit: both sides.
-/
namespace Go.Proofs.YtecimgkgdpnaeaaDoor
open Go.ChangeShapes Go.WideShapes Go.ChangeAt Go.RowKit
set_option linter.unusedVariables false
set_option linter.unusedSimpArgs false
set_option maxRecDepth 100000

theorem l9Vote_any (h r v : Int) (id : List UInt8) (A : Option Addr) (n c : Nat) (w : World) :
    Calls Tryd.prog 60 #[.agg #[.int .i64 h, .int .i64 r, .string (S id), .slice A n c], .int .i64 v] w fun e w' => e = .returned (VoteT.val ⟨h, r, 2, id, v⟩) ∧ Below w.heap.size w w' := by
  have hb := Below.refl w.heap.size w
  have hv : VoteT.val ⟨h, r, 2, id, v⟩ = .agg #[.int .i64 h, .int .i64 r, .int .i64 2, .string (S id), .int .i64 v] := rfl
  rw [hv]
  go_enter Tryd.func60, Tryd.ntmps60
  go_wp2
  refine bodyPost_ret (v := .agg #[.int .i64 h, .int .i64 r, .int .i64 2, .string (S id), .int .i64 v]) (by simp [results, Tryd.results60, go_sem]) rfl ⟨rfl, ?_⟩
  exact (by repeat (first | with_reducible exact hb | with_reducible exact Below.refl _ _ | refine Below.drew ?_ | refine Below.setCell ?_ (by simp <;> omega) _ | refine Below.alloc ?_ (by simp <;> omega) _))
theorem heldC4 {w cur wm : World} {B : Nat} {u0 u1 u2 u3 : Value}
    (H : Below w.heap.size w cur ∧ B < cur.heap.size ∧ cur.cell? ⟨B, 0, none⟩ = some u0 ∧ cur.cell? ⟨B, 1, none⟩ = some u1 ∧ cur.cell? ⟨B, 2, none⟩ = some u2 ∧ cur.cell? ⟨B, 3, none⟩ = some u3) (hb : Below cur.heap.size cur wm) :
    Below w.heap.size w wm ∧ B < wm.heap.size ∧ wm.cell? ⟨B, 0, none⟩ = some u0 ∧ wm.cell? ⟨B, 1, none⟩ = some u1 ∧ wm.cell? ⟨B, 2, none⟩ = some u2 ∧ wm.cell? ⟨B, 3, none⟩ = some u3 := by
  obtain ⟨h1, h2, c0, c1, c2, c3⟩ := H
  have k : ∀ i, wm.cell? ⟨B, i, none⟩ = cur.cell? ⟨B, i, none⟩ := fun i => hb.cell (p := ⟨B, i, none⟩) h2
  exact ⟨Below.next h1 hb, Nat.lt_of_lt_of_le h2 hb.size, (k 0).trans c0, (k 1).trans c1, (k 2).trans c2, (k 3).trans c3⟩
theorem sigs_bad {l : List SigT} {k : Nat} (hk : k < l.length) (h : sigOk l[k] = false) : l.all sigOk = false := by
  cases ha : l.all sigOk
  · rfl
  · have := List.all_eq_true.1 ha l[k] (List.getElem_mem hk)
    rw [h] at this; cases this
theorem sigs_next {l : List SigT} {k : Nat} (hk : k < l.length) (h : sigOk l[k] = true) (ha : ∀ s ∈ l.take k, sigOk s = true) : ∀ s ∈ l.take (k + 1), sigOk s = true := by
  intro s hs
  rw [List.take_succ_eq_append_getElem hk] at hs
  rcases List.mem_append.1 hs with hs | hs
  · exact ha s hs
  · rw [List.mem_singleton.1 hs]; exact h
theorem showCom_no {x : CommitT} (h : headC x = false) : showCommitS x = [] := by unfold showCommitS; rw [if_neg (by rw [h]; simp)]
theorem showCom_bad {x : CommitT} (h : x.sigs.all sigOk = false) : showCommitS x = [] := by unfold showCommitS; rw [if_neg (by rw [h]; simp)]


theorem iShowCommit_no (h r : Int) (id : List UInt8) (l : List SigT) (A : Option Addr) (c : Nat) (w : World) (hid : id.length ≤ 9223372036854775807) (hn : l.length ≤ 9223372036854775807) (hR : SReads w w.heap.size A l) (hh : headC ⟨h, r, id, l⟩ = false) :
    Calls Tryd.prog 14 #[.agg #[.int .i64 h, .int .i64 r, .string (S id), .slice A l.length c]] w fun e w' => e = .returned (.string (S (showCommitS ⟨h, r, id, l⟩))) ∧ Below w.heap.size w w' := by
  have HV := Lib.hid (showCom_no hh)
  have hb := Below.refl w.heap.size w
  clear hR
  cases h0 : inB h 1 1000000
  · clear hh
    go_enter Tryd.func14, Tryd.ntmps14
    go_wp2_with (first | (go_at_call 54; refine (isHeight_b _ _).mono ?_; rintro e w' ⟨rfl, rfl⟩) | (go_at_call 55; refine (within_b _ _ _ _).mono ?_; rintro e w' ⟨rfl, rfl⟩) | (go_at_call 56; refine (isId_b _ _ hid).mono ?_; rintro e w' ⟨rfl, rfl⟩))
    go_ret
    exact ⟨ret_string (by rw [HV.out]; rfl), (by repeat (first | with_reducible exact hb | with_reducible exact Below.refl _ _ | refine Below.drew ?_ | refine Below.setCell ?_ (by simp <;> omega) _ | refine Below.alloc ?_ (by simp <;> omega) _))⟩
  · skip
    cases h1 : inB r 0 1000
    · clear hh
      go_enter Tryd.func14, Tryd.ntmps14
      go_wp2_with (first | (go_at_call 54; refine (isHeight_b _ _).mono ?_; rintro e w' ⟨rfl, rfl⟩) | (go_at_call 55; refine (within_b _ _ _ _).mono ?_; rintro e w' ⟨rfl, rfl⟩) | (go_at_call 56; refine (isId_b _ _ hid).mono ?_; rintro e w' ⟨rfl, rfl⟩))
      go_ret
      exact ⟨ret_string (by rw [HV.out]; rfl), (by repeat (first | with_reducible exact hb | with_reducible exact Below.refl _ _ | refine Below.drew ?_ | refine Below.setCell ?_ (by simp <;> omega) _ | refine Below.alloc ?_ (by simp <;> omega) _))⟩
    · skip
      cases h2 : isIdB id
      · clear hh
        go_enter Tryd.func14, Tryd.ntmps14
        go_wp2_with (first | (go_at_call 54; refine (isHeight_b _ _).mono ?_; rintro e w' ⟨rfl, rfl⟩) | (go_at_call 55; refine (within_b _ _ _ _).mono ?_; rintro e w' ⟨rfl, rfl⟩) | (go_at_call 56; refine (isId_b _ _ hid).mono ?_; rintro e w' ⟨rfl, rfl⟩))
        go_ret
        exact ⟨ret_string (by rw [HV.out]; rfl), (by repeat (first | with_reducible exact hb | with_reducible exact Below.refl _ _ | refine Below.drew ?_ | refine Below.setCell ?_ (by simp <;> omega) _ | refine Below.alloc ?_ (by simp <;> omega) _))⟩
      · skip
        have h12 : 12 < (l.length : Int) := by
          unfold headC at hh
          simp only [h0, h1, h2, Bool.true_and, decide_eq_false_iff_not] at hh
          omega
        clear hh
        go_enter Tryd.func14, Tryd.ntmps14
        go_wp2_with (first | (go_at_call 54; refine (isHeight_b _ _).mono ?_; rintro e w' ⟨rfl, rfl⟩) | (go_at_call 55; refine (within_b _ _ _ _).mono ?_; rintro e w' ⟨rfl, rfl⟩) | (go_at_call 56; refine (isId_b _ _ hid).mono ?_; rintro e w' ⟨rfl, rfl⟩))
        go_ret
        exact ⟨ret_string (by rw [HV.out]; rfl), (by repeat (first | with_reducible exact hb | with_reducible exact Below.refl _ _ | refine Below.drew ?_ | refine Below.setCell ?_ (by simp <;> omega) _ | refine Below.alloc ?_ (by simp <;> omega) _))⟩

set_option maxHeartbeats 4000000 in
theorem iShowCommit_yes (h r : Int) (id : List UInt8) (l : List SigT) (A : Option Addr) (c : Nat) (w : World) (hid : id.length ≤ 9223372036854775807) (hn : l.length ≤ 9223372036854775807) (hR : SReads w w.heap.size A l) (hsl : ∀ s ∈ l, s.sig.length ≤ 9223372036854775807) (hh : headC ⟨h, r, id, l⟩ = true) :
    Calls Tryd.prog 14 #[.agg #[.int .i64 h, .int .i64 r, .string (S id), .slice A l.length c]] w fun e w' => e = .returned (.string (S (showCommitS ⟨h, r, id, l⟩))) ∧ Below w.heap.size w w' := by
  have HR := Lib.hid hR
  have HSL := Lib.hid hsl
  have HOK : Hid (l.all sigOk = true → showCommitS ⟨h, r, id, l⟩ = varS h ++ varS r ++ sizedS id ++ varS (l.length : Int) ++ l.flatMap showSig) := fun ha => by unfold showCommitS; rw [if_pos ⟨hh, ha⟩]
  have HNO : Hid (l.all sigOk = false → showCommitS ⟨h, r, id, l⟩ = []) := fun ha => showCom_bad ha
  clear hR hsl
  have hb := Below.refl w.heap.size w
  unfold headC at hh
  simp only [Bool.and_eq_true, decide_eq_true_eq] at hh
  obtain ⟨⟨⟨h0, h1⟩, h2⟩, h12⟩ := hh
  have h12' : (l.length : Int) ≤ 12 := by omega
  have hidl : id.length ≤ 8 := by
    have := h2
    unfold isIdB at this
    simp only [Bool.or_eq_true, beq_iff_eq] at this
    omega
  have q0 := varS_len h
  have q1 := varS_len r
  have q2 := sized_len8 id
  have q3 := varS_len (l.length : Int)
  have HZ := Lib.hid fun (W : World) => sized_any id W (by omega)
  have m1 := fun W : World => run_string_add_sum (P := Tryd.prog) W (S (varS h)) (S (varS r)) (by simp; omega)
  have m2 := fun W : World => run_string_add_sum (P := Tryd.prog) W (S (varS h ++ varS r)) (S (sizedS id)) (by simp; omega)
  have m3 := fun W : World => run_string_add_sum (P := Tryd.prog) W (S (varS h ++ (varS r ++ sizedS id))) (S (varS (l.length : Int))) (by simp; omega)
  have hS0 : Below w.heap.size w ((w.alloc (.cells #[.int .i64 h, .int .i64 r, .string (S id), .slice A l.length c] 33)).drew) ∧ w.heap.size < ((w.alloc (.cells #[.int .i64 h, .int .i64 r, .string (S id), .slice A l.length c] 33)).drew).heap.size ∧ ((w.alloc (.cells #[.int .i64 h, .int .i64 r, .string (S id), .slice A l.length c] 33)).drew).cell? ⟨w.heap.size, 0, none⟩ = some (.int .i64 h) ∧ ((w.alloc (.cells #[.int .i64 h, .int .i64 r, .string (S id), .slice A l.length c] 33)).drew).cell? ⟨w.heap.size, 1, none⟩ = some (.int .i64 r) ∧ ((w.alloc (.cells #[.int .i64 h, .int .i64 r, .string (S id), .slice A l.length c] 33)).drew).cell? ⟨w.heap.size, 2, none⟩ = some (.string (S id)) ∧ ((w.alloc (.cells #[.int .i64 h, .int .i64 r, .string (S id), .slice A l.length c] 33)).drew).cell? ⟨w.heap.size, 3, none⟩ = some (.slice A l.length c) :=
    ⟨((Below.refl _ _).alloc (Nat.le_refl _) _).drew, by simp, by go_simp, by go_simp, by go_simp, by go_simp⟩
  have HS0 := Lib.hid hS0
  clear hS0
  go_enter Tryd.func14, Tryd.ntmps14
  go_wp2_with (first | (go_at_call 54; refine (isHeight_b _ _).mono ?_; rintro e w' ⟨rfl, rfl⟩) | (go_at_call 55; refine (within_b _ _ _ _).mono ?_; rintro e w' ⟨rfl, rfl⟩) | (go_at_call 56; refine (isId_b _ _ hid).mono ?_; rintro e w' ⟨rfl, rfl⟩))
  go_region_held3 (fun w' => Below w.heap.size w w' ∧ w.heap.size < w'.heap.size ∧ w'.cell? ⟨w.heap.size, 0, none⟩ = some (.int .i64 h) ∧ w'.cell? ⟨w.heap.size, 1, none⟩ = some (.int .i64 r) ∧ w'.cell? ⟨w.heap.size, 2, none⟩ = some (.string (S id)) ∧ w'.cell? ⟨w.heap.size, 3, none⟩ = some (.slice A l.length c)) (first | exact HS0.out | assumption | exact heldC4 HS0.out hbm | exact heldC4 (by assumption) hbm | go_keep)
    (first | (go_at_call 46; refine (iVar_any _ _).mono ?_; rintro e wm ⟨rfl, hbm⟩) | (go_at_call 47; refine (HZ.out _).mono ?_; rintro e wm ⟨rfl, hbm⟩))
  all_goals
    have hb : Below w.heap.size w wm := by apply And.left; assumption
    have hW : w.heap.size < wm.heap.size ∧ wm.cell? ⟨w.heap.size, 0, none⟩ = some (.int .i64 h) ∧ wm.cell? ⟨w.heap.size, 1, none⟩ = some (.int .i64 r) ∧ wm.cell? ⟨w.heap.size, 2, none⟩ = some (.string (S id)) ∧ wm.cell? ⟨w.heap.size, 3, none⟩ = some (.slice A l.length c) := by apply And.right; assumption
    have HW := Lib.hid hW
    clear HS0
    have hPl : (varS h ++ (varS r ++ (sizedS id ++ varS (l.length : Int)))).length ≤ 64 := by simp; omega
    obtain ⟨P, hPe⟩ : ∃ P, P = varS h ++ (varS r ++ (sizedS id ++ varS (l.length : Int))) := ⟨_, rfl⟩
    go_wp2_with fail
    rw [← hPe] at hPl ⊢
    have HPE := Lib.hid hPe
    clear hPe m1 m2 m3 q0 q1 q2 q3
    go_loopw [3, 47] (fun s i wr => ∃ k : Nat, k ≤ l.length ∧ i = .int .i64 (k : Int) ∧ s = .string (S (P ++ (l.take k).flatMap showSig)) ∧ Hid (∀ s ∈ l.take k, sigOk s = true) ∧ Below w.heap.size w wr) (fun _ i _ => l.length - (intOf i).toNat)
    case atStart => exact ⟨0, by omega, rfl, by simp, by intro s hs; simp at hs, hb⟩
    case round =>
      obtain ⟨k, hk, rfl, rfl, hall, hb⟩ := hrel
      by_cases hlt : k < l.length
      · obtain ⟨b, off, rfl, hbB, hc⟩ := ((HR.out.below hb (Nat.le_refl _)).more hb.size) (by omega)
        obtain ⟨c0, c1⟩ := hc k hlt
        have hki : 0 ≤ (k : Int) ∧ (k : Int) < l.length := by omega
        have hs := Lib.hid (showSig_take l k hlt)
        have hlen : ((l.take k).flatMap showSig).length ≤ 24 * 12 := Nat.le_trans (showSig_len _ hall.out) (by simp; omega)
        have hsl := HSL.out l[k] (List.getElem_mem hlt)
        have q4 := varS_len l[k].val
        have q5 := sized_len8 l[k].sig
        have hbad := Lib.hid fun hok => HNO.out (sigs_bad hlt hok)
        have hnxt := Lib.hid fun hok => sigs_next hlt hok hall.out
        clear hc
        generalize l[k] = g at *
        obtain ⟨gv, gs⟩ := g
        simp only at c0 c1 hsl q4 q5 hs
        have hsok : sigOk ⟨gv, gs⟩ = (inB gv 1 99 && decide (gs.length ≤ 8)) := rfl
        cases hv : inB gv 1 99
        · have HVx := Lib.hid (hbad.out (by rw [hsok, hv]; rfl))
          clear hsok
          go_wp2_with (go_at_call 57; refine (isVal_b _ _).mono ?_; rintro e w' ⟨rfl, rfl⟩)
          go_ret
          exact ⟨ret_string (by rw [HVx.out]; rfl), hb.alloc hb.size _⟩
        · by_cases h8 : gs.length ≤ 8
          · have HNx := Lib.hid (hnxt.out (by rw [hsok, hv, decide_eq_true h8]; rfl))
            have h8' : ¬ 8 < (gs.length : Int) := by omega
            have HZg := Lib.hid fun (W : World) => sized_any gs W (by omega)
            have hb1 := Lib.hid (hb.alloc hb.size (.cells #[.int .i64 gv, .string (S gs)] 85))
            clear hsok
            generalize (l.take k).flatMap showSig = T at *
            have m1 := fun W : World => run_string_add_sum (P := Tryd.prog) W (S (P ++ T)) (S (varS gv)) (by simp; omega)
            have m2 := fun W : World => run_string_add_sum (P := Tryd.prog) W (S (P ++ (T ++ varS gv))) (S (sizedS gs)) (by simp; omega)
            go_wp2_with (go_at_call 57; refine (isVal_b _ _).mono ?_; rintro e w' ⟨rfl, rfl⟩)
            go_region_held3 (fun w' => Below w.heap.size w w' ∧ wr.heap.size < w'.heap.size ∧ w'.cell? ⟨wr.heap.size, 0, none⟩ = some (.int .i64 gv) ∧ w'.cell? ⟨wr.heap.size, 1, none⟩ = some (.string (S gs))) (first | exact ⟨hb1.out.drew, by simp, by go_simp, by go_simp⟩ | exact held2 (by assumption) hbm | go_keep)
              (first | (go_at_call 46; refine (iVar_any _ _).mono ?_; rintro e wm ⟨rfl, hbm⟩) | (go_at_call 47; refine (HZg.out _).mono ?_; rintro e wm ⟨rfl, hbm⟩))
            all_goals
              have hbx : Below w.heap.size w wm := by
                apply And.left
                assumption
              go_wp2
              go_roundw
              case rel => exact ⟨k + 1, by omega, by go_num, by rw [hs.out], HNx.out, hbx⟩
              case measure => simp [intOf]; omega
          · have HVx := Lib.hid (hbad.out (by rw [hsok, hv, decide_eq_false h8]; rfl))
            have h8' : 8 < (gs.length : Int) := by omega
            clear hsok
            go_wp2_with (go_at_call 57; refine (isVal_b _ _).mono ?_; rintro e w' ⟨rfl, rfl⟩)
            go_ret
            exact ⟨ret_string (by rw [HVx.out]; rfl), hb.alloc hb.size _⟩
      · have hkl : l.take k = l := List.take_of_length_le (by omega)
        rw [hkl] at hall
        have HVx := Lib.hid (HOK.out (List.all_eq_true.2 hall.out))
        have hfl : Hid ((l.take k).flatMap showSig = l.flatMap showSig) := by unfold Hid; rw [hkl]
        generalize (l.take k).flatMap showSig = T at *
        go_wp2
        go_ret
        exact ⟨ret_string (by rw [HVx.out, hfl.out, HPE.out]; simp), hb⟩

theorem sShowCommit_no (h r : Int) (id : List UInt8) (l : List SigT) (A : Option Addr) (c : Nat) (w : World) (hid : id.length ≤ 9223372036854775807) (hn : l.length ≤ 9223372036854775807) (hR : SReads w w.heap.size A l) (hh : headC ⟨h, r, id, l⟩ = false) :
    Calls Tryd.prog 19 #[.agg #[.int .i64 h, .int .i64 r, .string (S id), .slice A l.length c]] w fun e w' => e = .returned (.string (S (showCommitS ⟨h, r, id, l⟩))) ∧ Below w.heap.size w w' := by
  have HV := Lib.hid (showCom_no hh)
  have hb := Below.refl w.heap.size w
  clear hR
  have hvo : voteOkB ⟨h, r, 2, id, 1⟩ = (inB h 1 1000000 && inB r 0 1000 && isIdB id) := by
    unfold voteOkB
    rw [show inB 2 1 2 = true from rfl, show inB 1 1 99 = true from rfl, Bool.and_true, Bool.and_true]
  have hv : VoteT.val ⟨h, r, 2, id, 1⟩ = .agg #[.int .i64 h, .int .i64 r, .int .i64 2, .string (S id), .int .i64 1] := rfl
  cases h0 : voteOkB ⟨h, r, 2, id, 1⟩
  · clear hh hvo
    go_enter Tryd.func19, Tryd.ntmps19
    go_wp2_with (first | (go_at_call 60; refine (l9Vote_any _ _ _ _ _ _ _ _).mono ?_; rintro e wn ⟨rfl, hbn⟩; have hb := Below.next (w := w) (by repeat (first | with_reducible exact hb | with_reducible exact Below.refl _ _ | refine Below.drew ?_ | refine Below.setCell ?_ (by simp <;> omega) _ | refine Below.alloc ?_ (by simp <;> omega) _)) hbn; obtain ⟨hc, hf⟩ := bcell hbn; have hz := hbn.size; (try simp at hz); (try have hz1 : w.heap.size < wn.heap.size := (by omega)); (try have hz2 : w.heap.size + 1 < wn.heap.size := (by omega)); (try have hz3 : w.heap.size + 1 + 1 < wn.heap.size := (by omega)); clear hbn) | (go_at_call 59; refine (sVoteOk_any ⟨h, r, 2, id, 1⟩ _ hid).mono ?_; rintro e wn ⟨rfl, hbn⟩; have hb := Below.next (w := w) (by repeat (first | with_reducible exact hb | with_reducible exact Below.refl _ _ | refine Below.drew ?_ | refine Below.setCell ?_ (by simp <;> omega) _ | refine Below.alloc ?_ (by simp <;> omega) _)) hbn; obtain ⟨hc, hf⟩ := bcell hbn; have hz := hbn.size; (try simp at hz); (try have hz1 : w.heap.size < wn.heap.size := (by omega)); (try have hz2 : w.heap.size + 1 < wn.heap.size := (by omega)); (try have hz3 : w.heap.size + 1 + 1 < wn.heap.size := (by omega)); clear hbn))
    go_ret
    exact ⟨ret_string (by rw [HV.out]; rfl), (by repeat (first | with_reducible exact hb | with_reducible exact Below.refl _ _ | refine Below.drew ?_ | refine Below.setCell ?_ (by simp <;> omega) _ | refine Below.alloc ?_ (by simp <;> omega) _))⟩
  · have h12 : 12 < (l.length : Int) := by
      rw [h0] at hvo
      unfold headC at hh
      simp only [← hvo, Bool.true_and, decide_eq_false_iff_not] at hh
      omega
    clear hh hvo
    go_enter Tryd.func19, Tryd.ntmps19
    go_wp2_with (first | (go_at_call 60; refine (l9Vote_any _ _ _ _ _ _ _ _).mono ?_; rintro e wn ⟨rfl, hbn⟩; have hb := Below.next (w := w) (by repeat (first | with_reducible exact hb | with_reducible exact Below.refl _ _ | refine Below.drew ?_ | refine Below.setCell ?_ (by simp <;> omega) _ | refine Below.alloc ?_ (by simp <;> omega) _)) hbn; obtain ⟨hc, hf⟩ := bcell hbn; have hz := hbn.size; (try simp at hz); (try have hz1 : w.heap.size < wn.heap.size := (by omega)); (try have hz2 : w.heap.size + 1 < wn.heap.size := (by omega)); (try have hz3 : w.heap.size + 1 + 1 < wn.heap.size := (by omega)); clear hbn) | (go_at_call 59; refine (sVoteOk_any ⟨h, r, 2, id, 1⟩ _ hid).mono ?_; rintro e wn ⟨rfl, hbn⟩; have hb := Below.next (w := w) (by repeat (first | with_reducible exact hb | with_reducible exact Below.refl _ _ | refine Below.drew ?_ | refine Below.setCell ?_ (by simp <;> omega) _ | refine Below.alloc ?_ (by simp <;> omega) _)) hbn; obtain ⟨hc, hf⟩ := bcell hbn; have hz := hbn.size; (try simp at hz); (try have hz1 : w.heap.size < wn.heap.size := (by omega)); (try have hz2 : w.heap.size + 1 < wn.heap.size := (by omega)); (try have hz3 : w.heap.size + 1 + 1 < wn.heap.size := (by omega)); clear hbn))
    go_ret
    exact ⟨ret_string (by rw [HV.out]; rfl), (by repeat (first | with_reducible exact hb | with_reducible exact Below.refl _ _ | refine Below.drew ?_ | refine Below.setCell ?_ (by simp <;> omega) _ | refine Below.alloc ?_ (by simp <;> omega) _))⟩

set_option maxHeartbeats 4000000 in
theorem sShowCommit_yes (h r : Int) (id : List UInt8) (l : List SigT) (A : Option Addr) (c : Nat) (w : World) (hid : id.length ≤ 9223372036854775807) (hn : l.length ≤ 9223372036854775807) (hR : SReads w w.heap.size A l) (hsl : ∀ s ∈ l, s.sig.length ≤ 9223372036854775807) (hh : headC ⟨h, r, id, l⟩ = true) :
    Calls Tryd.prog 19 #[.agg #[.int .i64 h, .int .i64 r, .string (S id), .slice A l.length c]] w fun e w' => e = .returned (.string (S (showCommitS ⟨h, r, id, l⟩))) ∧ Below w.heap.size w w' := by
  have HR := Lib.hid hR
  have HSL := Lib.hid hsl
  have HOK : Hid (l.all sigOk = true → showCommitS ⟨h, r, id, l⟩ = varS h ++ varS r ++ sizedS id ++ varS (l.length : Int) ++ l.flatMap showSig) := fun ha => by unfold showCommitS; rw [if_pos ⟨hh, ha⟩]
  have HNO : Hid (l.all sigOk = false → showCommitS ⟨h, r, id, l⟩ = []) := fun ha => showCom_bad ha
  clear hR hsl
  have hb := Below.refl w.heap.size w
  unfold headC at hh
  simp only [Bool.and_eq_true, decide_eq_true_eq] at hh
  obtain ⟨⟨⟨h0, h1⟩, h2⟩, h12⟩ := hh
  have h12' : (l.length : Int) ≤ 12 := by omega
  have hidl : id.length ≤ 8 := by
    have := h2
    unfold isIdB at this
    simp only [Bool.or_eq_true, beq_iff_eq] at this
    omega
  have q0 := varS_len h
  have q1 := varS_len r
  have q2 := sized_len8 id
  have q3 := varS_len (l.length : Int)
  have HZ := Lib.hid fun (W : World) => l6Piece_any id W (by omega)
  have m1 := fun W : World => run_string_add_sum (P := Tryd.prog) W (S (varS h)) (S (varS r)) (by simp; omega)
  have m2 := fun W : World => run_string_add_sum (P := Tryd.prog) W (S (varS h ++ varS r)) (S (sizedS id)) (by simp; omega)
  have m3 := fun W : World => run_string_add_sum (P := Tryd.prog) W (S (varS h ++ (varS r ++ sizedS id))) (S (varS (l.length : Int))) (by simp; omega)
  have h00 : voteOkB ⟨h, r, 2, id, 1⟩ = true := by
    unfold voteOkB
    rw [h0, h1, h2]; rfl
  have hv : VoteT.val ⟨h, r, 2, id, 1⟩ = .agg #[.int .i64 h, .int .i64 r, .int .i64 2, .string (S id), .int .i64 1] := rfl
  go_enter Tryd.func19, Tryd.ntmps19
  go_wp2_with (first | (go_at_call 60; refine (l9Vote_any _ _ _ _ _ _ _ _).mono ?_; rintro e wn ⟨rfl, hbn⟩; have hb := Below.next (w := w) (by repeat (first | with_reducible exact hb | with_reducible exact Below.refl _ _ | refine Below.drew ?_ | refine Below.setCell ?_ (by simp <;> omega) _ | refine Below.alloc ?_ (by simp <;> omega) _)) hbn; obtain ⟨hc, hf⟩ := bcell hbn; have hz := hbn.size; (try simp at hz); (try have hz1 : w.heap.size < wn.heap.size := (by omega)); (try have hz2 : w.heap.size + 1 < wn.heap.size := (by omega)); (try have hz3 : w.heap.size + 1 + 1 < wn.heap.size := (by omega)); clear hbn) | (go_at_call 59; refine (sVoteOk_any ⟨h, r, 2, id, 1⟩ _ hid).mono ?_; rintro e wn ⟨rfl, hbn⟩; have hb := Below.next (w := w) (by repeat (first | with_reducible exact hb | with_reducible exact Below.refl _ _ | refine Below.drew ?_ | refine Below.setCell ?_ (by simp <;> omega) _ | refine Below.alloc ?_ (by simp <;> omega) _)) hbn; obtain ⟨hc, hf⟩ := bcell hbn; have hz := hbn.size; (try simp at hz); (try have hz1 : w.heap.size < wn.heap.size := (by omega)); (try have hz2 : w.heap.size + 1 < wn.heap.size := (by omega)); (try have hz3 : w.heap.size + 1 + 1 < wn.heap.size := (by omega)); clear hbn))
  have c0 : wn.cell? ⟨w.heap.size, 0, none⟩ = some (.int .i64 h) := by go_simp
  have c1 : wn.cell? ⟨w.heap.size, 1, none⟩ = some (.int .i64 r) := by go_simp
  have c2 : wn.cell? ⟨w.heap.size, 2, none⟩ = some (.string (S id)) := by go_simp
  have c3 : wn.cell? ⟨w.heap.size, 3, none⟩ = some (.slice A l.length c) := by go_simp
  have hz1 : w.heap.size < wn.heap.size := by omega
  clear hc hf
  go_region_held3 (fun w' => Below w.heap.size w w' ∧ w.heap.size < w'.heap.size ∧ w'.cell? ⟨w.heap.size, 0, none⟩ = some (.int .i64 h) ∧ w'.cell? ⟨w.heap.size, 1, none⟩ = some (.int .i64 r) ∧ w'.cell? ⟨w.heap.size, 2, none⟩ = some (.string (S id)) ∧ w'.cell? ⟨w.heap.size, 3, none⟩ = some (.slice A l.length c)) (first | exact ⟨hb.drew, hz1, c0, c1, c2, c3⟩ | exact heldC4 (by assumption) hbm | go_keep)
    (first | (go_at_call 61; refine (sVar_any _ _).mono ?_; rintro e wm ⟨rfl, hbm⟩) | (go_at_call 62; refine (HZ.out _).mono ?_; rintro e wm ⟨rfl, hbm⟩))
  all_goals
    have hb : Below w.heap.size w wm := by apply And.left; assumption
    have hW : w.heap.size < wm.heap.size ∧ wm.cell? ⟨w.heap.size, 0, none⟩ = some (.int .i64 h) ∧ wm.cell? ⟨w.heap.size, 1, none⟩ = some (.int .i64 r) ∧ wm.cell? ⟨w.heap.size, 2, none⟩ = some (.string (S id)) ∧ wm.cell? ⟨w.heap.size, 3, none⟩ = some (.slice A l.length c) := by apply And.right; assumption
    have HC3 := Lib.hid fun (W : World) (h : Below wm.heap.size wm W) => (h.cell (p := ⟨w.heap.size, 3, none⟩) hW.1).trans hW.2.2.2.2
    have HB0 := Lib.hid hb
    have hPl : (varS h ++ (varS r ++ (sizedS id ++ varS (l.length : Int)))).length ≤ 64 := by simp; omega
    obtain ⟨P, hPe⟩ : ∃ P, P = varS h ++ (varS r ++ (sizedS id ++ varS (l.length : Int))) := ⟨_, rfl⟩
    go_wp2_with fail
    rw [← hPe] at hPl ⊢
    have HPE := Lib.hid hPe
    clear hPe m1 m2 m3 q0 q1 q2 q3 c0 c1 c2 c3 hW
    go_loopw [3, 4] (fun s i wr => ∃ k : Nat, k ≤ l.length ∧ i = .int .i64 (k : Int) ∧ s = .string (S (P ++ (l.take k).flatMap showSig)) ∧ Hid (∀ s ∈ l.take k, sigOk s = true) ∧ Below wm.heap.size wm wr) (fun _ i _ => l.length - (intOf i).toNat)
    case atStart => exact ⟨0, by omega, rfl, by simp, by intro s hs; simp at hs, Below.refl _ _⟩
    case round =>
      obtain ⟨k, hk, rfl, rfl, hall, hbx⟩ := hrel
      have hb := Below.next HB0.out hbx
      have c3 := HC3.out _ hbx
      by_cases hlt : k < l.length
      · have HRr := Lib.hid ((HR.out.below hb (Nat.le_refl _)).more hb.size)
        obtain ⟨b, off, hA, hbB, hc⟩ := HRr.out (by omega)
        have HCC := Lib.hid fun (W : World) (h : Below wr.heap.size wr W) => And.intro ((h.cell (p := ⟨b, _, none⟩) hbB).trans (hc k hlt).1) ((h.cell (p := ⟨b, _, none⟩) hbB).trans (hc k hlt).2)
        have HC3r := Lib.hid fun (W : World) (h : Below wr.heap.size wr W) => HC3.out W (Below.next hbx h)
        rw [hA] at c3 HC3r
        clear hA
        obtain ⟨e0, e1⟩ := hc k hlt
        have hki : 0 ≤ (k : Int) ∧ (k : Int) < l.length := by omega
        have hs := Lib.hid (showSig_take l k hlt)
        have hlen : ((l.take k).flatMap showSig).length ≤ 24 * 12 := Nat.le_trans (showSig_len _ hall.out) (by simp; omega)
        have hsl := HSL.out l[k] (List.getElem_mem hlt)
        have q4 := varS_len l[k].val
        have q5 := sized_len8 l[k].sig
        have hbad := Lib.hid fun hok => HNO.out (sigs_bad hlt hok)
        have hnxt := Lib.hid fun hok => sigs_next hlt hok hall.out
        clear hc
        generalize l[k] = g at *
        obtain ⟨gv, gs⟩ := g
        simp only at e0 e1 hsl q4 q5 hs HCC
        have hsok : sigOk ⟨gv, gs⟩ = (inB gv 1 99 && decide (gs.length ≤ 8)) := rfl
        cases hv : inB gv 1 99
        · have HVx := Lib.hid (hbad.out (by rw [hsok, hv]; rfl))
          clear hsok
          go_wp2_with (go_at_call 58; refine (l1In_b _ _ _ _).mono ?_; rintro e w' ⟨rfl, rfl⟩)
          go_ret
          exact ⟨ret_string (by rw [HVx.out]; rfl), hb⟩
        · by_cases h8 : gs.length ≤ 8
          · have HNx := Lib.hid (hnxt.out (by rw [hsok, hv, decide_eq_true h8]; rfl))
            have h8' : ¬ 8 < (gs.length : Int) := by omega
            have HZg := Lib.hid fun (W : World) => l6Piece_any gs W (by omega)
            have hr0 := Below.refl wr.heap.size wr
            clear hsok
            generalize (l.take k).flatMap showSig = T at *
            have m1 := fun W : World => run_string_add_sum (P := Tryd.prog) W (S (P ++ T)) (S (varS gv)) (by simp; omega)
            have m2 := fun W : World => run_string_add_sum (P := Tryd.prog) W (S (P ++ (T ++ varS gv))) (S (sizedS gs)) (by simp; omega)
            go_wp2_with (go_at_call 58; refine (l1In_b _ _ _ _).mono ?_; rintro e w' ⟨rfl, rfl⟩)
            go_region_held3 (fun w' => Below wr.heap.size wr w' ∧ w'.cell? ⟨w.heap.size, 3, none⟩ = some (.slice (some ⟨b, off, none⟩) l.length c) ∧ w'.cell? ⟨b, off + k * 2, none⟩ = some (.int .i64 gv) ∧ w'.cell? ⟨b, off + k * 2 + 1, none⟩ = some (.string (S gs))) (first | exact ⟨hr0.drew, HC3r.out _ hr0.drew, (HCC.out _ hr0.drew).1, (HCC.out _ hr0.drew).2⟩ | exact (fun (q : Below wr.heap.size wr _) => ⟨q, HC3r.out _ q, (HCC.out _ q).1, (HCC.out _ q).2⟩) (Below.next (w := wr) (And.left (by assumption)) hbm) | assumption)
              (first | (go_at_call 61; refine (sVar_any _ _).mono ?_; rintro e wm' ⟨rfl, hbm⟩) | (go_at_call 62; refine (HZg.out _).mono ?_; rintro e wm' ⟨rfl, hbm⟩))
            all_goals
              have hbz : Below wr.heap.size wr wm' := by
                apply And.left
                assumption
              go_wp2
              go_roundw
              case rel => exact ⟨k + 1, by omega, by go_num, by rw [hs.out], HNx.out, Below.next hbx hbz⟩
              case measure => simp [intOf]; omega
          · have HVx := Lib.hid (hbad.out (by rw [hsok, hv, decide_eq_false h8]; rfl))
            have h8' : 8 < (gs.length : Int) := by omega
            clear hsok
            go_wp2_with (go_at_call 58; refine (l1In_b _ _ _ _).mono ?_; rintro e w' ⟨rfl, rfl⟩)
            go_ret
            exact ⟨ret_string (by rw [HVx.out]; rfl), hb⟩
      · have hkl : l.take k = l := List.take_of_length_le (by omega)
        rw [hkl] at hall
        have HVx := Lib.hid (HOK.out (List.all_eq_true.2 hall.out))
        have hfl : Hid ((l.take k).flatMap showSig = l.flatMap showSig) := by unfold Hid; rw [hkl]
        generalize (l.take k).flatMap showSig = T at *
        go_wp2
        go_ret
        exact ⟨ret_string (by rw [HVx.out, hfl.out, HPE.out]; simp), hb⟩
end Go.Proofs.YtecimgkgdpnaeaaDoor

/-
  ShowCommit, both, at every commit; what the scanner reads of a commit.
-/
namespace Go.Proofs.YtecimgkgdpnaeaaDoor
open Go.ChangeShapes Go.WideShapes Go.ChangeAt Go.RowKit
set_option linter.unusedVariables false

theorem iShowCommit_any (x : CommitT) (A : Option Addr) (c : Nat) (w : World) (hid : x.id.length ≤ 9223372036854775807) (hn : x.sigs.length ≤ 9223372036854775807) (hR : SReads w w.heap.size A x.sigs) (hm : ∀ s ∈ x.sigs, s.sig.length ≤ 9223372036854775807) :
    Calls Tryd.prog 14 #[.agg #[.int .i64 x.h, .int .i64 x.r, .string (S x.id), .slice A x.sigs.length c]] w fun e w' => e = .returned (.string (S (showCommitS x))) ∧ Below w.heap.size w w' := by
  obtain ⟨h, r, id, l⟩ := x
  cases hh : headC ⟨h, r, id, l⟩
  · exact iShowCommit_no h r id l A c w hid hn hR hh
  · exact iShowCommit_yes h r id l A c w hid hn hR hm hh
theorem sShowCommit_any (x : CommitT) (A : Option Addr) (c : Nat) (w : World) (hid : x.id.length ≤ 9223372036854775807) (hn : x.sigs.length ≤ 9223372036854775807) (hR : SReads w w.heap.size A x.sigs) (hm : ∀ s ∈ x.sigs, s.sig.length ≤ 9223372036854775807) :
    Calls Tryd.prog 19 #[.agg #[.int .i64 x.h, .int .i64 x.r, .string (S x.id), .slice A x.sigs.length c]] w fun e w' => e = .returned (.string (S (showCommitS x))) ∧ Below w.heap.size w w' := by
  obtain ⟨h, r, id, l⟩ := x
  cases hh : headC ⟨h, r, id, l⟩
  · exact sShowCommit_no h r id l A c w hid hn hR hh
  · exact sShowCommit_yes h r id l A c w hid hn hR hm hh
theorem sigsAt_sig (s : Sc) (i : Nat) : ∀ x ∈ (sigsAt s i).1, x.sig.length ≤ s.1.length := by
  induction i with
  | zero => intro x hx; simp [sigsAt] at hx
  | succ i ih =>
    intro x hx
    simp only [sigsAt, List.mem_append, List.mem_singleton] at hx
    rcases hx with hx | rfl
    · exact ih x hx
    · have h1 := (sigsAt_len s i).2
      have h2 := numP_len (sigsAt s i).2
      have h3 := (textP_len (numP (sigsAt s i).2).2).2
      simp only; omega
/-- What the scanner reads ahead of the signatures, a name for each. -/
theorem com_parts (l : List UInt8) : ∃ (n1 n2 n : Nat) (t1 : List UInt8) (s2 s3 s4 s5 : Sc),
    numP (l, false) = (n1, s2) ∧ numP s2 = (n2, s3) ∧ textP s3 = (t1, s4) ∧ numP s4 = (n, s5) ∧ comN l = (n, s5) ∧ (∀ i, i = n → comP l = (⟨n1, n2, t1, (sigsAt s5 i).1⟩, (sigsAt s5 i).2)) ∧
    s2.1.length ≤ l.length ∧ s3.1.length ≤ l.length ∧ s4.1.length ≤ l.length ∧ s5.1.length ≤ l.length ∧ t1.length ≤ l.length ∧ n < 562949953421312 := by
  obtain ⟨n1, s2, h1⟩ : ∃ n s, numP (l, false) = (n, s) := ⟨_, _, rfl⟩
  obtain ⟨n2, s3, h2⟩ : ∃ n s, numP s2 = (n, s) := ⟨_, _, rfl⟩
  obtain ⟨t1, s4, h3⟩ : ∃ n s, textP s3 = (n, s) := ⟨_, _, rfl⟩
  obtain ⟨n, s5, h4⟩ : ∃ n s, numP s4 = (n, s) := ⟨_, _, rfl⟩
  have a1 := numP_len (l, false)
  have a2 := numP_len s2
  have a3 := textP_len s3
  have a4 := numP_len s4
  have a5 := numP_lt s4
  rw [h1] at a1
  rw [h2] at a2
  rw [h3] at a3
  rw [h4] at a4 a5
  simp only at a1 a2 a3 a4 a5
  have hH : comH l = (n1, n2, t1, s4) := by unfold comH; simp only [h1, h2, h3]
  have hN : comN l = (n, s5) := by unfold comN; rw [hH]; exact h4
  refine ⟨n1, n2, n, t1, s2, s3, s4, s5, h1, h2, h3, h4, hN, ?_, ?_⟩
  · rintro i rfl
    unfold comP
    rw [hN, hH]
  · omega
theorem readCom_len (l : List UInt8) : (readComS l).1.sigs.length ≤ 12 ∧ (readComS l).1.id.length ≤ l.length ∧ ∀ s ∈ (readComS l).1.sigs, s.sig.length ≤ l.length := by
  obtain ⟨n1, n2, n, t1, s2, s3, s4, s5, h1, h2, h3, h4, hN, hP, l2, l3, l4, l5, q1, q2⟩ := com_parts l
  unfold readComS
  by_cases h : (comN l).1 ≤ 12 ∧ (comP l).2.2 = false ∧ showCommitS (comP l).1 = l
  · rw [if_pos h]
    rw [hN] at h
    rw [hP n rfl]
    exact ⟨by simp only [(sigsAt_len s5 n).1]; exact h.1, q1, fun s hs => Nat.le_trans (sigsAt_sig s5 n s hs) l5⟩
  · rw [if_neg h]; exact ⟨by simp [zeroCom], by simp [zeroCom], by simp [zeroCom]⟩
end Go.Proofs.YtecimgkgdpnaeaaDoor

/-
  ReadCommit: the program's.
-/
namespace Go.Proofs.YtecimgkgdpnaeaaDoor
open Go.ChangeShapes Go.WideShapes Go.ChangeAt Go.RowKit
set_option linter.unusedVariables false
set_option linter.unusedSimpArgs false
set_option maxRecDepth 100000

/-- Four cells of one block, writable. -/
def H4r (w : World) (b : Nat) (u0 u1 u2 u3 : Value) : Prop := b < w.heap.size ∧ w.cell? ⟨b, 0, none⟩ = some u0 ∧ w.cell? ⟨b, 1, none⟩ = some u1 ∧ w.cell? ⟨b, 2, none⟩ = some u2 ∧ w.cell? ⟨b, 3, none⟩ = some u3 ∧ ∀ i, w.frozen? ⟨b, i, none⟩ = false
theorem H4r.block {w w' : World} {b : Nat} {u0 u1 u2 u3 : Value} (h : H4r w b u0 u1 u2 u3) (hb : w'.heap[b]? = w.heap[b]?) (hs : w.heap.size ≤ w'.heap.size) : H4r w' b u0 u1 u2 u3 := by
  obtain ⟨h1, c0, c1, c2, c3, hf⟩ := h
  exact ⟨Nat.lt_of_lt_of_le h1 hs, (World.cell?_of_block (w := w) hb).trans c0, (World.cell?_of_block (w := w) hb).trans c1, (World.cell?_of_block (w := w) hb).trans c2, (World.cell?_of_block (w := w) hb).trans c3, fun i => (World.frozen?_of_block (w := w) hb).trans (hf i)⟩
theorem H4r.but {w w' : World} {b B : Nat} {u0 u1 u2 u3 : Value} (h : H4r w b u0 u1 u2 u3) (hb : But B w w') (hn : b ≠ B) : H4r w' b u0 u1 u2 u3 := h.block (hb.block b h.1 (by intro e; cases e; exact hn rfl)) hb.size
theorem H4r.low {w w' : World} {b k : Nat} {u0 u1 u2 u3 : Value} (h : H4r w b u0 u1 u2 u3) (hb : Below k w w') (hn : b < k) : H4r w' b u0 u1 u2 u3 := h.block (hb.block b hn) hb.size
theorem H4r.next {w w' : World} {b : Nat} {u0 u1 u2 u3 : Value} (h : H4r w b u0 u1 u2 u3) (hb : Below w.heap.size w w') : H4r w' b u0 u1 u2 u3 := h.low hb h.1
theorem H4r.alloc {w : World} {b : Nat} {u0 u1 u2 u3 : Value} (h : H4r w b u0 u1 u2 u3) (o : Obj) : H4r (w.alloc o) b u0 u1 u2 u3 := h.next (Below.alloc (Below.refl _ _) (Nat.le_refl _) o)
theorem H4r.far {w : World} {b g : Nat} {u0 u1 u2 u3 : Value} (h : H4r w b u0 u1 u2 u3) (hn : g ≠ b) (i : Nat) (u : Value) : H4r (w.setCell ⟨g, i, none⟩ u) b u0 u1 u2 u3 := h.block (Below.heap_setCell _ _ _ _ (by intro e; subst e; exact hn rfl)) (by simp [World.setCell])
theorem H4r.new (w : World) (t : TypeId) (u0 u1 u2 u3 : Value) : H4r (w.alloc (.cells #[u0, u1, u2, u3] t)) w.heap.size u0 u1 u2 u3 :=
  ⟨by simp, by go_simp, by go_simp, by go_simp, by go_simp, fun i => by go_simp⟩
theorem H4r.set {w : World} {b : Nat} {u0 u1 u2 u3 : Value} (h : H4r w b u0 u1 u2 u3) (v : Value) :
    H4r (w.setCell ⟨b, 1, none⟩ v) b u0 v u2 u3 ∧ H4r (w.setCell ⟨b, 2, none⟩ v) b u0 u1 v u3 ∧ H4r (w.setCell ⟨b, 3, none⟩ v) b u0 u1 u2 v := by
  obtain ⟨h1, c0, c1, c2, c3, hf⟩ := h
  refine ⟨?_, ?_, ?_⟩ <;> exact ⟨by simpa [World.setCell] using h1, by go_simp, by go_simp, by go_simp, by go_simp, fun i => by go_simp⟩
theorem own_sreads {w : World} {base : Nat} {e : TypeId} {A : Option Addr} {n c : Nat} {l : List SigT} (h : w.ownsRow base e 2 (.slice A n c) n (scells l)) (hn : l.length = n) : SReads w w.heap.size A l := by subst hn; exact SReads.of_own h

set_option maxHeartbeats 4000000 in
theorem iReadCommit_any (l : List UInt8) (w : World) (hl : l.length ≤ 1048576) :
    Calls Tryd.prog 15 #[.string (S l)] w fun e w' => ∃ A c, e = .returned (.tuple #[.agg #[.int .i64 (readComS l).1.h, .int .i64 (readComS l).1.r, .string (S (readComS l).1.id), .slice A (readComS l).1.sigs.length c], .bool (readComS l).2]) ∧ w'.ownsRow w.heap.size 85 2 (.slice A (readComS l).1.sigs.length c) (readComS l).1.sigs.length (scells (readComS l).1.sigs) ∧ Below w.heap.size w w' := by
  obtain ⟨i0, hi, hz0, hz1, hz2⟩ := info_parts info_csig
  obtain ⟨n1, n2, n, t1, s2, s3, s4, s5, h1, h2, h3, h4, hN, hP, l2, l3, l4, l5, q1, q2⟩ := com_parts l
  have HV : Hid (readComS l = if n ≤ 12 ∧ (sigsAt s5 n).2.2 = false ∧ showCommitS ⟨n1, n2, t1, (sigsAt s5 n).1⟩ = l then (⟨n1, n2, t1, (sigsAt s5 n).1⟩, true) else (zeroCom, false)) := by unfold Hid readComS; rw [hN, hP n rfl]
  have HG : Hid (∀ k, (sigsAt s5 k).2.2 = false → l.isEmpty = false) := fun k h => by
    cases l with
    | nil =>
      exfalso
      have g5 : s5.2 = false := by
        cases hx : s5.2
        · rfl
        · have := sigsAt_good (s := s5) (i := 0) (j := k) hx (by omega)
          rw [this] at h; cases h
      have := (comN_ne (l := []) (by rw [hN]; exact g5)).1
      exact this rfl
    | cons a t => rfl
  have HMANY := Lib.hid fun (h : 12 < n) (x : CommitT) (hne : l ≠ []) => readCom_many (by rw [hN]; exact h) x hne
  have HLEN : Hid (∀ k, (sigsAt s5 k).1.length = k ∧ (sigsAt s5 k).2.1.length ≤ 1048576 ∧ ∀ x ∈ (sigsAt s5 k).1, x.sig.length ≤ 9223372036854775807) := fun k => ⟨(sigsAt_len s5 k).1, Nat.le_trans (sigsAt_len s5 k).2 (by omega), fun x hx => Nat.le_trans (sigsAt_sig s5 k x hx) (by omega)⟩
  have HSTEP : Hid (∀ k, sigsAt s5 (k + 1) = ((sigsAt s5 k).1 ++ [⟨(numP (sigsAt s5 k).2).1, (textP (numP (sigsAt s5 k).2).2).1⟩], (textP (numP (sigsAt s5 k).2).2).2)) := fun k => rfl
  have HZ : Hid (sigsAt s5 0 = ([], s5)) := rfl
  have K1 := Lib.hid fun (W : World) (h : ScanAt W (w.heap.size + 1) (l, false)) => num_eq h1 hl h
  have K2 := Lib.hid fun (W : World) (h : ScanAt W (w.heap.size + 1) s2) => num_eq h2 (Nat.le_trans l2 hl) h
  have K3 := Lib.hid fun (W : World) (h : ScanAt W (w.heap.size + 1) s3) => text_eq h3 (Nat.le_trans l3 hl) h
  have K4 := Lib.hid fun (W : World) (h : ScanAt W (w.heap.size + 1) s4) => num_eq h4 (Nat.le_trans l4 hl) h
  have hb := Below.refl w.heap.size w
  clear h1 h2 h3 h4 hN hP l2 l3 l4 l5
  generalize readComS l = V at *
  generalize hVA : sigsAt s5 = VA at *
  clear hVA
  go_enter Tryd.func15, Tryd.ntmps15
  go_wp2_with fail
  have hR := H4r.new w 33 (.int .i64 0) (.int .i64 0) (.string ⟨#[]⟩) (.slice none 0 0)
  have hBW := hb.alloc (Nat.le_refl _) (.cells #[.int .i64 0, .int .i64 0, .string ⟨#[]⟩, .slice none 0 0] 33)
  have hWAs : (w.alloc (.cells #[.int .i64 0, .int .i64 0, .string ⟨#[]⟩, .slice none 0 0] 33)).heap.size = w.heap.size + 1 := by simp
  generalize w.alloc (.cells #[.int .i64 0, .int .i64 0, .string ⟨#[]⟩, .slice none 0 0] 33) = WA at *
  have hS := ScanAt.new WA 69 l false
  rw [hWAs] at hS
  have hRB := Lib.hid (hR.alloc (.cells #[.string (S l), .bool false] 69))
  have hBB := hBW.alloc (by omega) (.cells #[.string (S l), .bool false] 69)
  have hWBs : (WA.alloc (.cells #[.string (S l), .bool false] 69)).heap.size = w.heap.size + 1 + 1 := by simp [hWAs]
  generalize WA.alloc (.cells #[.string (S l), .bool false] 69) = WB at *
  clear hR hBW
  refine (K1.out _ hS).mono ?_
  rintro e w1 ⟨rfl, t1', b1⟩
  have z1 := b1.size
  go_wp2_with fail
  have hH := H4r.new w1 33 (.int .i64 (n1 : Int)) (.int .i64 0) (.string ⟨#[]⟩) (.slice none 0 0)
  have hbt := But.alloc b1 (.cells #[.int .i64 (n1 : Int), .int .i64 0, .string ⟨#[]⟩, .slice none 0 0] 33)
  have hsc := t1'.alloc (.cells #[.int .i64 (n1 : Int), .int .i64 0, .string ⟨#[]⟩, .slice none 0 0] 33)
  have hHB : w.heap.size + 1 + 1 ≤ w1.heap.size := by omega
  generalize w1.alloc (.cells #[.int .i64 (n1 : Int), .int .i64 0, .string ⟨#[]⟩, .slice none 0 0] 33) = W2 at *
  generalize w1.heap.size = H at *
  clear b1 t1' z1 hS
  refine (K2.out _ hsc).mono ?_
  rintro e w2 ⟨rfl, hsc', b2⟩
  have hH' := hH.but b2 (by omega)
  have hbt' := hbt.trans b2
  obtain ⟨hl2, c0, c1, c2, c3, hf⟩ := id hH'
  go_wp2_with fail
  have hH2 := (hH'.set (.int .i64 (n2 : Int))).1
  have hbt2 := hbt'.setFar (g := H) (by omega) 1 (.int .i64 (n2 : Int))
  have hsc2 := hsc'.far (g := H) (by omega) 1 (.int .i64 (n2 : Int))
  clear hH hbt hsc hH' hbt' hsc' b2 c0 c1 c2 c3 hf hl2
  have hH := hH2
  have hbt := hbt2
  have hsc := hsc2
  clear hH2 hbt2 hsc2
  generalize w2.setCell ⟨H, 1, none⟩ (.int .i64 (n2 : Int)) = W3 at *
  refine (K3.out _ hsc).mono ?_
  rintro e w3 ⟨rfl, hsc', b3⟩
  have hH' := hH.but b3 (by omega)
  have hbt' := hbt.trans b3
  obtain ⟨hl3, c0, c1, c2, c3, hf⟩ := id hH'
  go_wp2_with fail
  have hH3 := (hH'.set (.string (S t1))).2.1
  have hbt3 := hbt'.setFar (g := H) (by omega) 2 (.string (S t1))
  have hsc3 := hsc'.far (g := H) (by omega) 2 (.string (S t1))
  clear hH hbt hsc hH' hbt' hsc' b3 c0 c1 c2 c3 hf hl3
  have hH := hH3
  have hbt := hbt3
  have hsc := hsc3
  clear hH3 hbt3 hsc3
  generalize w3.setCell ⟨H, 2, none⟩ (.string (S t1)) = W4 at *
  refine (K4.out _ hsc).mono ?_
  rintro e w4 ⟨rfl, hsc', b4⟩
  have hH4 := Lib.hid (hH.but b4 (by omega))
  have hbt4 := Lib.hid (hbt.trans b4)
  have hsc4 := Lib.hid hsc'
  have hH4s := hH4.out.1
  clear hH hbt hsc hsc' b4 K1 K2 K3 K4
  go_wp2_with fail
  go_loopw [7] (fun i wr => ∃ (k : Nat) (v : Value), k ≤ n ∧ (k = 0 ∨ n ≤ 12) ∧ i = .int .i64 (k : Int) ∧ wr.ownsRow (H + 1) 85 2 v k (scells (VA k).1) ∧ H4r wr H (.int .i64 (n1 : Int)) (.int .i64 (n2 : Int)) (.string (S t1)) v ∧ ScanAt wr (w.heap.size + 1) (VA k).2 ∧ But (w.heap.size + 1) WB wr) (fun i _ => n - (intOf i).toNat)
  case atStart => exact ⟨0, _, by omega, .inl rfl, rfl, by rw [HZ.out]; exact own_nil _ _ _ _, hH4.out, by rw [HZ.out]; exact hsc4.out, hbt4.out⟩
  case round =>
    obtain ⟨k, v, hk, hk07, rfl, hown, hH, hsc, hbt⟩ := hrel
    have hki : 0 ≤ (k : Int) ∧ (k : Int) ≤ n := by omega
    have hw0 := hbt.size
    have hHl := hH.1
    obtain ⟨A, c, rfl⟩ := own_slice hown
    by_cases hlt : k < n ∧ n ≤ 12
    · obtain ⟨hkn, hn7⟩ := hlt
      have hki2 : (k : Int) < n ∧ (n : Int) ≤ 12 := by omega
      have hlk := HLEN.out k
      have hst := HSTEP.out k
      obtain ⟨x, p2, e1⟩ : ∃ n s, numP (VA k).2 = (n, s) := ⟨_, _, rfl⟩
      obtain ⟨y, p3, e2⟩ : ∃ n s, textP p2 = (n, s) := ⟨_, _, rfl⟩
      have hp2 : p2.1.length ≤ 1048576 := by have := numP_len (VA k).2; rw [e1] at this; simp only at this; omega
      rw [e1] at hst
      simp only [e2] at hst
      have HST := Lib.hid hst
      have HVC : Hid (scells (VA (k + 1)).1 = scells (VA k).1 ++ (#[Value.int .i64 (x : Int), Value.string (S y)] : Array Value).toList) := by unfold Hid; rw [hst]; exact scells_append _ _
      have N1 := Lib.hid (num_eq e1 hlk.2.1 hsc)
      have N2 := Lib.hid fun (W : World) (h : ScanAt W (w.heap.size + 1) p2) => text_eq e2 hp2 h
      have HH := Lib.hid hH
      clear hst e1 e2 hlk hsc hH
      go_wp2_with fail
      refine N1.out.mono ?_
      rintro e w2 ⟨rfl, t2, b2⟩
      have z2 := b2.size
      have o2 := own_but hown b2 (by omega)
      have hbt2 := hbt.trans b2
      have HO2 := Lib.hid (o2.alloc (.cells #[.int .i64 (x : Int), .string ⟨#[]⟩] 85))
      have HLT2 := Lib.hid o2.lt
      have HB2 := Lib.hid (hbt2.alloc (.cells #[.int .i64 (x : Int), .string ⟨#[]⟩] 85))
      have hS2 := t2.alloc (.cells #[.int .i64 (x : Int), .string ⟨#[]⟩] 85)
      have HH2 := Lib.hid ((HH.out.but b2 (by omega)).alloc (.cells #[.int .i64 (x : Int), .string ⟨#[]⟩] 85))
      clear t2 b2 hown hbt o2 hbt2 HH
      go_wp2_with fail
      refine (N2.out _ hS2).mono ?_
      rintro e w3 ⟨rfl, t3, b3⟩
      have z3 := b3.size
      simp at z3
      have c0 : w3.cell? ⟨w2.heap.size, 0, none⟩ = some (.int .i64 (x : Int)) := (b3.cell (by simp) (by omega)).trans (by go_simp)
      have c1 : w3.cell? ⟨w2.heap.size, 1, none⟩ = some (.string ⟨#[]⟩) := (b3.cell (by simp) (by omega)).trans (by go_simp)
      have f1 : w3.frozen? ⟨w2.heap.size, 1, none⟩ = false := (b3.frozen (by simp) (by omega)).trans (by go_simp)
      have o3 := own_set (own_but HO2.out b3 (by omega)) (g := w2.heap.size) (fun q hq => by have := (HLT2.out q hq).2; omega) 1 (.string (S y))
      have HB3 := Lib.hid ((HB2.out.trans b3).setFar (g := w2.heap.size) (by omega) 1 (.string (S y)))
      have HS3 := Lib.hid (t3.far (g := w2.heap.size) (by omega) 1 (.string (S y)))
      have HH3 := HH2.out.but b3 (by omega)
      have HH3' := Lib.hid (HH3.far (g := w2.heap.size) (by omega) 1 (.string (S y)))
      obtain ⟨_, _, _, _, hc3, _⟩ := HH3
      have z4 : H + 1 ≤ (w3.setCell ⟨w2.heap.size, 1, none⟩ (.string (S y))).heap.size := by simp [World.setCell]; omega
      have e5 : ¬ w2.heap.size = H := by omega
      have e6 : ¬ H = w2.heap.size := by omega
      clear t3 b3 hS2
      go_wp2_with (at_builtin; refine app_low rfl _ _ 31 rfl Tryd.underlying31 hi hz0 hz1 hz2 rfl (by decide) rfl o3 z4 (by simp [World.setCell]) rfl rfl (one_cell_is _ _) (by unfold maxLen; omega) (by omega) ?_; intro v1 w4 hown1 hlow; obtain ⟨A1, cc1, rfl⟩ := own_slice hown1; have hH4 := HH3'.out.low hlow (by omega); have HH4 := Lib.hid hH4; obtain ⟨hHl4, _, _, _, g3, hf4⟩ := hH4; have gf3 := hf4 3; have HLT4 := Lib.hid hown1.lt)
      go_roundw
      case rel => exact ⟨k + 1, .slice A1 (k + 1) cc1, by omega, .inr hn7, by go_num, by rw [HVC.out]; exact own_set hown1 (fun q hq => by have := (HLT4.out q hq).1; omega) _ _, (HH4.out.set (.slice A1 (k + 1) cc1)).2.2, by rw [HST.out]; exact (HS3.out.low hlow (by omega)).far (by omega) _ _, (HB3.out.low (hlow.mono (by omega))).setFar (by omega) _ _⟩
      case measure => simp [intOf]; omega
    · have hbf : Below w.heap.size w wr := hBB.trans (hbt.below (by omega) (by omega))
      obtain ⟨hB', d0, d1, g0, g1⟩ := id hsc
      obtain ⟨_, c0, c1, c2, c3, hf⟩ := id hH
      obtain ⟨hRl, r0, r1, r2, r3, rf⟩ := hRB.out.but hbt (by omega)
      have hnot : ¬ (k < n ∧ n ≤ 12) := hlt
      have HFIN : Hid ((k = n ∧ n ≤ 12) ∨ (k = 0 ∧ 12 < n)) := by unfold Hid; omega
      have hgd : ((k : Int) < n ∧ ¬ (n : Int) ≤ 12) ∨ ¬ (k : Int) < n := by omega
      have HLK := Lib.hid (HLEN.out k)
      have HIN := Lib.hid (HG.out k)
      have HVB : Hid ((VA k).2.2 = true → V = (zeroCom, false)) := fun h => by
        rw [HV.out]
        rcases HFIN.out with ⟨rfl, _⟩ | ⟨_, h7⟩
        · rw [if_neg (fun q => by rw [h] at q; cases q.2.1)]
        · rw [if_neg (fun q => by omega)]
      have HVN : Hid (showCommitS ⟨n1, n2, t1, (VA k).1⟩ ≠ l → V = (zeroCom, false)) := fun h => by
        rw [HV.out]
        rcases HFIN.out with ⟨rfl, _⟩ | ⟨_, h7⟩
        · rw [if_neg (fun q => h q.2.2)]
        · rw [if_neg (fun q => by omega)]
      have HVY : Hid ((VA k).2.2 = false → showCommitS ⟨n1, n2, t1, (VA k).1⟩ = l → V = (⟨n1, n2, t1, (VA k).1⟩, true)) := fun hg h => by
        rw [HV.out]
        rcases HFIN.out with ⟨rfl, h7⟩ | ⟨rfl, h7⟩
        · rw [if_pos ⟨h7, hg, h⟩]
        · have q := HIN.out hg
          exact absurd h (HMANY.out h7 _ (fun e => by rw [e] at q; cases q))
      have HR := Lib.hid (own_sreads hown HLK.out.1)
      have HOB := Lib.hid (own_base hown (show w.heap.size ≤ H + 1 by omega))
      have HRN : Hid (∀ q, (Value.slice A k c).ownBlock = some q → q ≠ w.heap.size) := fun q hq => by have := (hown.lt q hq).1; omega
      have e1 : ¬ H = w.heap.size := by omega
      have e2 : ¬ w.heap.size = H := by omega
      clear hnot hlt hown hsc hH HV HSTEP HZ HG HFIN HLEN HMANY
      generalize (VA k).2.1 = r at *
      generalize (VA k).2.2 = bad at *
      generalize (VA k).1 = T at *
      have hb := hbf
      have hTl := HLK.out.1
      have hbs := hbf.size
      subst hTl
      cases bad
      · have hem := HIN.out rfl
        have HSH := Lib.hid fun (W : World) (h : Below wr.heap.size wr W) => iShowCommit_any ⟨n1, n2, t1, T⟩ A c W (by simp only; omega) (by simp only; omega) (HR.out.to h) HLK.out.2.2
        have hr0 := Below.refl wr.heap.size wr
        by_cases hs : showCommitS ⟨n1, n2, t1, T⟩ = l
        · have HV2 := Lib.hid (HVY.out rfl hs)
          rw [hs] at HSH
          rcases hgd with ⟨g1', g2'⟩ | g1'
          all_goals
            go_wp2_with (go_at_call 14; refine (HSH.out _ hr0).mono ?_; rintro e wn ⟨rfl, hbn⟩; have hb := Below.next (w := w) hb hbn; obtain ⟨hcc, hff⟩ := bcell hbn; have hzz := hbn.size)
            have HOW := Lib.hid (own_below HOB.out hbn)
            refine bodyPost_ret (v := .tuple #[.agg #[.int .i64 (n1 : Int), .int .i64 (n2 : Int), .string (S t1), .slice A T.length c], .bool true]) (by simp [results, Tryd.results15, go_sem, *]) rfl ?_
            rw [HV2.out]
            refine ⟨A, c, rfl, ?_, ?_⟩
            · exact own_set (own_set (own_set (own_set HOW.out HRN.out _ _) HRN.out _ _) HRN.out _ _) HRN.out _ _
            · repeat (first | with_reducible exact hb | with_reducible refine Below.drew ?_ | with_reducible refine Below.setCell ?_ (by first | omega | (simp <;> omega)) _ | with_reducible refine Below.alloc ?_ (by first | omega | (simp <;> omega)) _)
        · have HV2 := Lib.hid (HVN.out hs)
          have hs' : (showCommitS ⟨n1, n2, t1, T⟩ == l) = false := by simpa using hs
          generalize showCommitS ⟨n1, n2, t1, T⟩ = Z at *
          rcases hgd with ⟨g1', g2'⟩ | g1'
          all_goals
            go_wp2_with (go_at_call 14; refine (HSH.out _ hr0).mono ?_; rintro e wn ⟨rfl, hbn⟩; have hb := Below.next (w := w) hb hbn; obtain ⟨hcc, hff⟩ := bcell hbn; have hzz := hbn.size)
            refine bodyPost_ret (v := .tuple #[.agg #[.int .i64 0, .int .i64 0, .string ⟨#[]⟩, .slice none 0 0], .bool false]) (by simp [results, Tryd.results15, go_sem, *]) rfl ?_
            rw [HV2.out]
            refine ⟨none, 0, rfl, ?_, ?_⟩
            · exact own_nil _ _ _ _
            · repeat (first | with_reducible exact hb | with_reducible refine Below.drew ?_ | with_reducible refine Below.setCell ?_ (by first | omega | (simp <;> omega)) _ | with_reducible refine Below.alloc ?_ (by first | omega | (simp <;> omega)) _)
      · have HV2 := Lib.hid (HVB.out rfl)
        rcases hgd with ⟨g1', g2'⟩ | g1'
        all_goals
          go_wp2
          refine bodyPost_ret (v := .tuple #[.agg #[.int .i64 0, .int .i64 0, .string ⟨#[]⟩, .slice none 0 0], .bool false]) (by simp [results, Tryd.results15, go_sem, *]) rfl ?_
          rw [HV2.out]
          refine ⟨none, 0, rfl, ?_, ?_⟩
          · exact own_nil _ _ _ _
          · repeat (first | with_reducible exact hb | with_reducible refine Below.drew ?_ | with_reducible refine Below.setCell ?_ (by first | omega | (simp <;> omega)) _ | with_reducible refine Below.alloc ?_ (by first | omega | (simp <;> omega)) _)
end Go.Proofs.YtecimgkgdpnaeaaDoor
