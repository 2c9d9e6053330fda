/-
  Texts of this proof, laid into one: ShowV, Com1.
-/
import Derived.Deep.RegionHeld3
import Derived.Test.YtecimgkgdpnaeaaDoorGFnExactCommitOk5
import Derived.Test.YtecimgkgdpnaeaaDoorGFnExactCommitOk9
import Derived.Test.YtecimgkgdpnaeaaDoorGFnExactCommitOk10
import Derived.Test.YtecimgkgdpnaeaaDoorGFnExactCommitOk11
/-
  ShowVals, both.
-/
namespace Go.Proofs.YtecimgkgdpnaeaaDoor
open Go.ChangeShapes Go.WideShapes Go.ChangeAt Go.RowKit
set_option linter.unusedVariables false
set_option linter.unusedSimpArgs false
set_option maxRecDepth 100000

/-- Two cells are held over a call that makes memory. -/
theorem held2 {w cur wm : World} {B o p : Nat} {u0 u1 : Value}
    (H : Below w.heap.size w cur ∧ B < cur.heap.size ∧ cur.cell? ⟨B, o, none⟩ = some u0 ∧ cur.cell? ⟨B, p, none⟩ = some u1) (hb : Below cur.heap.size cur wm) :
    Below w.heap.size w wm ∧ B < wm.heap.size ∧ wm.cell? ⟨B, o, none⟩ = some u0 ∧ wm.cell? ⟨B, p, none⟩ = some u1 := by
  obtain ⟨h1, h2, c0, c1⟩ := H
  have k : ∀ i, wm.cell? ⟨B, i, none⟩ = cur.cell? ⟨B, i, none⟩ := fun i => hb.cell (p := ⟨B, i, none⟩) h2
  exact ⟨Below.next h1 hb, Nat.lt_of_lt_of_le h2 hb.size, (k o).trans c0, (k p).trans c1⟩

theorem iShowVals_yes (A : Option Addr) (c : Nat) (l : List ValT) (w : World) (hl : l.length ≤ 4194304) (hR : VReads w w.heap.size A l) (hok : valsOkB l = true) :
    Calls Tryd.prog 105 #[.slice A l.length c] w fun e w' => e = .returned (.string (S (showValsS l))) ∧ Below w.heap.size w w' := by
  have HV : Hid (showValsS l = varS (l.length : Int) ++ l.flatMap showVal) := by unfold Hid showValsS; rw [if_pos hok]
  have HR := Lib.hid hR
  clear hR
  have hb := Below.refl w.heap.size w
  have q0 := varS_len (l.length : Int)
  obtain ⟨N, hN⟩ : ∃ N, N = varS (l.length : Int) := ⟨_, rfl⟩
  go_enter Tryd.func105, Tryd.ntmps105
  go_wp2_with (first | (go_at_call 73; refine (iValsOk_any _ _ _ _ hl HR.out).mono ?_; rintro e wn ⟨rfl, hbn⟩; have hb := Below.next (w := w) (by repeat (first | with_reducible exact hb | with_reducible exact Below.refl _ _ | refine Below.drew ?_ | refine Below.setCell ?_ (by simp <;> omega) _ | refine Below.alloc ?_ (by simp <;> omega) _)) hbn; clear hbn) | (go_at_call 46; refine (iVar_any _ _).mono ?_; rintro e wn ⟨rfl, hbn⟩; have hb := Below.next (w := w) (by repeat (first | with_reducible exact hb | with_reducible exact Below.refl _ _ | refine Below.drew ?_ | refine Below.setCell ?_ (by simp <;> omega) _ | refine Below.alloc ?_ (by simp <;> omega) _)) hbn; clear hbn))
  rw [← hN] at q0 HV ⊢
  have HN := Lib.hid hN
  clear hN
  have hb0 := Lib.hid hb
  go_loopw [3, 14] (fun s i wr => ∃ k : Nat, k ≤ l.length ∧ i = .int .i64 k ∧ s = .string (S (N ++ (l.take k).flatMap showVal)) ∧ Below w.heap.size w wr) (fun _ i _ => l.length - (intOf i).toNat)
  case atStart => exact ⟨0, by omega, rfl, by simp, hb0.out⟩
  case round =>
    obtain ⟨k, hk, rfl, rfl, hb⟩ := hrel
    by_cases hlt : k < l.length
    · obtain ⟨b, off, rfl, hbB, hc⟩ := ((HR.out.below hb (Nat.le_refl _)).more hb.size) (by omega)
      obtain ⟨c0, c1⟩ := hc k hlt
      have hki : 0 ≤ (k : Int) ∧ (k : Int) < l.length := by omega
      have hs := Lib.hid (showVal_take l k hlt)
      have hlen : ((l.take k).flatMap showVal).length ≤ 16 * l.length := Nat.le_trans (showVal_len _) (by simp; omega)
      have q1 := varS_len l[k].id
      have q2 := varS_len l[k].power
      generalize (l.take k).flatMap showVal = T at *
      have m1 := fun W : World => run_string_add_sum (P := Tryd.prog) W (S (N ++ T)) (S (varS l[k].id)) (by simp; omega)
      have m2 := fun W : World => run_string_add_sum (P := Tryd.prog) W (S (N ++ (T ++ varS l[k].id))) (S (varS l[k].power)) (by simp; omega)
      have hb1 := Lib.hid (hb.alloc hb.size (.cells #[.int .i64 l[k].id, .int .i64 l[k].power] 101))
      clear hc
      go_wp2_with fail
      go_region_held3 (fun w' => Below w.heap.size w w' ∧ wr.heap.size < w'.heap.size ∧ w'.cell? ⟨wr.heap.size, 0, none⟩ = some (.int .i64 l[k].id) ∧ w'.cell? ⟨wr.heap.size, 1, none⟩ = some (.int .i64 l[k].power)) (first | exact ⟨hb1.out.drew, by simp, by go_simp, by go_simp⟩ | exact held2 (by assumption) hbm | go_keep) (first | (go_at_call 46; refine (iVar_any _ _).mono ?_; rintro e wm ⟨rfl, hbm⟩))
      all_goals
        have hbx : Below w.heap.size w wm := by
          apply And.left
          assumption
        go_wp2
        go_roundw
        case rel => exact ⟨k + 1, by omega, by go_num, by rw [hs.out], hbx⟩
        case measure => simp [intOf]; omega
    · have hkl : Hid ((l.take k).flatMap showVal = l.flatMap showVal) := by unfold Hid; rw [List.take_of_length_le (by omega)]
      go_wp2
      go_ret
      exact ⟨ret_string (by rw [HV.out, hkl.out]), hb⟩

theorem iShowVals_no (A : Option Addr) (c : Nat) (l : List ValT) (w : World) (hl : l.length ≤ 4194304) (hR : VReads w w.heap.size A l) (hok : valsOkB l = false) :
    Calls Tryd.prog 105 #[.slice A l.length c] w fun e w' => e = .returned (.string (S (showValsS l))) ∧ Below w.heap.size w w' := by
  have HV : Hid (showValsS l = []) := by unfold Hid showValsS; rw [hok]; rfl
  have HR := Lib.hid hR
  clear hR
  have hb := Below.refl w.heap.size w
  go_enter Tryd.func105, Tryd.ntmps105
  go_wp2_with (go_at_call 73; refine (iValsOk_any _ _ _ _ hl HR.out).mono ?_; rintro e wn ⟨rfl, hbn⟩; have hb := Below.next (w := w) (by repeat (first | with_reducible exact hb | with_reducible exact Below.refl _ _ | refine Below.drew ?_ | refine Below.setCell ?_ (by simp <;> omega) _ | refine Below.alloc ?_ (by simp <;> omega) _)) hbn; clear hbn)
  go_ret
  exact ⟨ret_string (by rw [HV.out]; rfl), hb⟩
theorem iShowVals_any (A : Option Addr) (c : Nat) (l : List ValT) (w : World) (hl : l.length ≤ 4194304) (hR : VReads w w.heap.size A l) :
    Calls Tryd.prog 105 #[.slice A l.length c] w fun e w' => e = .returned (.string (S (showValsS l))) ∧ Below w.heap.size w w' := by
  cases hok : valsOkB l
  · exact iShowVals_no A c l w hl hR hok
  · exact iShowVals_yes A c l w hl hR hok
theorem sShowVals_yes (A : Option Addr) (c : Nat) (l : List ValT) (w : World) (hl : l.length ≤ 4194304) (hR : VReads w w.heap.size A l) (hok : valsOkB l = true) :
    Calls Tryd.prog 110 #[.slice A l.length c] w fun e w' => e = .returned (.string (S (showValsS l))) ∧ Below w.heap.size w w' := by
  have HV : Hid (showValsS l = varS (l.length : Int) ++ l.flatMap showVal) := by unfold Hid showValsS; rw [if_pos hok]
  have HR := Lib.hid hR
  clear hR
  have hb := Below.refl w.heap.size w
  have q0 := varS_len (l.length : Int)
  obtain ⟨N, hN⟩ : ∃ N, N = varS (l.length : Int) := ⟨_, rfl⟩
  go_enter Tryd.func110, Tryd.ntmps110
  go_wp2_with (first | (go_at_call 76; refine (sValsOk_any _ _ _ _ hl HR.out).mono ?_; rintro e wn ⟨rfl, hbn⟩; have hb := Below.next (w := w) (by repeat (first | with_reducible exact hb | with_reducible exact Below.refl _ _ | refine Below.drew ?_ | refine Below.setCell ?_ (by simp <;> omega) _ | refine Below.alloc ?_ (by simp <;> omega) _)) hbn; clear hbn) | (go_at_call 61; refine (sVar_any _ _).mono ?_; rintro e wn ⟨rfl, hbn⟩; have hb := Below.next (w := w) (by repeat (first | with_reducible exact hb | with_reducible exact Below.refl _ _ | refine Below.drew ?_ | refine Below.setCell ?_ (by simp <;> omega) _ | refine Below.alloc ?_ (by simp <;> omega) _)) hbn; clear hbn))
  rw [← hN] at q0 HV ⊢
  have HN := Lib.hid hN
  clear hN
  have hb0 := Lib.hid hb
  go_loopw [3, 4] (fun s i wr => ∃ k : Nat, k ≤ l.length ∧ i = .int .i64 k ∧ s = .string (S (N ++ (l.take k).flatMap showVal)) ∧ Below w.heap.size w wr) (fun _ i _ => l.length - (intOf i).toNat)
  case atStart => exact ⟨0, by omega, rfl, by simp, hb0.out⟩
  case round =>
    obtain ⟨k, hk, rfl, rfl, hb⟩ := hrel
    by_cases hlt : k < l.length
    · obtain ⟨b, off, rfl, hbB, hc⟩ := ((HR.out.below hb (Nat.le_refl _)).more hb.size) (by omega)
      obtain ⟨c0, c1⟩ := hc k hlt
      have hki : 0 ≤ (k : Int) ∧ (k : Int) < l.length := by omega
      have hs := Lib.hid (showVal_take l k hlt)
      have hlen : ((l.take k).flatMap showVal).length ≤ 16 * l.length := Nat.le_trans (showVal_len _) (by simp; omega)
      have q1 := varS_len l[k].id
      have q2 := varS_len l[k].power
      generalize (l.take k).flatMap showVal = T at *
      have m1 := fun W : World => run_string_add_sum (P := Tryd.prog) W (S (N ++ T)) (S (varS l[k].id)) (by simp; omega)
      have m2 := fun W : World => run_string_add_sum (P := Tryd.prog) W (S (N ++ (T ++ varS l[k].id))) (S (varS l[k].power)) (by simp; omega)
      clear hc
      go_wp2_with fail
      go_region_held3 (fun w' => Below w.heap.size w w' ∧ b < w'.heap.size ∧ w'.cell? ⟨b, off + k * 2, none⟩ = some (.int .i64 l[k].id) ∧ w'.cell? ⟨b, off + k * 2 + 1, none⟩ = some (.int .i64 l[k].power)) (first | exact ⟨hb.drew, hbB, c0, c1⟩ | exact held2 (by assumption) hbm | go_keep) (first | (go_at_call 61; refine (sVar_any _ _).mono ?_; rintro e wm ⟨rfl, hbm⟩))
      all_goals
        have hbx : Below w.heap.size w wm := by
          apply And.left
          assumption
        go_wp2
        go_roundw
        case rel => exact ⟨k + 1, by omega, by go_num, by rw [hs.out], hbx⟩
        case measure => simp [intOf]; omega
    · have hkl : Hid ((l.take k).flatMap showVal = l.flatMap showVal) := by unfold Hid; rw [List.take_of_length_le (by omega)]
      go_wp2
      go_ret
      exact ⟨ret_string (by rw [HV.out, hkl.out]), hb⟩

theorem sShowVals_no (A : Option Addr) (c : Nat) (l : List ValT) (w : World) (hl : l.length ≤ 4194304) (hR : VReads w w.heap.size A l) (hok : valsOkB l = false) :
    Calls Tryd.prog 110 #[.slice A l.length c] w fun e w' => e = .returned (.string (S (showValsS l))) ∧ Below w.heap.size w w' := by
  have HV : Hid (showValsS l = []) := by unfold Hid showValsS; rw [hok]; rfl
  have HR := Lib.hid hR
  clear hR
  have hb := Below.refl w.heap.size w
  go_enter Tryd.func110, Tryd.ntmps110
  go_wp2_with (go_at_call 76; refine (sValsOk_any _ _ _ _ hl HR.out).mono ?_; rintro e wn ⟨rfl, hbn⟩; have hb := Below.next (w := w) (by repeat (first | with_reducible exact hb | with_reducible exact Below.refl _ _ | refine Below.drew ?_ | refine Below.setCell ?_ (by simp <;> omega) _ | refine Below.alloc ?_ (by simp <;> omega) _)) hbn; clear hbn)
  go_ret
  exact ⟨ret_string (by rw [HV.out]; rfl), hb⟩
theorem sShowVals_any (A : Option Addr) (c : Nat) (l : List ValT) (w : World) (hl : l.length ≤ 4194304) (hR : VReads w w.heap.size A l) :
    Calls Tryd.prog 110 #[.slice A l.length c] w fun e w' => e = .returned (.string (S (showValsS l))) ∧ Below w.heap.size w w' := by
  cases hok : valsOkB l
  · exact sShowVals_no A c l w hl hR hok
  · exact sShowVals_yes A c l w hl hR hok
end Go.Proofs.YtecimgkgdpnaeaaDoor

/-
  ShowCommit: both sides.
-/
namespace Go.Proofs.YtecimgkgdpnaeaaDoor
open Go.ChangeShapes Go.WideShapes Go.ChangeAt Go.RowKit
set_option linter.unusedVariables false
set_option linter.unusedSimpArgs false
set_option maxRecDepth 100000

theorem l9Vote_any (h r v : Int) (id : List UInt8) (A : Option Addr) (n c : Nat) (w : World) :
    Calls Tryd.prog 60 #[.agg #[.int .i64 h, .int .i64 r, .string (S id), .slice A n c], .int .i64 v] w fun e w' => e = .returned (VoteT.val ⟨h, r, 2, id, v⟩) ∧ Below w.heap.size w w' := by
  have hb := Below.refl w.heap.size w
  have hv : VoteT.val ⟨h, r, 2, id, v⟩ = .agg #[.int .i64 h, .int .i64 r, .int .i64 2, .string (S id), .int .i64 v] := rfl
  rw [hv]
  go_enter Tryd.func60, Tryd.ntmps60
  go_wp2
  refine bodyPost_ret (v := .agg #[.int .i64 h, .int .i64 r, .int .i64 2, .string (S id), .int .i64 v]) (by simp [results, Tryd.results60, go_sem]) rfl ⟨rfl, ?_⟩
  exact (by repeat (first | with_reducible exact hb | with_reducible exact Below.refl _ _ | refine Below.drew ?_ | refine Below.setCell ?_ (by simp <;> omega) _ | refine Below.alloc ?_ (by simp <;> omega) _))
theorem heldC4 {w cur wm : World} {B : Nat} {u0 u1 u2 u3 : Value}
    (H : Below w.heap.size w cur ∧ B < cur.heap.size ∧ cur.cell? ⟨B, 0, none⟩ = some u0 ∧ cur.cell? ⟨B, 1, none⟩ = some u1 ∧ cur.cell? ⟨B, 2, none⟩ = some u2 ∧ cur.cell? ⟨B, 3, none⟩ = some u3) (hb : Below cur.heap.size cur wm) :
    Below w.heap.size w wm ∧ B < wm.heap.size ∧ wm.cell? ⟨B, 0, none⟩ = some u0 ∧ wm.cell? ⟨B, 1, none⟩ = some u1 ∧ wm.cell? ⟨B, 2, none⟩ = some u2 ∧ wm.cell? ⟨B, 3, none⟩ = some u3 := by
  obtain ⟨h1, h2, c0, c1, c2, c3⟩ := H
  have k : ∀ i, wm.cell? ⟨B, i, none⟩ = cur.cell? ⟨B, i, none⟩ := fun i => hb.cell (p := ⟨B, i, none⟩) h2
  exact ⟨Below.next h1 hb, Nat.lt_of_lt_of_le h2 hb.size, (k 0).trans c0, (k 1).trans c1, (k 2).trans c2, (k 3).trans c3⟩
theorem sigs_bad {l : List SigT} {k : Nat} (hk : k < l.length) (h : sigOk l[k] = false) : l.all sigOk = false := by
  cases ha : l.all sigOk
  · rfl
  · have := List.all_eq_true.1 ha l[k] (List.getElem_mem hk)
    rw [h] at this; cases this
theorem sigs_next {l : List SigT} {k : Nat} (hk : k < l.length) (h : sigOk l[k] = true) (ha : ∀ s ∈ l.take k, sigOk s = true) : ∀ s ∈ l.take (k + 1), sigOk s = true := by
  intro s hs
  rw [List.take_succ_eq_append_getElem hk] at hs
  rcases List.mem_append.1 hs with hs | hs
  · exact ha s hs
  · rw [List.mem_singleton.1 hs]; exact h
theorem showCom_no {x : CommitT} (h : headC x = false) : showCommitS x = [] := by unfold showCommitS; rw [if_neg (by rw [h]; simp)]
theorem showCom_bad {x : CommitT} (h : x.sigs.all sigOk = false) : showCommitS x = [] := by unfold showCommitS; rw [if_neg (by rw [h]; simp)]


theorem iShowCommit_no (h r : Int) (id : List UInt8) (l : List SigT) (A : Option Addr) (c : Nat) (w : World) (hid : id.length ≤ 9223372036854775807) (hn : l.length ≤ 9223372036854775807) (hR : SReads w w.heap.size A l) (hh : headC ⟨h, r, id, l⟩ = false) :
    Calls Tryd.prog 14 #[.agg #[.int .i64 h, .int .i64 r, .string (S id), .slice A l.length c]] w fun e w' => e = .returned (.string (S (showCommitS ⟨h, r, id, l⟩))) ∧ Below w.heap.size w w' := by
  have HV := Lib.hid (showCom_no hh)
  have hb := Below.refl w.heap.size w
  clear hR
  cases h0 : inB h 1 1000000
  · clear hh
    go_enter Tryd.func14, Tryd.ntmps14
    go_wp2_with (first | (go_at_call 54; refine (isHeight_b _ _).mono ?_; rintro e w' ⟨rfl, rfl⟩) | (go_at_call 55; refine (within_b _ _ _ _).mono ?_; rintro e w' ⟨rfl, rfl⟩) | (go_at_call 56; refine (isId_b _ _ hid).mono ?_; rintro e w' ⟨rfl, rfl⟩))
    go_ret
    exact ⟨ret_string (by rw [HV.out]; rfl), (by repeat (first | with_reducible exact hb | with_reducible exact Below.refl _ _ | refine Below.drew ?_ | refine Below.setCell ?_ (by simp <;> omega) _ | refine Below.alloc ?_ (by simp <;> omega) _))⟩
  · skip
    cases h1 : inB r 0 1000
    · clear hh
      go_enter Tryd.func14, Tryd.ntmps14
      go_wp2_with (first | (go_at_call 54; refine (isHeight_b _ _).mono ?_; rintro e w' ⟨rfl, rfl⟩) | (go_at_call 55; refine (within_b _ _ _ _).mono ?_; rintro e w' ⟨rfl, rfl⟩) | (go_at_call 56; refine (isId_b _ _ hid).mono ?_; rintro e w' ⟨rfl, rfl⟩))
      go_ret
      exact ⟨ret_string (by rw [HV.out]; rfl), (by repeat (first | with_reducible exact hb | with_reducible exact Below.refl _ _ | refine Below.drew ?_ | refine Below.setCell ?_ (by simp <;> omega) _ | refine Below.alloc ?_ (by simp <;> omega) _))⟩
    · skip
      cases h2 : isIdB id
      · clear hh
        go_enter Tryd.func14, Tryd.ntmps14
        go_wp2_with (first | (go_at_call 54; refine (isHeight_b _ _).mono ?_; rintro e w' ⟨rfl, rfl⟩) | (go_at_call 55; refine (within_b _ _ _ _).mono ?_; rintro e w' ⟨rfl, rfl⟩) | (go_at_call 56; refine (isId_b _ _ hid).mono ?_; rintro e w' ⟨rfl, rfl⟩))
        go_ret
        exact ⟨ret_string (by rw [HV.out]; rfl), (by repeat (first | with_reducible exact hb | with_reducible exact Below.refl _ _ | refine Below.drew ?_ | refine Below.setCell ?_ (by simp <;> omega) _ | refine Below.alloc ?_ (by simp <;> omega) _))⟩
      · skip
        have h12 : 12 < (l.length : Int) := by
          unfold headC at hh
          simp only [h0, h1, h2, Bool.true_and, decide_eq_false_iff_not] at hh
          omega
        clear hh
        go_enter Tryd.func14, Tryd.ntmps14
        go_wp2_with (first | (go_at_call 54; refine (isHeight_b _ _).mono ?_; rintro e w' ⟨rfl, rfl⟩) | (go_at_call 55; refine (within_b _ _ _ _).mono ?_; rintro e w' ⟨rfl, rfl⟩) | (go_at_call 56; refine (isId_b _ _ hid).mono ?_; rintro e w' ⟨rfl, rfl⟩))
        go_ret
        exact ⟨ret_string (by rw [HV.out]; rfl), (by repeat (first | with_reducible exact hb | with_reducible exact Below.refl _ _ | refine Below.drew ?_ | refine Below.setCell ?_ (by simp <;> omega) _ | refine Below.alloc ?_ (by simp <;> omega) _))⟩

set_option maxHeartbeats 4000000 in
theorem iShowCommit_yes (h r : Int) (id : List UInt8) (l : List SigT) (A : Option Addr) (c : Nat) (w : World) (hid : id.length ≤ 9223372036854775807) (hn : l.length ≤ 9223372036854775807) (hR : SReads w w.heap.size A l) (hsl : ∀ s ∈ l, s.sig.length ≤ 9223372036854775807) (hh : headC ⟨h, r, id, l⟩ = true) :
    Calls Tryd.prog 14 #[.agg #[.int .i64 h, .int .i64 r, .string (S id), .slice A l.length c]] w fun e w' => e = .returned (.string (S (showCommitS ⟨h, r, id, l⟩))) ∧ Below w.heap.size w w' := by
  have HR := Lib.hid hR
  have HSL := Lib.hid hsl
  have HOK : Hid (l.all sigOk = true → showCommitS ⟨h, r, id, l⟩ = varS h ++ varS r ++ sizedS id ++ varS (l.length : Int) ++ l.flatMap showSig) := fun ha => by unfold showCommitS; rw [if_pos ⟨hh, ha⟩]
  have HNO : Hid (l.all sigOk = false → showCommitS ⟨h, r, id, l⟩ = []) := fun ha => showCom_bad ha
  clear hR hsl
  have hb := Below.refl w.heap.size w
  unfold headC at hh
  simp only [Bool.and_eq_true, decide_eq_true_eq] at hh
  obtain ⟨⟨⟨h0, h1⟩, h2⟩, h12⟩ := hh
  have h12' : (l.length : Int) ≤ 12 := by omega
  have hidl : id.length ≤ 8 := by
    have := h2
    unfold isIdB at this
    simp only [Bool.or_eq_true, beq_iff_eq] at this
    omega
  have q0 := varS_len h
  have q1 := varS_len r
  have q2 := sized_len8 id
  have q3 := varS_len (l.length : Int)
  have HZ := Lib.hid fun (W : World) => sized_any id W (by omega)
  have m1 := fun W : World => run_string_add_sum (P := Tryd.prog) W (S (varS h)) (S (varS r)) (by simp; omega)
  have m2 := fun W : World => run_string_add_sum (P := Tryd.prog) W (S (varS h ++ varS r)) (S (sizedS id)) (by simp; omega)
  have m3 := fun W : World => run_string_add_sum (P := Tryd.prog) W (S (varS h ++ (varS r ++ sizedS id))) (S (varS (l.length : Int))) (by simp; omega)
  have hS0 : Below w.heap.size w ((w.alloc (.cells #[.int .i64 h, .int .i64 r, .string (S id), .slice A l.length c] 33)).drew) ∧ w.heap.size < ((w.alloc (.cells #[.int .i64 h, .int .i64 r, .string (S id), .slice A l.length c] 33)).drew).heap.size ∧ ((w.alloc (.cells #[.int .i64 h, .int .i64 r, .string (S id), .slice A l.length c] 33)).drew).cell? ⟨w.heap.size, 0, none⟩ = some (.int .i64 h) ∧ ((w.alloc (.cells #[.int .i64 h, .int .i64 r, .string (S id), .slice A l.length c] 33)).drew).cell? ⟨w.heap.size, 1, none⟩ = some (.int .i64 r) ∧ ((w.alloc (.cells #[.int .i64 h, .int .i64 r, .string (S id), .slice A l.length c] 33)).drew).cell? ⟨w.heap.size, 2, none⟩ = some (.string (S id)) ∧ ((w.alloc (.cells #[.int .i64 h, .int .i64 r, .string (S id), .slice A l.length c] 33)).drew).cell? ⟨w.heap.size, 3, none⟩ = some (.slice A l.length c) :=
    ⟨((Below.refl _ _).alloc (Nat.le_refl _) _).drew, by simp, by go_simp, by go_simp, by go_simp, by go_simp⟩
  have HS0 := Lib.hid hS0
  clear hS0
  go_enter Tryd.func14, Tryd.ntmps14
  go_wp2_with (first | (go_at_call 54; refine (isHeight_b _ _).mono ?_; rintro e w' ⟨rfl, rfl⟩) | (go_at_call 55; refine (within_b _ _ _ _).mono ?_; rintro e w' ⟨rfl, rfl⟩) | (go_at_call 56; refine (isId_b _ _ hid).mono ?_; rintro e w' ⟨rfl, rfl⟩))
  go_region_held3 (fun w' => Below w.heap.size w w' ∧ w.heap.size < w'.heap.size ∧ w'.cell? ⟨w.heap.size, 0, none⟩ = some (.int .i64 h) ∧ w'.cell? ⟨w.heap.size, 1, none⟩ = some (.int .i64 r) ∧ w'.cell? ⟨w.heap.size, 2, none⟩ = some (.string (S id)) ∧ w'.cell? ⟨w.heap.size, 3, none⟩ = some (.slice A l.length c)) (first | exact HS0.out | assumption | exact heldC4 HS0.out hbm | exact heldC4 (by assumption) hbm | go_keep)
    (first | (go_at_call 46; refine (iVar_any _ _).mono ?_; rintro e wm ⟨rfl, hbm⟩) | (go_at_call 47; refine (HZ.out _).mono ?_; rintro e wm ⟨rfl, hbm⟩))
  all_goals
    have hb : Below w.heap.size w wm := by apply And.left; assumption
    have hW : w.heap.size < wm.heap.size ∧ wm.cell? ⟨w.heap.size, 0, none⟩ = some (.int .i64 h) ∧ wm.cell? ⟨w.heap.size, 1, none⟩ = some (.int .i64 r) ∧ wm.cell? ⟨w.heap.size, 2, none⟩ = some (.string (S id)) ∧ wm.cell? ⟨w.heap.size, 3, none⟩ = some (.slice A l.length c) := by apply And.right; assumption
    have HW := Lib.hid hW
    clear HS0
    have hPl : (varS h ++ (varS r ++ (sizedS id ++ varS (l.length : Int)))).length ≤ 64 := by simp; omega
    obtain ⟨P, hPe⟩ : ∃ P, P = varS h ++ (varS r ++ (sizedS id ++ varS (l.length : Int))) := ⟨_, rfl⟩
    go_wp2_with fail
    rw [← hPe] at hPl ⊢
    have HPE := Lib.hid hPe
    clear hPe m1 m2 m3 q0 q1 q2 q3
    go_loopw [3, 47] (fun s i wr => ∃ k : Nat, k ≤ l.length ∧ i = .int .i64 (k : Int) ∧ s = .string (S (P ++ (l.take k).flatMap showSig)) ∧ Hid (∀ s ∈ l.take k, sigOk s = true) ∧ Below w.heap.size w wr) (fun _ i _ => l.length - (intOf i).toNat)
    case atStart => exact ⟨0, by omega, rfl, by simp, by intro s hs; simp at hs, hb⟩
    case round =>
      obtain ⟨k, hk, rfl, rfl, hall, hb⟩ := hrel
      by_cases hlt : k < l.length
      · obtain ⟨b, off, rfl, hbB, hc⟩ := ((HR.out.below hb (Nat.le_refl _)).more hb.size) (by omega)
        obtain ⟨c0, c1⟩ := hc k hlt
        have hki : 0 ≤ (k : Int) ∧ (k : Int) < l.length := by omega
        have hs := Lib.hid (showSig_take l k hlt)
        have hlen : ((l.take k).flatMap showSig).length ≤ 24 * 12 := Nat.le_trans (showSig_len _ hall.out) (by simp; omega)
        have hsl := HSL.out l[k] (List.getElem_mem hlt)
        have q4 := varS_len l[k].val
        have q5 := sized_len8 l[k].sig
        have hbad := Lib.hid fun hok => HNO.out (sigs_bad hlt hok)
        have hnxt := Lib.hid fun hok => sigs_next hlt hok hall.out
        clear hc
        generalize l[k] = g at *
        obtain ⟨gv, gs⟩ := g
        simp only at c0 c1 hsl q4 q5 hs
        have hsok : sigOk ⟨gv, gs⟩ = (inB gv 1 99 && decide (gs.length ≤ 8)) := rfl
        cases hv : inB gv 1 99
        · have HVx := Lib.hid (hbad.out (by rw [hsok, hv]; rfl))
          clear hsok
          go_wp2_with (go_at_call 57; refine (isVal_b _ _).mono ?_; rintro e w' ⟨rfl, rfl⟩)
          go_ret
          exact ⟨ret_string (by rw [HVx.out]; rfl), hb.alloc hb.size _⟩
        · by_cases h8 : gs.length ≤ 8
          · have HNx := Lib.hid (hnxt.out (by rw [hsok, hv, decide_eq_true h8]; rfl))
            have h8' : ¬ 8 < (gs.length : Int) := by omega
            have HZg := Lib.hid fun (W : World) => sized_any gs W (by omega)
            have hb1 := Lib.hid (hb.alloc hb.size (.cells #[.int .i64 gv, .string (S gs)] 85))
            clear hsok
            generalize (l.take k).flatMap showSig = T at *
            have m1 := fun W : World => run_string_add_sum (P := Tryd.prog) W (S (P ++ T)) (S (varS gv)) (by simp; omega)
            have m2 := fun W : World => run_string_add_sum (P := Tryd.prog) W (S (P ++ (T ++ varS gv))) (S (sizedS gs)) (by simp; omega)
            go_wp2_with (go_at_call 57; refine (isVal_b _ _).mono ?_; rintro e w' ⟨rfl, rfl⟩)
            go_region_held3 (fun w' => Below w.heap.size w w' ∧ wr.heap.size < w'.heap.size ∧ w'.cell? ⟨wr.heap.size, 0, none⟩ = some (.int .i64 gv) ∧ w'.cell? ⟨wr.heap.size, 1, none⟩ = some (.string (S gs))) (first | exact ⟨hb1.out.drew, by simp, by go_simp, by go_simp⟩ | exact held2 (by assumption) hbm | go_keep)
              (first | (go_at_call 46; refine (iVar_any _ _).mono ?_; rintro e wm ⟨rfl, hbm⟩) | (go_at_call 47; refine (HZg.out _).mono ?_; rintro e wm ⟨rfl, hbm⟩))
            all_goals
              have hbx : Below w.heap.size w wm := by
                apply And.left
                assumption
              go_wp2
              go_roundw
              case rel => exact ⟨k + 1, by omega, by go_num, by rw [hs.out], HNx.out, hbx⟩
              case measure => simp [intOf]; omega
          · have HVx := Lib.hid (hbad.out (by rw [hsok, hv, decide_eq_false h8]; rfl))
            have h8' : 8 < (gs.length : Int) := by omega
            clear hsok
            go_wp2_with (go_at_call 57; refine (isVal_b _ _).mono ?_; rintro e w' ⟨rfl, rfl⟩)
            go_ret
            exact ⟨ret_string (by rw [HVx.out]; rfl), hb.alloc hb.size _⟩
      · have hkl : l.take k = l := List.take_of_length_le (by omega)
        rw [hkl] at hall
        have HVx := Lib.hid (HOK.out (List.all_eq_true.2 hall.out))
        have hfl : Hid ((l.take k).flatMap showSig = l.flatMap showSig) := by unfold Hid; rw [hkl]
        generalize (l.take k).flatMap showSig = T at *
        go_wp2
        go_ret
        exact ⟨ret_string (by rw [HVx.out, hfl.out, HPE.out]; simp), hb⟩

theorem sShowCommit_no (h r : Int) (id : List UInt8) (l : List SigT) (A : Option Addr) (c : Nat) (w : World) (hid : id.length ≤ 9223372036854775807) (hn : l.length ≤ 9223372036854775807) (hR : SReads w w.heap.size A l) (hh : headC ⟨h, r, id, l⟩ = false) :
    Calls Tryd.prog 19 #[.agg #[.int .i64 h, .int .i64 r, .string (S id), .slice A l.length c]] w fun e w' => e = .returned (.string (S (showCommitS ⟨h, r, id, l⟩))) ∧ Below w.heap.size w w' := by
  have HV := Lib.hid (showCom_no hh)
  have hb := Below.refl w.heap.size w
  clear hR
  have hvo : voteOkB ⟨h, r, 2, id, 1⟩ = (inB h 1 1000000 && inB r 0 1000 && isIdB id) := by
    unfold voteOkB
    rw [show inB 2 1 2 = true from rfl, show inB 1 1 99 = true from rfl, Bool.and_true, Bool.and_true]
  have hv : VoteT.val ⟨h, r, 2, id, 1⟩ = .agg #[.int .i64 h, .int .i64 r, .int .i64 2, .string (S id), .int .i64 1] := rfl
  cases h0 : voteOkB ⟨h, r, 2, id, 1⟩
  · clear hh hvo
    go_enter Tryd.func19, Tryd.ntmps19
    go_wp2_with (first | (go_at_call 60; refine (l9Vote_any _ _ _ _ _ _ _ _).mono ?_; rintro e wn ⟨rfl, hbn⟩; have hb := Below.next (w := w) (by repeat (first | with_reducible exact hb | with_reducible exact Below.refl _ _ | refine Below.drew ?_ | refine Below.setCell ?_ (by simp <;> omega) _ | refine Below.alloc ?_ (by simp <;> omega) _)) hbn; obtain ⟨hc, hf⟩ := bcell hbn; have hz := hbn.size; (try simp at hz); (try have hz1 : w.heap.size < wn.heap.size := (by omega)); (try have hz2 : w.heap.size + 1 < wn.heap.size := (by omega)); (try have hz3 : w.heap.size + 1 + 1 < wn.heap.size := (by omega)); clear hbn) | (go_at_call 59; refine (sVoteOk_any ⟨h, r, 2, id, 1⟩ _ hid).mono ?_; rintro e wn ⟨rfl, hbn⟩; have hb := Below.next (w := w) (by repeat (first | with_reducible exact hb | with_reducible exact Below.refl _ _ | refine Below.drew ?_ | refine Below.setCell ?_ (by simp <;> omega) _ | refine Below.alloc ?_ (by simp <;> omega) _)) hbn; obtain ⟨hc, hf⟩ := bcell hbn; have hz := hbn.size; (try simp at hz); (try have hz1 : w.heap.size < wn.heap.size := (by omega)); (try have hz2 : w.heap.size + 1 < wn.heap.size := (by omega)); (try have hz3 : w.heap.size + 1 + 1 < wn.heap.size := (by omega)); clear hbn))
    go_ret
    exact ⟨ret_string (by rw [HV.out]; rfl), (by repeat (first | with_reducible exact hb | with_reducible exact Below.refl _ _ | refine Below.drew ?_ | refine Below.setCell ?_ (by simp <;> omega) _ | refine Below.alloc ?_ (by simp <;> omega) _))⟩
  · have h12 : 12 < (l.length : Int) := by
      rw [h0] at hvo
      unfold headC at hh
      simp only [← hvo, Bool.true_and, decide_eq_false_iff_not] at hh
      omega
    clear hh hvo
    go_enter Tryd.func19, Tryd.ntmps19
    go_wp2_with (first | (go_at_call 60; refine (l9Vote_any _ _ _ _ _ _ _ _).mono ?_; rintro e wn ⟨rfl, hbn⟩; have hb := Below.next (w := w) (by repeat (first | with_reducible exact hb | with_reducible exact Below.refl _ _ | refine Below.drew ?_ | refine Below.setCell ?_ (by simp <;> omega) _ | refine Below.alloc ?_ (by simp <;> omega) _)) hbn; obtain ⟨hc, hf⟩ := bcell hbn; have hz := hbn.size; (try simp at hz); (try have hz1 : w.heap.size < wn.heap.size := (by omega)); (try have hz2 : w.heap.size + 1 < wn.heap.size := (by omega)); (try have hz3 : w.heap.size + 1 + 1 < wn.heap.size := (by omega)); clear hbn) | (go_at_call 59; refine (sVoteOk_any ⟨h, r, 2, id, 1⟩ _ hid).mono ?_; rintro e wn ⟨rfl, hbn⟩; have hb := Below.next (w := w) (by repeat (first | with_reducible exact hb | with_reducible exact Below.refl _ _ | refine Below.drew ?_ | refine Below.setCell ?_ (by simp <;> omega) _ | refine Below.alloc ?_ (by simp <;> omega) _)) hbn; obtain ⟨hc, hf⟩ := bcell hbn; have hz := hbn.size; (try simp at hz); (try have hz1 : w.heap.size < wn.heap.size := (by omega)); (try have hz2 : w.heap.size + 1 < wn.heap.size := (by omega)); (try have hz3 : w.heap.size + 1 + 1 < wn.heap.size := (by omega)); clear hbn))
    go_ret
    exact ⟨ret_string (by rw [HV.out]; rfl), (by repeat (first | with_reducible exact hb | with_reducible exact Below.refl _ _ | refine Below.drew ?_ | refine Below.setCell ?_ (by simp <;> omega) _ | refine Below.alloc ?_ (by simp <;> omega) _))⟩

set_option maxHeartbeats 4000000 in
theorem sShowCommit_yes (h r : Int) (id : List UInt8) (l : List SigT) (A : Option Addr) (c : Nat) (w : World) (hid : id.length ≤ 9223372036854775807) (hn : l.length ≤ 9223372036854775807) (hR : SReads w w.heap.size A l) (hsl : ∀ s ∈ l, s.sig.length ≤ 9223372036854775807) (hh : headC ⟨h, r, id, l⟩ = true) :
    Calls Tryd.prog 19 #[.agg #[.int .i64 h, .int .i64 r, .string (S id), .slice A l.length c]] w fun e w' => e = .returned (.string (S (showCommitS ⟨h, r, id, l⟩))) ∧ Below w.heap.size w w' := by
  have HR := Lib.hid hR
  have HSL := Lib.hid hsl
  have HOK : Hid (l.all sigOk = true → showCommitS ⟨h, r, id, l⟩ = varS h ++ varS r ++ sizedS id ++ varS (l.length : Int) ++ l.flatMap showSig) := fun ha => by unfold showCommitS; rw [if_pos ⟨hh, ha⟩]
  have HNO : Hid (l.all sigOk = false → showCommitS ⟨h, r, id, l⟩ = []) := fun ha => showCom_bad ha
  clear hR hsl
  have hb := Below.refl w.heap.size w
  unfold headC at hh
  simp only [Bool.and_eq_true, decide_eq_true_eq] at hh
  obtain ⟨⟨⟨h0, h1⟩, h2⟩, h12⟩ := hh
  have h12' : (l.length : Int) ≤ 12 := by omega
  have hidl : id.length ≤ 8 := by
    have := h2
    unfold isIdB at this
    simp only [Bool.or_eq_true, beq_iff_eq] at this
    omega
  have q0 := varS_len h
  have q1 := varS_len r
  have q2 := sized_len8 id
  have q3 := varS_len (l.length : Int)
  have HZ := Lib.hid fun (W : World) => l6Piece_any id W (by omega)
  have m1 := fun W : World => run_string_add_sum (P := Tryd.prog) W (S (varS h)) (S (varS r)) (by simp; omega)
  have m2 := fun W : World => run_string_add_sum (P := Tryd.prog) W (S (varS h ++ varS r)) (S (sizedS id)) (by simp; omega)
  have m3 := fun W : World => run_string_add_sum (P := Tryd.prog) W (S (varS h ++ (varS r ++ sizedS id))) (S (varS (l.length : Int))) (by simp; omega)
  have h00 : voteOkB ⟨h, r, 2, id, 1⟩ = true := by
    unfold voteOkB
    rw [h0, h1, h2]; rfl
  have hv : VoteT.val ⟨h, r, 2, id, 1⟩ = .agg #[.int .i64 h, .int .i64 r, .int .i64 2, .string (S id), .int .i64 1] := rfl
  go_enter Tryd.func19, Tryd.ntmps19
  go_wp2_with (first | (go_at_call 60; refine (l9Vote_any _ _ _ _ _ _ _ _).mono ?_; rintro e wn ⟨rfl, hbn⟩; have hb := Below.next (w := w) (by repeat (first | with_reducible exact hb | with_reducible exact Below.refl _ _ | refine Below.drew ?_ | refine Below.setCell ?_ (by simp <;> omega) _ | refine Below.alloc ?_ (by simp <;> omega) _)) hbn; obtain ⟨hc, hf⟩ := bcell hbn; have hz := hbn.size; (try simp at hz); (try have hz1 : w.heap.size < wn.heap.size := (by omega)); (try have hz2 : w.heap.size + 1 < wn.heap.size := (by omega)); (try have hz3 : w.heap.size + 1 + 1 < wn.heap.size := (by omega)); clear hbn) | (go_at_call 59; refine (sVoteOk_any ⟨h, r, 2, id, 1⟩ _ hid).mono ?_; rintro e wn ⟨rfl, hbn⟩; have hb := Below.next (w := w) (by repeat (first | with_reducible exact hb | with_reducible exact Below.refl _ _ | refine Below.drew ?_ | refine Below.setCell ?_ (by simp <;> omega) _ | refine Below.alloc ?_ (by simp <;> omega) _)) hbn; obtain ⟨hc, hf⟩ := bcell hbn; have hz := hbn.size; (try simp at hz); (try have hz1 : w.heap.size < wn.heap.size := (by omega)); (try have hz2 : w.heap.size + 1 < wn.heap.size := (by omega)); (try have hz3 : w.heap.size + 1 + 1 < wn.heap.size := (by omega)); clear hbn))
  have c0 : wn.cell? ⟨w.heap.size, 0, none⟩ = some (.int .i64 h) := by go_simp
  have c1 : wn.cell? ⟨w.heap.size, 1, none⟩ = some (.int .i64 r) := by go_simp
  have c2 : wn.cell? ⟨w.heap.size, 2, none⟩ = some (.string (S id)) := by go_simp
  have c3 : wn.cell? ⟨w.heap.size, 3, none⟩ = some (.slice A l.length c) := by go_simp
  have hz1 : w.heap.size < wn.heap.size := by omega
  clear hc hf
  go_region_held3 (fun w' => Below w.heap.size w w' ∧ w.heap.size < w'.heap.size ∧ w'.cell? ⟨w.heap.size, 0, none⟩ = some (.int .i64 h) ∧ w'.cell? ⟨w.heap.size, 1, none⟩ = some (.int .i64 r) ∧ w'.cell? ⟨w.heap.size, 2, none⟩ = some (.string (S id)) ∧ w'.cell? ⟨w.heap.size, 3, none⟩ = some (.slice A l.length c)) (first | exact ⟨hb.drew, hz1, c0, c1, c2, c3⟩ | exact heldC4 (by assumption) hbm | go_keep)
    (first | (go_at_call 61; refine (sVar_any _ _).mono ?_; rintro e wm ⟨rfl, hbm⟩) | (go_at_call 62; refine (HZ.out _).mono ?_; rintro e wm ⟨rfl, hbm⟩))
  all_goals
    have hb : Below w.heap.size w wm := by apply And.left; assumption
    have hW : w.heap.size < wm.heap.size ∧ wm.cell? ⟨w.heap.size, 0, none⟩ = some (.int .i64 h) ∧ wm.cell? ⟨w.heap.size, 1, none⟩ = some (.int .i64 r) ∧ wm.cell? ⟨w.heap.size, 2, none⟩ = some (.string (S id)) ∧ wm.cell? ⟨w.heap.size, 3, none⟩ = some (.slice A l.length c) := by apply And.right; assumption
    have HC3 := Lib.hid fun (W : World) (h : Below wm.heap.size wm W) => (h.cell (p := ⟨w.heap.size, 3, none⟩) hW.1).trans hW.2.2.2.2
    have HB0 := Lib.hid hb
    have hPl : (varS h ++ (varS r ++ (sizedS id ++ varS (l.length : Int)))).length ≤ 64 := by simp; omega
    obtain ⟨P, hPe⟩ : ∃ P, P = varS h ++ (varS r ++ (sizedS id ++ varS (l.length : Int))) := ⟨_, rfl⟩
    go_wp2_with fail
    rw [← hPe] at hPl ⊢
    have HPE := Lib.hid hPe
    clear hPe m1 m2 m3 q0 q1 q2 q3 c0 c1 c2 c3 hW
    go_loopw [3, 4] (fun s i wr => ∃ k : Nat, k ≤ l.length ∧ i = .int .i64 (k : Int) ∧ s = .string (S (P ++ (l.take k).flatMap showSig)) ∧ Hid (∀ s ∈ l.take k, sigOk s = true) ∧ Below wm.heap.size wm wr) (fun _ i _ => l.length - (intOf i).toNat)
    case atStart => exact ⟨0, by omega, rfl, by simp, by intro s hs; simp at hs, Below.refl _ _⟩
    case round =>
      obtain ⟨k, hk, rfl, rfl, hall, hbx⟩ := hrel
      have hb := Below.next HB0.out hbx
      have c3 := HC3.out _ hbx
      by_cases hlt : k < l.length
      · have HRr := Lib.hid ((HR.out.below hb (Nat.le_refl _)).more hb.size)
        obtain ⟨b, off, hA, hbB, hc⟩ := HRr.out (by omega)
        have HCC := Lib.hid fun (W : World) (h : Below wr.heap.size wr W) => And.intro ((h.cell (p := ⟨b, _, none⟩) hbB).trans (hc k hlt).1) ((h.cell (p := ⟨b, _, none⟩) hbB).trans (hc k hlt).2)
        have HC3r := Lib.hid fun (W : World) (h : Below wr.heap.size wr W) => HC3.out W (Below.next hbx h)
        rw [hA] at c3 HC3r
        clear hA
        obtain ⟨e0, e1⟩ := hc k hlt
        have hki : 0 ≤ (k : Int) ∧ (k : Int) < l.length := by omega
        have hs := Lib.hid (showSig_take l k hlt)
        have hlen : ((l.take k).flatMap showSig).length ≤ 24 * 12 := Nat.le_trans (showSig_len _ hall.out) (by simp; omega)
        have hsl := HSL.out l[k] (List.getElem_mem hlt)
        have q4 := varS_len l[k].val
        have q5 := sized_len8 l[k].sig
        have hbad := Lib.hid fun hok => HNO.out (sigs_bad hlt hok)
        have hnxt := Lib.hid fun hok => sigs_next hlt hok hall.out
        clear hc
        generalize l[k] = g at *
        obtain ⟨gv, gs⟩ := g
        simp only at e0 e1 hsl q4 q5 hs HCC
        have hsok : sigOk ⟨gv, gs⟩ = (inB gv 1 99 && decide (gs.length ≤ 8)) := rfl
        cases hv : inB gv 1 99
        · have HVx := Lib.hid (hbad.out (by rw [hsok, hv]; rfl))
          clear hsok
          go_wp2_with (go_at_call 58; refine (l1In_b _ _ _ _).mono ?_; rintro e w' ⟨rfl, rfl⟩)
          go_ret
          exact ⟨ret_string (by rw [HVx.out]; rfl), hb⟩
        · by_cases h8 : gs.length ≤ 8
          · have HNx := Lib.hid (hnxt.out (by rw [hsok, hv, decide_eq_true h8]; rfl))
            have h8' : ¬ 8 < (gs.length : Int) := by omega
            have HZg := Lib.hid fun (W : World) => l6Piece_any gs W (by omega)
            have hr0 := Below.refl wr.heap.size wr
            clear hsok
            generalize (l.take k).flatMap showSig = T at *
            have m1 := fun W : World => run_string_add_sum (P := Tryd.prog) W (S (P ++ T)) (S (varS gv)) (by simp; omega)
            have m2 := fun W : World => run_string_add_sum (P := Tryd.prog) W (S (P ++ (T ++ varS gv))) (S (sizedS gs)) (by simp; omega)
            go_wp2_with (go_at_call 58; refine (l1In_b _ _ _ _).mono ?_; rintro e w' ⟨rfl, rfl⟩)
            go_region_held3 (fun w' => Below wr.heap.size wr w' ∧ w'.cell? ⟨w.heap.size, 3, none⟩ = some (.slice (some ⟨b, off, none⟩) l.length c) ∧ w'.cell? ⟨b, off + k * 2, none⟩ = some (.int .i64 gv) ∧ w'.cell? ⟨b, off + k * 2 + 1, none⟩ = some (.string (S gs))) (first | exact ⟨hr0.drew, HC3r.out _ hr0.drew, (HCC.out _ hr0.drew).1, (HCC.out _ hr0.drew).2⟩ | exact (fun (q : Below wr.heap.size wr _) => ⟨q, HC3r.out _ q, (HCC.out _ q).1, (HCC.out _ q).2⟩) (Below.next (w := wr) (And.left (by assumption)) hbm) | assumption)
              (first | (go_at_call 61; refine (sVar_any _ _).mono ?_; rintro e wm' ⟨rfl, hbm⟩) | (go_at_call 62; refine (HZg.out _).mono ?_; rintro e wm' ⟨rfl, hbm⟩))
            all_goals
              have hbz : Below wr.heap.size wr wm' := by
                apply And.left
                assumption
              go_wp2
              go_roundw
              case rel => exact ⟨k + 1, by omega, by go_num, by rw [hs.out], HNx.out, Below.next hbx hbz⟩
              case measure => simp [intOf]; omega
          · have HVx := Lib.hid (hbad.out (by rw [hsok, hv, decide_eq_false h8]; rfl))
            have h8' : 8 < (gs.length : Int) := by omega
            clear hsok
            go_wp2_with (go_at_call 58; refine (l1In_b _ _ _ _).mono ?_; rintro e w' ⟨rfl, rfl⟩)
            go_ret
            exact ⟨ret_string (by rw [HVx.out]; rfl), hb⟩
      · have hkl : l.take k = l := List.take_of_length_le (by omega)
        rw [hkl] at hall
        have HVx := Lib.hid (HOK.out (List.all_eq_true.2 hall.out))
        have hfl : Hid ((l.take k).flatMap showSig = l.flatMap showSig) := by unfold Hid; rw [hkl]
        generalize (l.take k).flatMap showSig = T at *
        go_wp2
        go_ret
        exact ⟨ret_string (by rw [HVx.out, hfl.out, HPE.out]; simp), hb⟩
end Go.Proofs.YtecimgkgdpnaeaaDoor
