/-
  Proposer, both.
-/
import Derived.Test.YteajphbbmobaaaaVal1
namespace Go.Proofs.Yteajphbbmobaaaa
open Go.ChangeShapes Go.WideShapes Go.ChangeAt Go.RowKit
set_option linter.unusedVariables false
set_option linter.unusedSimpArgs false
set_option maxRecDepth 100000

def propIdx (n : Nat) (h r : Int) : Nat := ((h % n + r % n) % n).toNat
/-- What Proposer returns. -/
def propS (l : List ValT) (h r : Int) : Int := if valsOkB l = true ∧ 0 ≤ h ∧ 0 ≤ r then ((l[propIdx l.length h r]?).map ValT.id).getD 0 else 0
theorem propIdx_lt (n : Nat) (h r : Int) (hn : 0 < n) : propIdx n h r < n := by
  unfold propIdx
  have h1 := Int.emod_nonneg (h % n + r % n) (show (n : Int) ≠ 0 by omega)
  have h2 := Int.emod_lt_of_pos (h % n + r % n) (show (0 : Int) < n by omega)
  omega

theorem iProposer_no (A : Option Addr) (c : Nat) (l : List ValT) (h r : Int) (w : World) (hl : l.length ≤ 4194304) (hR : VReads w w.heap.size A l) (hno : ¬ (valsOkB l = true ∧ 0 ≤ h ∧ 0 ≤ r)) :
    Calls Try.prog 24 #[.slice A l.length c, .int .i64 h, .int .i64 r] w fun e w' => e = .returned (.int .i64 (propS l h r)) ∧ Below w.heap.size w w' := by
  have HV : Hid (propS l h r = 0) := by unfold Hid propS; rw [if_neg hno]
  have HR := Lib.hid hR
  have HN := Lib.hid hno
  clear hR hno
  have hb := Below.refl w.heap.size w
  cases hok : valsOkB l
  · go_enter Try.func24, Try.ntmps24
    go_wp2_with (go_at_call 17; refine (iValsOk_any _ _ _ _ hl HR.out).mono ?_; rintro e wn ⟨rfl, hbn⟩; have hb := Below.next (w := w) (by repeat (first | with_reducible exact hb | with_reducible exact Below.refl _ _ | refine Below.drew ?_ | refine Below.setCell ?_ (by simp <;> omega) _ | refine Below.alloc ?_ (by simp <;> omega) _)) hbn; clear hbn)
    go_ret
    exact ⟨ret_int HV.out.symm, hb⟩
  · by_cases hh : h < 0
    · go_enter Try.func24, Try.ntmps24
      go_wp2_with (go_at_call 17; refine (iValsOk_any _ _ _ _ hl HR.out).mono ?_; rintro e wn ⟨rfl, hbn⟩; have hb := Below.next (w := w) (by repeat (first | with_reducible exact hb | with_reducible exact Below.refl _ _ | refine Below.drew ?_ | refine Below.setCell ?_ (by simp <;> omega) _ | refine Below.alloc ?_ (by simp <;> omega) _)) hbn; clear hbn)
      go_ret
      exact ⟨ret_int HV.out.symm, hb⟩
    · have hr : r < 0 := by
        have := HN.out
        rcases Int.lt_or_le r 0 with h' | h'
        · exact h'
        · exact absurd ⟨hok, by omega, h'⟩ this
      go_enter Try.func24, Try.ntmps24
      go_wp2_with (go_at_call 17; refine (iValsOk_any _ _ _ _ hl HR.out).mono ?_; rintro e wn ⟨rfl, hbn⟩; have hb := Below.next (w := w) (by repeat (first | with_reducible exact hb | with_reducible exact Below.refl _ _ | refine Below.drew ?_ | refine Below.setCell ?_ (by simp <;> omega) _ | refine Below.alloc ?_ (by simp <;> omega) _)) hbn; clear hbn)
      go_ret
      exact ⟨ret_int HV.out.symm, hb⟩

theorem iProposer_yes (A : Option Addr) (c : Nat) (l : List ValT) (h r : Int) (w : World) (hl : l.length ≤ 4194304) (hR : VReads w w.heap.size A l) (hok : valsOkB l = true) (hh : 0 ≤ h) (hr : 0 ≤ r) :
    Calls Try.prog 24 #[.slice A l.length c, .int .i64 h, .int .i64 r] w fun e w' => e = .returned (.int .i64 (propS l h r)) ∧ Below w.heap.size w w' := by
  have hlen := valsOk_len hok
  have hj := propIdx_lt l.length h r (by omega)
  have HV : Hid (propS l h r = l[propIdx l.length h r].id) := by unfold Hid propS; rw [if_pos ⟨hok, hh, hr⟩, List.getElem?_eq_getElem hj]; rfl
  obtain ⟨x, hx⟩ := Int.eq_ofNat_of_zero_le (Int.emod_nonneg h (show (l.length : Int) ≠ 0 by omega))
  obtain ⟨y, hy⟩ := Int.eq_ofNat_of_zero_le (Int.emod_nonneg r (show (l.length : Int) ≠ 0 by omega))
  have hx2 : (x : Int) < l.length := by rw [← hx]; exact Int.emod_lt_of_pos _ (by omega)
  have hy2 : (y : Int) < l.length := by rw [← hy]; exact Int.emod_lt_of_pos _ (by omega)
  have e1 : h.tmod (l.length : Int) = (x : Int) := by rw [Int.tmod_eq_emod_of_nonneg hh, hx]
  have e2 : r.tmod (l.length : Int) = (y : Int) := by rw [Int.tmod_eq_emod_of_nonneg hr, hy]
  have e3 : IntKind.i64.wrap ((x : Int) + (y : Int)) = (x : Int) + (y : Int) := by rw [IntKind.wrap_i64]; omega
  have e4 : ((x : Int) + (y : Int)).tmod (l.length : Int) = ((propIdx l.length h r : Nat) : Int) := by
    rw [Int.tmod_eq_emod_of_nonneg (by omega)]
    unfold propIdx
    rw [hx, hy]
    have := Int.emod_nonneg ((x : Int) + y) (show (l.length : Int) ≠ 0 by omega)
    omega
  have HR := Lib.hid hR
  clear hR
  obtain ⟨b, off, rfl, hbB, hc⟩ := HR.out (by omega)
  have hc0 := (hc _ hj).1
  generalize propIdx l.length h r = j at *
  have HC : Hid (∀ W, Below w.heap.size w W → W.cell? ⟨b, off + j * 2, none⟩ = some (.int .i64 l[j].id)) := fun W hW => (hW.cell (p := ⟨b, _, none⟩) hbB).trans hc0
  have hn0 : ((l.length : Int) == 0) = false := by rw [beq_eq_false_iff_ne]; omega
  have hn0' : ¬ (l.length : Int) = 0 := by omega
  have hji : 0 ≤ (j : Int) ∧ (j : Int) < l.length := by omega
  clear hc hc0 hx hy
  have hb := Below.refl w.heap.size w
  go_enter Try.func24, Try.ntmps24
  go_wp2_with ((go_at_call 17; refine (iValsOk_any _ _ _ _ hl HR.out).mono ?_; rintro e wn ⟨rfl, hbn⟩; have hb := Below.next (w := w) (by repeat (first | with_reducible exact hb | with_reducible exact Below.refl _ _ | refine Below.drew ?_ | refine Below.setCell ?_ (by simp <;> omega) _ | refine Below.alloc ?_ (by simp <;> omega) _)) hbn; clear hbn); have c0 := HC.out _ hb)
  go_quiet (fail)
  go_wp2
  go_ret
  exact ⟨ret_int HV.out.symm, below_drewN hb _⟩
theorem iProposer_any (A : Option Addr) (c : Nat) (l : List ValT) (h r : Int) (w : World) (hl : l.length ≤ 4194304) (hR : VReads w w.heap.size A l) :
    Calls Try.prog 24 #[.slice A l.length c, .int .i64 h, .int .i64 r] w fun e w' => e = .returned (.int .i64 (propS l h r)) ∧ Below w.heap.size w w' := by
  by_cases hno : valsOkB l = true ∧ 0 ≤ h ∧ 0 ≤ r
  · exact iProposer_yes A c l h r w hl hR hno.1 hno.2.1 hno.2.2
  · exact iProposer_no A c l h r w hl hR hno
theorem sProposer_no (A : Option Addr) (c : Nat) (l : List ValT) (h r : Int) (w : World) (hl : l.length ≤ 4194304) (hR : VReads w w.heap.size A l) (hno : ¬ (valsOkB l = true ∧ 0 ≤ h ∧ 0 ≤ r)) :
    Calls Try.prog 23 #[.slice A l.length c, .int .i64 h, .int .i64 r] w fun e w' => e = .returned (.int .i64 (propS l h r)) ∧ Below w.heap.size w w' := by
  have HV : Hid (propS l h r = 0) := by unfold Hid propS; rw [if_neg hno]
  have HR := Lib.hid hR
  have HN := Lib.hid hno
  clear hR hno
  have hb := Below.refl w.heap.size w
  cases hok : valsOkB l
  · go_enter Try.func23, Try.ntmps23
    go_wp2_with (go_at_call 15; refine (sValsOk_any _ _ _ _ hl HR.out).mono ?_; rintro e wn ⟨rfl, hbn⟩; have hb := Below.next (w := w) (by repeat (first | with_reducible exact hb | with_reducible exact Below.refl _ _ | refine Below.drew ?_ | refine Below.setCell ?_ (by simp <;> omega) _ | refine Below.alloc ?_ (by simp <;> omega) _)) hbn; clear hbn)
    go_ret
    exact ⟨ret_int HV.out.symm, hb⟩
  · by_cases hh : h < 0
    · go_enter Try.func23, Try.ntmps23
      go_wp2_with (go_at_call 15; refine (sValsOk_any _ _ _ _ hl HR.out).mono ?_; rintro e wn ⟨rfl, hbn⟩; have hb := Below.next (w := w) (by repeat (first | with_reducible exact hb | with_reducible exact Below.refl _ _ | refine Below.drew ?_ | refine Below.setCell ?_ (by simp <;> omega) _ | refine Below.alloc ?_ (by simp <;> omega) _)) hbn; clear hbn)
      go_ret
      exact ⟨ret_int HV.out.symm, hb⟩
    · have hr : r < 0 := by
        have := HN.out
        rcases Int.lt_or_le r 0 with h' | h'
        · exact h'
        · exact absurd ⟨hok, by omega, h'⟩ this
      go_enter Try.func23, Try.ntmps23
      go_wp2_with (go_at_call 15; refine (sValsOk_any _ _ _ _ hl HR.out).mono ?_; rintro e wn ⟨rfl, hbn⟩; have hb := Below.next (w := w) (by repeat (first | with_reducible exact hb | with_reducible exact Below.refl _ _ | refine Below.drew ?_ | refine Below.setCell ?_ (by simp <;> omega) _ | refine Below.alloc ?_ (by simp <;> omega) _)) hbn; clear hbn)
      go_ret
      exact ⟨ret_int HV.out.symm, hb⟩

theorem sProposer_yes (A : Option Addr) (c : Nat) (l : List ValT) (h r : Int) (w : World) (hl : l.length ≤ 4194304) (hR : VReads w w.heap.size A l) (hok : valsOkB l = true) (hh : 0 ≤ h) (hr : 0 ≤ r) :
    Calls Try.prog 23 #[.slice A l.length c, .int .i64 h, .int .i64 r] w fun e w' => e = .returned (.int .i64 (propS l h r)) ∧ Below w.heap.size w w' := by
  have hlen := valsOk_len hok
  have hj := propIdx_lt l.length h r (by omega)
  have HV : Hid (propS l h r = l[propIdx l.length h r].id) := by unfold Hid propS; rw [if_pos ⟨hok, hh, hr⟩, List.getElem?_eq_getElem hj]; rfl
  obtain ⟨x, hx⟩ := Int.eq_ofNat_of_zero_le (Int.emod_nonneg h (show (l.length : Int) ≠ 0 by omega))
  obtain ⟨y, hy⟩ := Int.eq_ofNat_of_zero_le (Int.emod_nonneg r (show (l.length : Int) ≠ 0 by omega))
  have hx2 : (x : Int) < l.length := by rw [← hx]; exact Int.emod_lt_of_pos _ (by omega)
  have hy2 : (y : Int) < l.length := by rw [← hy]; exact Int.emod_lt_of_pos _ (by omega)
  have e1 : h.tmod (l.length : Int) = (x : Int) := by rw [Int.tmod_eq_emod_of_nonneg hh, hx]
  have e2 : r.tmod (l.length : Int) = (y : Int) := by rw [Int.tmod_eq_emod_of_nonneg hr, hy]
  have e3 : IntKind.i64.wrap ((x : Int) + (y : Int)) = (x : Int) + (y : Int) := by rw [IntKind.wrap_i64]; omega
  have e4 : ((x : Int) + (y : Int)).tmod (l.length : Int) = ((propIdx l.length h r : Nat) : Int) := by
    rw [Int.tmod_eq_emod_of_nonneg (by omega)]
    unfold propIdx
    rw [hx, hy]
    have := Int.emod_nonneg ((x : Int) + y) (show (l.length : Int) ≠ 0 by omega)
    omega
  have HR := Lib.hid hR
  clear hR
  obtain ⟨b, off, rfl, hbB, hc⟩ := HR.out (by omega)
  have hc0 := (hc _ hj).1
  generalize propIdx l.length h r = j at *
  have HC : Hid (∀ W, Below w.heap.size w W → W.cell? ⟨b, off + j * 2, none⟩ = some (.int .i64 l[j].id)) := fun W hW => (hW.cell (p := ⟨b, _, none⟩) hbB).trans hc0
  have hn0 : ((l.length : Int) == 0) = false := by rw [beq_eq_false_iff_ne]; omega
  have hn0' : ¬ (l.length : Int) = 0 := by omega
  have hji : 0 ≤ (j : Int) ∧ (j : Int) < l.length := by omega
  clear hc hc0 hx hy
  have hb := Below.refl w.heap.size w
  go_enter Try.func23, Try.ntmps23
  go_wp2_with ((go_at_call 15; refine (sValsOk_any _ _ _ _ hl HR.out).mono ?_; rintro e wn ⟨rfl, hbn⟩; have hb := Below.next (w := w) (by repeat (first | with_reducible exact hb | with_reducible exact Below.refl _ _ | refine Below.drew ?_ | refine Below.setCell ?_ (by simp <;> omega) _ | refine Below.alloc ?_ (by simp <;> omega) _)) hbn; clear hbn); have c0 := HC.out _ hb)
  go_quiet (fail)
  go_wp2
  go_ret
  exact ⟨ret_int HV.out.symm, below_drewN hb _⟩
theorem sProposer_any (A : Option Addr) (c : Nat) (l : List ValT) (h r : Int) (w : World) (hl : l.length ≤ 4194304) (hR : VReads w w.heap.size A l) :
    Calls Try.prog 23 #[.slice A l.length c, .int .i64 h, .int .i64 r] w fun e w' => e = .returned (.int .i64 (propS l h r)) ∧ Below w.heap.size w w' := by
  by_cases hno : valsOkB l = true ∧ 0 ≤ h ∧ 0 ≤ r
  · exact sProposer_yes A c l h r w hl hR hno.1 hno.2.1 hno.2.2
  · exact sProposer_no A c l h r w hl hR hno
end Go.Proofs.Yteajphbbmobaaaa
