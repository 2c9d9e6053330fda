/-
  Texts of this proof, laid into one: Id2, Sg1, Sig1, ComV0.
-/
import Derived.Test.YtecimgkgdpnaeaaDoorGFnCommit19
import Derived.Test.YtecimgkgdpnaeaaDoorGFnCommit13
import Derived.Test.YtecimgkgdpnaeaaDoorGFnCommit10
import Derived.Deep.RegionHeld3
import Derived.Deep.RegionWith
import Derived.Test.YtecimgkgdpnaeaaDoorGFnCommit11
import Derived.Test.YtecimgkgdpnaeaaDoorGFnCommit12
import Derived.Test.YtecimgkgdpnaeaaDoorGFnCommit0
/-
  ValsHash, both sides.
-/
namespace Go.Proofs.YtecimgkgdpnaeaaDoor
open Go.ChangeShapes Go.WideShapes Go.ChangeAt Go.RowKit
set_option linter.unusedVariables false
set_option linter.unusedSimpArgs false
set_option maxRecDepth 100000

/-- What ValsHash returns. -/
def valsHashS (l : List ValT) : List UInt8 := if valsOkB l then shortS (showValsS l) else []
theorem showValsS_len (l : List ValT) : (showValsS l).length ≤ 200 := by
  unfold showValsS
  cases hok : valsOkB l
  · simp
  · have h1 : l.length ≤ 7 := by
      unfold valsOkB at hok
      simp only [Bool.and_eq_true] at hok
      have := inB_true hok.1
      omega
    have h2 := showVal_len l
    have h3 := varS_len (l.length : Int)
    simp only [if_true, List.length_append]
    omega
theorem iValsHash_any (A : Option Addr) (c : Nat) (l : List ValT) (w : World) (hl : l.length ≤ 4194304) (hR : VReads w w.heap.size A l) (hK : HasK w) :
    Calls Tryd.prog 74 #[.slice A l.length c] w fun e w' => e = .returned (.string (S (valsHashS l))) ∧ Below w.heap.size w w' := by
  have HK := Lib.hid hK
  have HR := Lib.hid hR
  have HSH := Lib.hid fun (W : World) (h : HasK W) => iShort_any (showValsS l) W (by have := showValsS_len l; omega) h
  clear hR hK
  have hb := Below.refl w.heap.size w
  cases hok : valsOkB l
  · have HV : Hid (valsHashS l = []) := by unfold Hid valsHashS; rw [hok]; rfl
    go_enter Tryd.func74, Tryd.ntmps74
    go_wp2_with (go_at_call 73; refine (iValsOk_any _ _ _ _ hl HR.out).mono ?_; rintro e wn ⟨rfl, hbn⟩; have hb := Below.next (w := w) (by repeat (first | with_reducible exact hb | with_reducible exact Below.refl _ _ | refine Below.drew ?_ | refine Below.setCell ?_ (by simp <;> omega) _ | refine Below.alloc ?_ (by simp <;> omega) _)) hbn; clear hbn)
    go_ret
    exact ⟨ret_string (by rw [HV.out]; rfl), hb⟩
  · have HV : Hid (valsHashS l = shortS (showValsS l)) := by unfold Hid valsHashS; rw [hok]; rfl
    go_enter Tryd.func74, Tryd.ntmps74
    go_wp2_with (first | (go_at_call 73; refine (iValsOk_any _ _ _ _ hl HR.out).mono ?_; rintro e wn ⟨rfl, hbn⟩; have hb := Below.next (w := w) (by repeat (first | with_reducible exact hb | with_reducible exact Below.refl _ _ | refine Below.drew ?_ | refine Below.setCell ?_ (by simp <;> omega) _ | refine Below.alloc ?_ (by simp <;> omega) _)) hbn; clear hbn) | (go_at_call 105; refine (iShowVals_any _ _ _ _ hl (HR.out.to hb)).mono ?_; rintro e wn ⟨rfl, hbn⟩; have hb := Below.next (w := w) (by repeat (first | with_reducible exact hb | with_reducible exact Below.refl _ _ | refine Below.drew ?_ | refine Below.setCell ?_ (by simp <;> omega) _ | refine Below.alloc ?_ (by simp <;> omega) _)) hbn; clear hbn) | (go_at_call 63; refine (HSH.out _ (HK.out.to hb)).mono ?_; rintro e wn ⟨rfl, hbn⟩; have hb := Below.next (w := w) (by repeat (first | with_reducible exact hb | with_reducible exact Below.refl _ _ | refine Below.drew ?_ | refine Below.setCell ?_ (by simp <;> omega) _ | refine Below.alloc ?_ (by simp <;> omega) _)) hbn; clear hbn))
    go_ret
    exact ⟨ret_string (by rw [HV.out]), hb⟩
theorem sValsHash_any (A : Option Addr) (c : Nat) (l : List ValT) (w : World) (hl : l.length ≤ 4194304) (hR : VReads w w.heap.size A l) :
    Calls Tryd.prog 77 #[.slice A l.length c] w fun e w' => e = .returned (.string (S (valsHashS l))) ∧ Below w.heap.size w w' := by
  have HR := Lib.hid hR
  have HSH := Lib.hid fun (W : World) => sShort_any (showValsS l) W (by have := showValsS_len l; omega)
  clear hR
  have hb := Below.refl w.heap.size w
  cases hok : valsOkB l
  · have HV : Hid (valsHashS l = []) := by unfold Hid valsHashS; rw [hok]; rfl
    go_enter Tryd.func77, Tryd.ntmps77
    go_wp2_with (go_at_call 76; refine (sValsOk_any _ _ _ _ hl HR.out).mono ?_; rintro e wn ⟨rfl, hbn⟩; have hb := Below.next (w := w) (by repeat (first | with_reducible exact hb | with_reducible exact Below.refl _ _ | refine Below.drew ?_ | refine Below.setCell ?_ (by simp <;> omega) _ | refine Below.alloc ?_ (by simp <;> omega) _)) hbn; clear hbn)
    go_ret
    exact ⟨ret_string (by rw [HV.out]; rfl), hb⟩
  · have HV : Hid (valsHashS l = shortS (showValsS l)) := by unfold Hid valsHashS; rw [hok]; rfl
    go_enter Tryd.func77, Tryd.ntmps77
    go_wp2_with (first | (go_at_call 76; refine (sValsOk_any _ _ _ _ hl HR.out).mono ?_; rintro e wn ⟨rfl, hbn⟩; have hb := Below.next (w := w) (by repeat (first | with_reducible exact hb | with_reducible exact Below.refl _ _ | refine Below.drew ?_ | refine Below.setCell ?_ (by simp <;> omega) _ | refine Below.alloc ?_ (by simp <;> omega) _)) hbn; clear hbn) | (go_at_call 110; refine (sShowVals_any _ _ _ _ hl (HR.out.to hb)).mono ?_; rintro e wn ⟨rfl, hbn⟩; have hb := Below.next (w := w) (by repeat (first | with_reducible exact hb | with_reducible exact Below.refl _ _ | refine Below.drew ?_ | refine Below.setCell ?_ (by simp <;> omega) _ | refine Below.alloc ?_ (by simp <;> omega) _)) hbn; clear hbn) | (go_at_call 64; refine (HSH.out _).mono ?_; rintro e wn ⟨rfl, hbn⟩; have hb := Below.next (w := w) (by repeat (first | with_reducible exact hb | with_reducible exact Below.refl _ _ | refine Below.drew ?_ | refine Below.setCell ?_ (by simp <;> omega) _ | refine Below.alloc ?_ (by simp <;> omega) _)) hbn; clear hbn))
    go_ret
    exact ⟨ret_string (by rw [HV.out]), hb⟩
end Go.Proofs.YtecimgkgdpnaeaaDoor

/-
  SignAs: both sides.
-/
namespace Go.Proofs.YtecimgkgdpnaeaaDoor
open Go.ChangeShapes Go.WideShapes Go.ChangeAt Go.RowKit
set_option linter.unusedVariables false
set_option linter.unusedSimpArgs false
set_option maxRecDepth 100000

/-! SignAs. -/
theorem sSignAs_any (v : Int) (d : List UInt8) (w : World) (hl : d.length ≤ 4194000) :
    Calls Tryd.prog 95 #[.int .i64 v, .string (S d)] w fun e w' => e = .returned (.string (S (signAsS v d))) ∧ Below w.heap.size w w' := by
  have hb := Below.refl w.heap.size w
  by_cases h1 : inB v 1 99 = true
  · have HV : Hid (signAsS v d = shortS (4 :: (fixedS v 2 ++ d))) := by unfold Hid signAsS; rw [h1]; rfl
    obtain ⟨b1, b2⟩ := inB_true h1
    have hS := S_cons1 4 (fixedS v 2)
    have hfl : (fixedS v 2).length ≤ 7 := by unfold fixedS; split <;> simp
    have HF := Lib.hid fun W : World => sFixed_any v 2 W (by omega)
    have HSH := Lib.hid fun W : World => sShort_any (4 :: (fixedS v 2 ++ d)) W (by simp; omega)
    generalize fixedS v 2 = f at *
    go_enter Tryd.func95, Tryd.ntmps95
    go_wp2_with (first | (go_at_call 58; refine (l1In_b _ _ _ _).mono ?_; rintro e w' ⟨rfl, rfl⟩) | (go_at_call 115; refine (HF.out _).mono ?_; rintro e wn ⟨rfl, hbn⟩; have hb := Below.next (w := w) (by repeat (first | with_reducible exact hb | with_reducible exact Below.refl _ _ | refine Below.drew ?_ | refine Below.setCell ?_ (by simp <;> omega) _ | refine Below.alloc ?_ (by simp <;> omega) _)) hbn; clear hbn) | (go_at_call 64; refine (HSH.out _).mono ?_; rintro e wn ⟨rfl, hbn⟩; have hb := Below.next (w := w) (by repeat (first | with_reducible exact hb | with_reducible exact Below.refl _ _ | refine Below.drew ?_ | refine Below.setCell ?_ (by simp <;> omega) _ | refine Below.alloc ?_ (by simp <;> omega) _)) hbn; clear hbn))
    go_ret
    exact ⟨ret_string (by rw [HV.out]), hb⟩
  · have h1' : inB v 1 99 = false := by simpa using h1
    have HV : Hid (signAsS v d = []) := by unfold Hid signAsS; rw [h1']; rfl
    clear h1
    go_enter Tryd.func95, Tryd.ntmps95
    go_wp2_with (go_at_call 58; refine (l1In_b _ _ _ _).mono ?_; rintro e w' ⟨rfl, rfl⟩)
    go_ret
    exact ⟨ret_string (by rw [HV.out]; rfl), hb⟩
theorem isVal_in (x : Int) (w : World) :
    Calls Tryd.prog 57 #[.int .i64 x] w fun e w' => e = .returned (.bool (inB x 1 99)) ∧ w = w' := by
  go_enter Tryd.func57, Tryd.ntmps57
  go_wp2_with (go_at_call 55; refine (within_b _ _ _ _).mono ?_; rintro e w' ⟨rfl, rfl⟩)
  go_ret
  exact ⟨rfl, rfl⟩
theorem iSignAs_any (v : Int) (d : List UInt8) (w : World) (hl : d.length ≤ 4194000) (hK : HasK w) :
    Calls Tryd.prog 99 #[.int .i64 v, .string (S d)] w fun e w' => e = .returned (.string (S (signAsS v d))) ∧ Below w.heap.size w w' := by
  have hb := Below.refl w.heap.size w
  have HK := Lib.hid hK
  clear hK
  by_cases h1 : inB v 1 99 = true
  · have HV : Hid (signAsS v d = shortS (4 :: (fixedS v 2 ++ d))) := by unfold Hid signAsS; rw [h1]; rfl
    obtain ⟨b1, b2⟩ := inB_true h1
    have hS := S_cons1 4 (fixedS v 2)
    have hfl : (fixedS v 2).length ≤ 7 := by unfold fixedS; split <;> simp
    have HF := Lib.hid fun W : World => iFixed_any v 2 W (by omega)
    have HSH := Lib.hid fun (W : World) (h : HasK W) => iShort_any (4 :: (fixedS v 2 ++ d)) W (by simp; omega) h
    generalize fixedS v 2 = f at *
    go_enter Tryd.func99, Tryd.ntmps99
    go_wp2_with (first | (go_at_call 57; refine (isVal_in _ _).mono ?_; rintro e w' ⟨rfl, rfl⟩) | (go_at_call 111; refine (HF.out _).mono ?_; rintro e wn ⟨rfl, hbn⟩; have hb := Below.next (w := w) (by repeat (first | with_reducible exact hb | with_reducible exact Below.refl _ _ | refine Below.drew ?_ | refine Below.setCell ?_ (by simp <;> omega) _ | refine Below.alloc ?_ (by simp <;> omega) _)) hbn; clear hbn) | (go_at_call 63; refine (HSH.out _ (HK.out.to hb)).mono ?_; rintro e wn ⟨rfl, hbn⟩; have hb := Below.next (w := w) (by repeat (first | with_reducible exact hb | with_reducible exact Below.refl _ _ | refine Below.drew ?_ | refine Below.setCell ?_ (by simp <;> omega) _ | refine Below.alloc ?_ (by simp <;> omega) _)) hbn; clear hbn))
    go_ret
    exact ⟨ret_string (by rw [HV.out]), hb⟩
  · have h1' : inB v 1 99 = false := by simpa using h1
    have HV : Hid (signAsS v d = []) := by unfold Hid signAsS; rw [h1']; rfl
    clear h1
    go_enter Tryd.func99, Tryd.ntmps99
    go_wp2_with (go_at_call 57; refine (isVal_in _ _).mono ?_; rintro e w' ⟨rfl, rfl⟩)
    go_ret
    exact ⟨ret_string (by rw [HV.out]; rfl), hb⟩
end Go.Proofs.YtecimgkgdpnaeaaDoor

/-
  Signed, both sides.
-/
namespace Go.Proofs.YtecimgkgdpnaeaaDoor
open Go.ChangeShapes Go.WideShapes Go.ChangeAt Go.RowKit
set_option linter.unusedVariables false
set_option linter.unusedSimpArgs false
set_option maxRecDepth 100000

/-- What Signed returns. -/
def signedB (x : VoteT) (sig : List UInt8) : Bool := voteOkB x && sig == signAsS x.v (digestS x)
theorem digestS_len (x : VoteT) : (digestS x).length ≤ 60 := by
  unfold digestS
  cases hok : voteOkB x
  · simp
  · have q1 := varS_len x.h
    have q2 := varS_len x.r
    have q3 := varS_len x.s
    have hil : x.id.length ≤ 8 := by
      unfold voteOkB at hok
      simp only [Bool.and_eq_true] at hok
      have := hok.1.2
      unfold isIdB at this
      simp only [Bool.or_eq_true, beq_iff_eq] at this
      omega
    simp only [if_true, List.length_append]
    omega
/-- Five cells of block B are held over a call that makes memory. -/
theorem held5 {w cur wm : World} {B : Nat} {u0 u1 u2 u3 u4 : Value}
    (H : Below w.heap.size w cur ∧ B < cur.heap.size ∧ cur.cell? ⟨B, 0, none⟩ = some u0 ∧ cur.cell? ⟨B, 1, none⟩ = some u1 ∧ cur.cell? ⟨B, 2, none⟩ = some u2 ∧ cur.cell? ⟨B, 3, none⟩ = some u3 ∧ cur.cell? ⟨B, 4, none⟩ = some u4) (hb : Below cur.heap.size cur wm) :
    Below w.heap.size w wm ∧ B < wm.heap.size ∧ wm.cell? ⟨B, 0, none⟩ = some u0 ∧ wm.cell? ⟨B, 1, none⟩ = some u1 ∧ wm.cell? ⟨B, 2, none⟩ = some u2 ∧ wm.cell? ⟨B, 3, none⟩ = some u3 ∧ wm.cell? ⟨B, 4, none⟩ = some u4 := by
  obtain ⟨h1, h2, c0, c1, c2, c3, c4⟩ := H
  have k : ∀ i, wm.cell? ⟨B, i, none⟩ = cur.cell? ⟨B, i, none⟩ := fun i => hb.cell (p := ⟨B, i, none⟩) h2
  exact ⟨Below.next h1 hb, Nat.lt_of_lt_of_le h2 hb.size, (k 0).trans c0, (k 1).trans c1, (k 2).trans c2, (k 3).trans c3, (k 4).trans c4⟩

set_option maxHeartbeats 1600000 in
theorem iSigned_any (x : VoteT) (sig : List UInt8) (w : World) (hl : x.id.length ≤ 9223372036854775807) (hK : HasK w) :
    Calls Tryd.prog 68 #[x.val, .string (S sig)] w fun e w' => e = .returned (.bool (signedB x sig)) ∧ Below w.heap.size w w' := by
  have HK := Lib.hid hK
  clear hK
  have HO := Lib.hid fun (W : World) => iVoteOk_any x W hl
  have HD := Lib.hid fun (W : World) => iDigest_any x W hl
  have HS := Lib.hid fun (W : World) (h : HasK W) => iSignAs_any x.v (digestS x) W (by have := digestS_len x; omega) h
  have HV : Hid (signedB x sig = (voteOkB x && sig == signAsS x.v (digestS x))) := rfl
  generalize signAsS x.v (digestS x) = g at *
  generalize digestS x = d at *
  generalize signedB x sig = R at *
  generalize voteOkB x = ok at *
  obtain ⟨h, r, s, id, v⟩ := x
  have hv : VoteT.val ⟨h, r, s, id, v⟩ = .agg #[.int .i64 h, .int .i64 r, .int .i64 s, .string (S id), .int .i64 v] := rfl
  simp only [hv] at HO HD HS hl ⊢
  cases ok
  · go_enter Tryd.func68, Tryd.ntmps68
    go_wp2_with fail
    first | go_region_with (go_at_call 98; refine (HO.out _).mono ?_; rintro e wm ⟨rfl, hbm⟩) | fail
    all_goals
      have hbx : Below w.heap.size w wm := Below.next (((Below.refl _ _).alloc (Nat.le_refl _) _).drew) hbm
      go_wp2
      go_ret
      exact ⟨ret_bool (by rw [HV.out]; rfl), hbx⟩
  · by_cases hs : sig = g
    · have hbe : (sig == g) = true := by rw [hs]; simp
      clear hs
      go_enter Tryd.func68, Tryd.ntmps68
      go_wp2_with fail
      go_region_held3 (fun w' => Below w.heap.size w w' ∧ w.heap.size < w'.heap.size ∧ w'.cell? ⟨w.heap.size, 0, none⟩ = some (.int .i64 h) ∧ w'.cell? ⟨w.heap.size, 1, none⟩ = some (.int .i64 r) ∧ w'.cell? ⟨w.heap.size, 2, none⟩ = some (.int .i64 s) ∧ w'.cell? ⟨w.heap.size, 3, none⟩ = some (.string (S id)) ∧ w'.cell? ⟨w.heap.size, 4, none⟩ = some (.int .i64 v)) (first | exact ⟨((Below.refl _ _).alloc (Nat.le_refl _) _).drew, by simp, by go_simp, by go_simp, by go_simp, by go_simp, by go_simp⟩ | exact held5 (by assumption) hbm | go_keep)
        (first | (go_at_call 98; refine (HO.out _).mono ?_; rintro e wm ⟨rfl, hbm⟩) | (go_at_call 100; refine (HD.out _).mono ?_; rintro e wm ⟨rfl, hbm⟩) | (go_at_call 99; refine (HS.out _ (HK.out.to (And.left (by assumption)))).mono ?_; rintro e wm ⟨rfl, hbm⟩))
      all_goals
        have hbx : Below w.heap.size w wm := by apply And.left; assumption
        go_wp2
        go_ret
        exact ⟨ret_bool (by rw [HV.out, hbe]; rfl), hbx⟩
    · have hbe : (sig == g) = false := by simpa using hs
      clear hs
      go_enter Tryd.func68, Tryd.ntmps68
      go_wp2_with fail
      go_region_held3 (fun w' => Below w.heap.size w w' ∧ w.heap.size < w'.heap.size ∧ w'.cell? ⟨w.heap.size, 0, none⟩ = some (.int .i64 h) ∧ w'.cell? ⟨w.heap.size, 1, none⟩ = some (.int .i64 r) ∧ w'.cell? ⟨w.heap.size, 2, none⟩ = some (.int .i64 s) ∧ w'.cell? ⟨w.heap.size, 3, none⟩ = some (.string (S id)) ∧ w'.cell? ⟨w.heap.size, 4, none⟩ = some (.int .i64 v)) (first | exact ⟨((Below.refl _ _).alloc (Nat.le_refl _) _).drew, by simp, by go_simp, by go_simp, by go_simp, by go_simp, by go_simp⟩ | exact held5 (by assumption) hbm | go_keep)
        (first | (go_at_call 98; refine (HO.out _).mono ?_; rintro e wm ⟨rfl, hbm⟩) | (go_at_call 100; refine (HD.out _).mono ?_; rintro e wm ⟨rfl, hbm⟩) | (go_at_call 99; refine (HS.out _ (HK.out.to (And.left (by assumption)))).mono ?_; rintro e wm ⟨rfl, hbm⟩))
      all_goals
        have hbx : Below w.heap.size w wm := by apply And.left; assumption
        go_wp2
        go_ret
        exact ⟨ret_bool (by rw [HV.out, hbe]; rfl), hbx⟩


set_option maxHeartbeats 1600000 in
theorem sSigned_any (x : VoteT) (sig : List UInt8) (w : World) (hl : x.id.length ≤ 9223372036854775807) :
    Calls Tryd.prog 66 #[x.val, .string (S sig)] w fun e w' => e = .returned (.bool (signedB x sig)) ∧ Below w.heap.size w w' := by
  have HO := Lib.hid fun (W : World) => sVoteOk_any x W hl
  have HD := Lib.hid fun (W : World) => sDigest_any x W hl
  have HS := Lib.hid fun (W : World) => sSignAs_any x.v (digestS x) W (by have := digestS_len x; omega)
  have HV : Hid (signedB x sig = (voteOkB x && sig == signAsS x.v (digestS x))) := rfl
  generalize signAsS x.v (digestS x) = g at *
  generalize digestS x = d at *
  generalize signedB x sig = R at *
  generalize voteOkB x = ok at *
  obtain ⟨h, r, s, id, v⟩ := x
  have hv : VoteT.val ⟨h, r, s, id, v⟩ = .agg #[.int .i64 h, .int .i64 r, .int .i64 s, .string (S id), .int .i64 v] := rfl
  simp only [hv] at HO HD HS hl ⊢
  cases ok
  · go_enter Tryd.func66, Tryd.ntmps66
    go_wp2_with fail
    first | go_region_with (go_at_call 59; refine (HO.out _).mono ?_; rintro e wm ⟨rfl, hbm⟩) | fail
    all_goals
      have hbx : Below w.heap.size w wm := Below.next (((Below.refl _ _).alloc (Nat.le_refl _) _).drew) hbm
      go_wp2
      go_ret
      exact ⟨ret_bool (by rw [HV.out]; rfl), hbx⟩
  · by_cases hs : sig = g
    · have hbe : (sig == g) = true := by rw [hs]; simp
      clear hs
      go_enter Tryd.func66, Tryd.ntmps66
      go_wp2_with fail
      go_region_held3 (fun w' => Below w.heap.size w w' ∧ w.heap.size < w'.heap.size ∧ w'.cell? ⟨w.heap.size, 0, none⟩ = some (.int .i64 h) ∧ w'.cell? ⟨w.heap.size, 1, none⟩ = some (.int .i64 r) ∧ w'.cell? ⟨w.heap.size, 2, none⟩ = some (.int .i64 s) ∧ w'.cell? ⟨w.heap.size, 3, none⟩ = some (.string (S id)) ∧ w'.cell? ⟨w.heap.size, 4, none⟩ = some (.int .i64 v)) (first | exact ⟨((Below.refl _ _).alloc (Nat.le_refl _) _).drew, by simp, by go_simp, by go_simp, by go_simp, by go_simp, by go_simp⟩ | exact held5 (by assumption) hbm | go_keep)
        (first | (go_at_call 59; refine (HO.out _).mono ?_; rintro e wm ⟨rfl, hbm⟩) | (go_at_call 96; refine (HD.out _).mono ?_; rintro e wm ⟨rfl, hbm⟩) | (go_at_call 95; refine (HS.out _).mono ?_; rintro e wm ⟨rfl, hbm⟩))
      all_goals
        have hbx : Below w.heap.size w wm := by apply And.left; assumption
        go_wp2
        go_ret
        exact ⟨ret_bool (by rw [HV.out, hbe]; rfl), hbx⟩
    · have hbe : (sig == g) = false := by simpa using hs
      clear hs
      go_enter Tryd.func66, Tryd.ntmps66
      go_wp2_with fail
      go_region_held3 (fun w' => Below w.heap.size w w' ∧ w.heap.size < w'.heap.size ∧ w'.cell? ⟨w.heap.size, 0, none⟩ = some (.int .i64 h) ∧ w'.cell? ⟨w.heap.size, 1, none⟩ = some (.int .i64 r) ∧ w'.cell? ⟨w.heap.size, 2, none⟩ = some (.int .i64 s) ∧ w'.cell? ⟨w.heap.size, 3, none⟩ = some (.string (S id)) ∧ w'.cell? ⟨w.heap.size, 4, none⟩ = some (.int .i64 v)) (first | exact ⟨((Below.refl _ _).alloc (Nat.le_refl _) _).drew, by simp, by go_simp, by go_simp, by go_simp, by go_simp, by go_simp⟩ | exact held5 (by assumption) hbm | go_keep)
        (first | (go_at_call 59; refine (HO.out _).mono ?_; rintro e wm ⟨rfl, hbm⟩) | (go_at_call 96; refine (HD.out _).mono ?_; rintro e wm ⟨rfl, hbm⟩) | (go_at_call 95; refine (HS.out _).mono ?_; rintro e wm ⟨rfl, hbm⟩))
      all_goals
        have hbx : Below w.heap.size w wm := by apply And.left; assumption
        go_wp2
        go_ret
        exact ⟨ret_bool (by rw [HV.out, hbe]; rfl), hbx⟩
end Go.Proofs.YtecimgkgdpnaeaaDoor

/-
  Who has signed a commit. No program in sight.
-/
namespace Go.Proofs.YtecimgkgdpnaeaaDoor
set_option linter.unusedVariables false
set_option linter.unusedSimpArgs false

def goodS (x : CommitT) (s : SigT) : Bool := signedB ⟨x.h, x.r, 2, x.id, s.val⟩ s.sig
def comHit (x : CommitT) (v : Int) (s : SigT) : Bool := decide (s.val = v) && signedB ⟨x.h, x.r, 2, x.id, v⟩ s.sig
def comHas (x : CommitT) (v : Int) : Bool := x.sigs.any (comHit x v)
/-- What CommitVals returns. -/
def comValsS (x : CommitT) : List Int := if 12 < x.sigs.length then [] else upTo (comHas x) 99
theorem comVals_no {x : CommitT} (h : 12 < x.sigs.length) : comValsS x = [] := by unfold comValsS; rw [if_pos h]
theorem comVals_yes {x : CommitT} (h : x.sigs.length ≤ 12) : comValsS x = upTo (comHas x) 99 := by unfold comValsS; rw [if_neg (by omega)]
theorem comVals_len (x : CommitT) : (comValsS x).length ≤ 99 := by
  unfold comValsS
  split
  · simp
  · exact upTo_len _ _
/-- Those of the first k signatures that hold. -/
def goodL (x : CommitT) (k : Nat) : List Int := ((x.sigs.take k).filter (goodS x)).map fun s => s.val
theorem goodL_zero (x : CommitT) : goodL x 0 = [] := by simp [goodL]
theorem goodL_succ (x : CommitT) (k : Nat) (hk : k < x.sigs.length) : goodL x (k + 1) = goodL x k ++ (if goodS x x.sigs[k] then [x.sigs[k].val] else []) := by
  unfold goodL
  rw [List.take_succ_eq_append_getElem hk, List.filter_append, List.map_append]
  congr 1
  by_cases h : goodS x x.sigs[k] <;> simp [h]
theorem goodL_len (x : CommitT) (k : Nat) : (goodL x k).length ≤ k := by
  unfold goodL
  rw [List.length_map]
  refine Nat.le_trans (List.length_filter_le _ _) ?_
  rw [List.length_take]
  omega
theorem good_in {x : CommitT} {s : SigT} (h : goodS x s = true) : 1 ≤ s.val ∧ s.val ≤ 99 := by
  unfold goodS signedB voteOkB at h
  simp only [Bool.and_eq_true] at h
  have := inB_true h.1.2
  omega
theorem good_compact (x : CommitT) : Lib.compact (sortI (goodL x x.sigs.length)) = upTo (comHas x) 99 := by
  refine sort_compact _ _ _ (fun v => ?_)
  unfold goodL comHas
  rw [List.take_length, List.mem_map]
  constructor
  · rintro ⟨s, hs, rfl⟩
    rw [List.mem_filter] at hs
    have := good_in hs.2
    refine ⟨this.1, by omega, List.any_eq_true.2 ⟨s, hs.1, ?_⟩⟩
    unfold comHit
    rw [Bool.and_eq_true]
    exact ⟨by simp, hs.2⟩
  · rintro ⟨_, _, h⟩
    obtain ⟨s, hs, h2⟩ := List.any_eq_true.1 h
    unfold comHit at h2
    rw [Bool.and_eq_true, decide_eq_true_eq] at h2
    obtain ⟨rfl, h3⟩ := h2
    exact ⟨s, List.mem_filter.2 ⟨hs, h3⟩, rfl⟩
/-- The inner loop of the reference: one of the first k signatures. -/
def hitL (x : CommitT) (v : Int) (k : Nat) : Bool := (x.sigs.take k).any (comHit x v)
theorem hitL_zero (x : CommitT) (v : Int) : hitL x v 0 = false := by simp [hitL]
theorem hitL_succ (x : CommitT) (v : Int) (k : Nat) (hk : k < x.sigs.length) : hitL x v (k + 1) = (hitL x v k || comHit x v x.sigs[k]) := by
  unfold hitL
  rw [List.take_succ_eq_append_getElem hk, List.any_append]
  simp
theorem hitL_all (x : CommitT) (v : Int) : hitL x v x.sigs.length = comHas x v := by unfold hitL comHas; rw [List.take_length]
end Go.Proofs.YtecimgkgdpnaeaaDoor
