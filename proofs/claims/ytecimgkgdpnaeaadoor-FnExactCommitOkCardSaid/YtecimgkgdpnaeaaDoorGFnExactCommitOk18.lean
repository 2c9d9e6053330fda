/-
  Texts of this proof, laid into one: Sg1, Sig1, ComV0, CVi.
-/
import Derived.Test.YtecimgkgdpnaeaaDoorGFnExactCommitOk17
import Derived.Test.YtecimgkgdpnaeaaDoorGFnExactCommitOk8
import Derived.Deep.RegionHeld3
import Derived.Deep.RegionWith
import Derived.Test.YtecimgkgdpnaeaaDoorGFnExactCommitOk9
import Derived.Test.YtecimgkgdpnaeaaDoorGFnExactCommitOk10
import Derived.Test.YtecimgkgdpnaeaaDoorGFnExactCommitOk0
import Derived.Test.YtecimgkgdpnaeaaDoorGFnExactCommitOk3
/-
  SignAs: both sides.
-/
namespace Go.Proofs.YtecimgkgdpnaeaaDoor
open Go.ChangeShapes Go.WideShapes Go.ChangeAt Go.RowKit
set_option linter.unusedVariables false
set_option linter.unusedSimpArgs false
set_option maxRecDepth 100000

/-! SignAs. -/
theorem sSignAs_any (v : Int) (d : List UInt8) (w : World) (hl : d.length ≤ 4194000) :
    Calls Tryd.prog 95 #[.int .i64 v, .string (S d)] w fun e w' => e = .returned (.string (S (signAsS v d))) ∧ Below w.heap.size w w' := by
  have hb := Below.refl w.heap.size w
  by_cases h1 : inB v 1 99 = true
  · have HV : Hid (signAsS v d = shortS (4 :: (fixedS v 2 ++ d))) := by unfold Hid signAsS; rw [h1]; rfl
    obtain ⟨b1, b2⟩ := inB_true h1
    have hS := S_cons1 4 (fixedS v 2)
    have hfl : (fixedS v 2).length ≤ 7 := by unfold fixedS; split <;> simp
    have HF := Lib.hid fun W : World => sFixed_any v 2 W (by omega)
    have HSH := Lib.hid fun W : World => sShort_any (4 :: (fixedS v 2 ++ d)) W (by simp; omega)
    generalize fixedS v 2 = f at *
    go_enter Tryd.func95, Tryd.ntmps95
    go_wp2_with (first | (go_at_call 58; refine (l1In_b _ _ _ _).mono ?_; rintro e w' ⟨rfl, rfl⟩) | (go_at_call 115; refine (HF.out _).mono ?_; rintro e wn ⟨rfl, hbn⟩; have hb := Below.next (w := w) (by repeat (first | with_reducible exact hb | with_reducible exact Below.refl _ _ | refine Below.drew ?_ | refine Below.setCell ?_ (by simp <;> omega) _ | refine Below.alloc ?_ (by simp <;> omega) _)) hbn; clear hbn) | (go_at_call 64; refine (HSH.out _).mono ?_; rintro e wn ⟨rfl, hbn⟩; have hb := Below.next (w := w) (by repeat (first | with_reducible exact hb | with_reducible exact Below.refl _ _ | refine Below.drew ?_ | refine Below.setCell ?_ (by simp <;> omega) _ | refine Below.alloc ?_ (by simp <;> omega) _)) hbn; clear hbn))
    go_ret
    exact ⟨ret_string (by rw [HV.out]), hb⟩
  · have h1' : inB v 1 99 = false := by simpa using h1
    have HV : Hid (signAsS v d = []) := by unfold Hid signAsS; rw [h1']; rfl
    clear h1
    go_enter Tryd.func95, Tryd.ntmps95
    go_wp2_with (go_at_call 58; refine (l1In_b _ _ _ _).mono ?_; rintro e w' ⟨rfl, rfl⟩)
    go_ret
    exact ⟨ret_string (by rw [HV.out]; rfl), hb⟩
theorem isVal_in (x : Int) (w : World) :
    Calls Tryd.prog 57 #[.int .i64 x] w fun e w' => e = .returned (.bool (inB x 1 99)) ∧ w = w' := by
  go_enter Tryd.func57, Tryd.ntmps57
  go_wp2_with (go_at_call 55; refine (within_b _ _ _ _).mono ?_; rintro e w' ⟨rfl, rfl⟩)
  go_ret
  exact ⟨rfl, rfl⟩
theorem iSignAs_any (v : Int) (d : List UInt8) (w : World) (hl : d.length ≤ 4194000) (hK : HasK w) :
    Calls Tryd.prog 99 #[.int .i64 v, .string (S d)] w fun e w' => e = .returned (.string (S (signAsS v d))) ∧ Below w.heap.size w w' := by
  have hb := Below.refl w.heap.size w
  have HK := Lib.hid hK
  clear hK
  by_cases h1 : inB v 1 99 = true
  · have HV : Hid (signAsS v d = shortS (4 :: (fixedS v 2 ++ d))) := by unfold Hid signAsS; rw [h1]; rfl
    obtain ⟨b1, b2⟩ := inB_true h1
    have hS := S_cons1 4 (fixedS v 2)
    have hfl : (fixedS v 2).length ≤ 7 := by unfold fixedS; split <;> simp
    have HF := Lib.hid fun W : World => iFixed_any v 2 W (by omega)
    have HSH := Lib.hid fun (W : World) (h : HasK W) => iShort_any (4 :: (fixedS v 2 ++ d)) W (by simp; omega) h
    generalize fixedS v 2 = f at *
    go_enter Tryd.func99, Tryd.ntmps99
    go_wp2_with (first | (go_at_call 57; refine (isVal_in _ _).mono ?_; rintro e w' ⟨rfl, rfl⟩) | (go_at_call 111; refine (HF.out _).mono ?_; rintro e wn ⟨rfl, hbn⟩; have hb := Below.next (w := w) (by repeat (first | with_reducible exact hb | with_reducible exact Below.refl _ _ | refine Below.drew ?_ | refine Below.setCell ?_ (by simp <;> omega) _ | refine Below.alloc ?_ (by simp <;> omega) _)) hbn; clear hbn) | (go_at_call 63; refine (HSH.out _ (HK.out.to hb)).mono ?_; rintro e wn ⟨rfl, hbn⟩; have hb := Below.next (w := w) (by repeat (first | with_reducible exact hb | with_reducible exact Below.refl _ _ | refine Below.drew ?_ | refine Below.setCell ?_ (by simp <;> omega) _ | refine Below.alloc ?_ (by simp <;> omega) _)) hbn; clear hbn))
    go_ret
    exact ⟨ret_string (by rw [HV.out]), hb⟩
  · have h1' : inB v 1 99 = false := by simpa using h1
    have HV : Hid (signAsS v d = []) := by unfold Hid signAsS; rw [h1']; rfl
    clear h1
    go_enter Tryd.func99, Tryd.ntmps99
    go_wp2_with (go_at_call 57; refine (isVal_in _ _).mono ?_; rintro e w' ⟨rfl, rfl⟩)
    go_ret
    exact ⟨ret_string (by rw [HV.out]; rfl), hb⟩
end Go.Proofs.YtecimgkgdpnaeaaDoor

/-
  Signed, both sides.
-/
namespace Go.Proofs.YtecimgkgdpnaeaaDoor
open Go.ChangeShapes Go.WideShapes Go.ChangeAt Go.RowKit
set_option linter.unusedVariables false
set_option linter.unusedSimpArgs false
set_option maxRecDepth 100000

/-- What Signed returns. -/
def signedB (x : VoteT) (sig : List UInt8) : Bool := voteOkB x && sig == signAsS x.v (digestS x)
theorem digestS_len (x : VoteT) : (digestS x).length ≤ 60 := by
  unfold digestS
  cases hok : voteOkB x
  · simp
  · have q1 := varS_len x.h
    have q2 := varS_len x.r
    have q3 := varS_len x.s
    have hil : x.id.length ≤ 8 := by
      unfold voteOkB at hok
      simp only [Bool.and_eq_true] at hok
      have := hok.1.2
      unfold isIdB at this
      simp only [Bool.or_eq_true, beq_iff_eq] at this
      omega
    simp only [if_true, List.length_append]
    omega
/-- Five cells of block B are held over a call that makes memory. -/
theorem held5 {w cur wm : World} {B : Nat} {u0 u1 u2 u3 u4 : Value}
    (H : Below w.heap.size w cur ∧ B < cur.heap.size ∧ cur.cell? ⟨B, 0, none⟩ = some u0 ∧ cur.cell? ⟨B, 1, none⟩ = some u1 ∧ cur.cell? ⟨B, 2, none⟩ = some u2 ∧ cur.cell? ⟨B, 3, none⟩ = some u3 ∧ cur.cell? ⟨B, 4, none⟩ = some u4) (hb : Below cur.heap.size cur wm) :
    Below w.heap.size w wm ∧ B < wm.heap.size ∧ wm.cell? ⟨B, 0, none⟩ = some u0 ∧ wm.cell? ⟨B, 1, none⟩ = some u1 ∧ wm.cell? ⟨B, 2, none⟩ = some u2 ∧ wm.cell? ⟨B, 3, none⟩ = some u3 ∧ wm.cell? ⟨B, 4, none⟩ = some u4 := by
  obtain ⟨h1, h2, c0, c1, c2, c3, c4⟩ := H
  have k : ∀ i, wm.cell? ⟨B, i, none⟩ = cur.cell? ⟨B, i, none⟩ := fun i => hb.cell (p := ⟨B, i, none⟩) h2
  exact ⟨Below.next h1 hb, Nat.lt_of_lt_of_le h2 hb.size, (k 0).trans c0, (k 1).trans c1, (k 2).trans c2, (k 3).trans c3, (k 4).trans c4⟩

set_option maxHeartbeats 1600000 in
theorem iSigned_any (x : VoteT) (sig : List UInt8) (w : World) (hl : x.id.length ≤ 9223372036854775807) (hK : HasK w) :
    Calls Tryd.prog 68 #[x.val, .string (S sig)] w fun e w' => e = .returned (.bool (signedB x sig)) ∧ Below w.heap.size w w' := by
  have HK := Lib.hid hK
  clear hK
  have HO := Lib.hid fun (W : World) => iVoteOk_any x W hl
  have HD := Lib.hid fun (W : World) => iDigest_any x W hl
  have HS := Lib.hid fun (W : World) (h : HasK W) => iSignAs_any x.v (digestS x) W (by have := digestS_len x; omega) h
  have HV : Hid (signedB x sig = (voteOkB x && sig == signAsS x.v (digestS x))) := rfl
  generalize signAsS x.v (digestS x) = g at *
  generalize digestS x = d at *
  generalize signedB x sig = R at *
  generalize voteOkB x = ok at *
  obtain ⟨h, r, s, id, v⟩ := x
  have hv : VoteT.val ⟨h, r, s, id, v⟩ = .agg #[.int .i64 h, .int .i64 r, .int .i64 s, .string (S id), .int .i64 v] := rfl
  simp only [hv] at HO HD HS hl ⊢
  cases ok
  · go_enter Tryd.func68, Tryd.ntmps68
    go_wp2_with fail
    first | go_region_with (go_at_call 98; refine (HO.out _).mono ?_; rintro e wm ⟨rfl, hbm⟩) | fail
    all_goals
      have hbx : Below w.heap.size w wm := Below.next (((Below.refl _ _).alloc (Nat.le_refl _) _).drew) hbm
      go_wp2
      go_ret
      exact ⟨ret_bool (by rw [HV.out]; rfl), hbx⟩
  · by_cases hs : sig = g
    · have hbe : (sig == g) = true := by rw [hs]; simp
      clear hs
      go_enter Tryd.func68, Tryd.ntmps68
      go_wp2_with fail
      go_region_held3 (fun w' => Below w.heap.size w w' ∧ w.heap.size < w'.heap.size ∧ w'.cell? ⟨w.heap.size, 0, none⟩ = some (.int .i64 h) ∧ w'.cell? ⟨w.heap.size, 1, none⟩ = some (.int .i64 r) ∧ w'.cell? ⟨w.heap.size, 2, none⟩ = some (.int .i64 s) ∧ w'.cell? ⟨w.heap.size, 3, none⟩ = some (.string (S id)) ∧ w'.cell? ⟨w.heap.size, 4, none⟩ = some (.int .i64 v)) (first | exact ⟨((Below.refl _ _).alloc (Nat.le_refl _) _).drew, by simp, by go_simp, by go_simp, by go_simp, by go_simp, by go_simp⟩ | exact held5 (by assumption) hbm | go_keep)
        (first | (go_at_call 98; refine (HO.out _).mono ?_; rintro e wm ⟨rfl, hbm⟩) | (go_at_call 100; refine (HD.out _).mono ?_; rintro e wm ⟨rfl, hbm⟩) | (go_at_call 99; refine (HS.out _ (HK.out.to (And.left (by assumption)))).mono ?_; rintro e wm ⟨rfl, hbm⟩))
      all_goals
        have hbx : Below w.heap.size w wm := by apply And.left; assumption
        go_wp2
        go_ret
        exact ⟨ret_bool (by rw [HV.out, hbe]; rfl), hbx⟩
    · have hbe : (sig == g) = false := by simpa using hs
      clear hs
      go_enter Tryd.func68, Tryd.ntmps68
      go_wp2_with fail
      go_region_held3 (fun w' => Below w.heap.size w w' ∧ w.heap.size < w'.heap.size ∧ w'.cell? ⟨w.heap.size, 0, none⟩ = some (.int .i64 h) ∧ w'.cell? ⟨w.heap.size, 1, none⟩ = some (.int .i64 r) ∧ w'.cell? ⟨w.heap.size, 2, none⟩ = some (.int .i64 s) ∧ w'.cell? ⟨w.heap.size, 3, none⟩ = some (.string (S id)) ∧ w'.cell? ⟨w.heap.size, 4, none⟩ = some (.int .i64 v)) (first | exact ⟨((Below.refl _ _).alloc (Nat.le_refl _) _).drew, by simp, by go_simp, by go_simp, by go_simp, by go_simp, by go_simp⟩ | exact held5 (by assumption) hbm | go_keep)
        (first | (go_at_call 98; refine (HO.out _).mono ?_; rintro e wm ⟨rfl, hbm⟩) | (go_at_call 100; refine (HD.out _).mono ?_; rintro e wm ⟨rfl, hbm⟩) | (go_at_call 99; refine (HS.out _ (HK.out.to (And.left (by assumption)))).mono ?_; rintro e wm ⟨rfl, hbm⟩))
      all_goals
        have hbx : Below w.heap.size w wm := by apply And.left; assumption
        go_wp2
        go_ret
        exact ⟨ret_bool (by rw [HV.out, hbe]; rfl), hbx⟩


set_option maxHeartbeats 1600000 in
theorem sSigned_any (x : VoteT) (sig : List UInt8) (w : World) (hl : x.id.length ≤ 9223372036854775807) :
    Calls Tryd.prog 66 #[x.val, .string (S sig)] w fun e w' => e = .returned (.bool (signedB x sig)) ∧ Below w.heap.size w w' := by
  have HO := Lib.hid fun (W : World) => sVoteOk_any x W hl
  have HD := Lib.hid fun (W : World) => sDigest_any x W hl
  have HS := Lib.hid fun (W : World) => sSignAs_any x.v (digestS x) W (by have := digestS_len x; omega)
  have HV : Hid (signedB x sig = (voteOkB x && sig == signAsS x.v (digestS x))) := rfl
  generalize signAsS x.v (digestS x) = g at *
  generalize digestS x = d at *
  generalize signedB x sig = R at *
  generalize voteOkB x = ok at *
  obtain ⟨h, r, s, id, v⟩ := x
  have hv : VoteT.val ⟨h, r, s, id, v⟩ = .agg #[.int .i64 h, .int .i64 r, .int .i64 s, .string (S id), .int .i64 v] := rfl
  simp only [hv] at HO HD HS hl ⊢
  cases ok
  · go_enter Tryd.func66, Tryd.ntmps66
    go_wp2_with fail
    first | go_region_with (go_at_call 59; refine (HO.out _).mono ?_; rintro e wm ⟨rfl, hbm⟩) | fail
    all_goals
      have hbx : Below w.heap.size w wm := Below.next (((Below.refl _ _).alloc (Nat.le_refl _) _).drew) hbm
      go_wp2
      go_ret
      exact ⟨ret_bool (by rw [HV.out]; rfl), hbx⟩
  · by_cases hs : sig = g
    · have hbe : (sig == g) = true := by rw [hs]; simp
      clear hs
      go_enter Tryd.func66, Tryd.ntmps66
      go_wp2_with fail
      go_region_held3 (fun w' => Below w.heap.size w w' ∧ w.heap.size < w'.heap.size ∧ w'.cell? ⟨w.heap.size, 0, none⟩ = some (.int .i64 h) ∧ w'.cell? ⟨w.heap.size, 1, none⟩ = some (.int .i64 r) ∧ w'.cell? ⟨w.heap.size, 2, none⟩ = some (.int .i64 s) ∧ w'.cell? ⟨w.heap.size, 3, none⟩ = some (.string (S id)) ∧ w'.cell? ⟨w.heap.size, 4, none⟩ = some (.int .i64 v)) (first | exact ⟨((Below.refl _ _).alloc (Nat.le_refl _) _).drew, by simp, by go_simp, by go_simp, by go_simp, by go_simp, by go_simp⟩ | exact held5 (by assumption) hbm | go_keep)
        (first | (go_at_call 59; refine (HO.out _).mono ?_; rintro e wm ⟨rfl, hbm⟩) | (go_at_call 96; refine (HD.out _).mono ?_; rintro e wm ⟨rfl, hbm⟩) | (go_at_call 95; refine (HS.out _).mono ?_; rintro e wm ⟨rfl, hbm⟩))
      all_goals
        have hbx : Below w.heap.size w wm := by apply And.left; assumption
        go_wp2
        go_ret
        exact ⟨ret_bool (by rw [HV.out, hbe]; rfl), hbx⟩
    · have hbe : (sig == g) = false := by simpa using hs
      clear hs
      go_enter Tryd.func66, Tryd.ntmps66
      go_wp2_with fail
      go_region_held3 (fun w' => Below w.heap.size w w' ∧ w.heap.size < w'.heap.size ∧ w'.cell? ⟨w.heap.size, 0, none⟩ = some (.int .i64 h) ∧ w'.cell? ⟨w.heap.size, 1, none⟩ = some (.int .i64 r) ∧ w'.cell? ⟨w.heap.size, 2, none⟩ = some (.int .i64 s) ∧ w'.cell? ⟨w.heap.size, 3, none⟩ = some (.string (S id)) ∧ w'.cell? ⟨w.heap.size, 4, none⟩ = some (.int .i64 v)) (first | exact ⟨((Below.refl _ _).alloc (Nat.le_refl _) _).drew, by simp, by go_simp, by go_simp, by go_simp, by go_simp, by go_simp⟩ | exact held5 (by assumption) hbm | go_keep)
        (first | (go_at_call 59; refine (HO.out _).mono ?_; rintro e wm ⟨rfl, hbm⟩) | (go_at_call 96; refine (HD.out _).mono ?_; rintro e wm ⟨rfl, hbm⟩) | (go_at_call 95; refine (HS.out _).mono ?_; rintro e wm ⟨rfl, hbm⟩))
      all_goals
        have hbx : Below w.heap.size w wm := by apply And.left; assumption
        go_wp2
        go_ret
        exact ⟨ret_bool (by rw [HV.out, hbe]; rfl), hbx⟩
end Go.Proofs.YtecimgkgdpnaeaaDoor

/-
  Who has signed a commit. No program in sight.
-/
namespace Go.Proofs.YtecimgkgdpnaeaaDoor
set_option linter.unusedVariables false
set_option linter.unusedSimpArgs false

def goodS (x : CommitT) (s : SigT) : Bool := signedB ⟨x.h, x.r, 2, x.id, s.val⟩ s.sig
def comHit (x : CommitT) (v : Int) (s : SigT) : Bool := decide (s.val = v) && signedB ⟨x.h, x.r, 2, x.id, v⟩ s.sig
def comHas (x : CommitT) (v : Int) : Bool := x.sigs.any (comHit x v)
/-- What CommitVals returns. -/
def comValsS (x : CommitT) : List Int := if 12 < x.sigs.length then [] else upTo (comHas x) 99
theorem comVals_no {x : CommitT} (h : 12 < x.sigs.length) : comValsS x = [] := by unfold comValsS; rw [if_pos h]
theorem comVals_yes {x : CommitT} (h : x.sigs.length ≤ 12) : comValsS x = upTo (comHas x) 99 := by unfold comValsS; rw [if_neg (by omega)]
theorem comVals_len (x : CommitT) : (comValsS x).length ≤ 99 := by
  unfold comValsS
  split
  · simp
  · exact upTo_len _ _
/-- Those of the first k signatures that hold. -/
def goodL (x : CommitT) (k : Nat) : List Int := ((x.sigs.take k).filter (goodS x)).map fun s => s.val
theorem goodL_zero (x : CommitT) : goodL x 0 = [] := by simp [goodL]
theorem goodL_succ (x : CommitT) (k : Nat) (hk : k < x.sigs.length) : goodL x (k + 1) = goodL x k ++ (if goodS x x.sigs[k] then [x.sigs[k].val] else []) := by
  unfold goodL
  rw [List.take_succ_eq_append_getElem hk, List.filter_append, List.map_append]
  congr 1
  by_cases h : goodS x x.sigs[k] <;> simp [h]
theorem goodL_len (x : CommitT) (k : Nat) : (goodL x k).length ≤ k := by
  unfold goodL
  rw [List.length_map]
  refine Nat.le_trans (List.length_filter_le _ _) ?_
  rw [List.length_take]
  omega
theorem good_in {x : CommitT} {s : SigT} (h : goodS x s = true) : 1 ≤ s.val ∧ s.val ≤ 99 := by
  unfold goodS signedB voteOkB at h
  simp only [Bool.and_eq_true] at h
  have := inB_true h.1.2
  omega
theorem good_compact (x : CommitT) : Lib.compact (sortI (goodL x x.sigs.length)) = upTo (comHas x) 99 := by
  refine sort_compact _ _ _ (fun v => ?_)
  unfold goodL comHas
  rw [List.take_length, List.mem_map]
  constructor
  · rintro ⟨s, hs, rfl⟩
    rw [List.mem_filter] at hs
    have := good_in hs.2
    refine ⟨this.1, by omega, List.any_eq_true.2 ⟨s, hs.1, ?_⟩⟩
    unfold comHit
    rw [Bool.and_eq_true]
    exact ⟨by simp, hs.2⟩
  · rintro ⟨_, _, h⟩
    obtain ⟨s, hs, h2⟩ := List.any_eq_true.1 h
    unfold comHit at h2
    rw [Bool.and_eq_true, decide_eq_true_eq] at h2
    obtain ⟨rfl, h3⟩ := h2
    exact ⟨s, List.mem_filter.2 ⟨hs, h3⟩, rfl⟩
/-- The inner loop of the reference: one of the first k signatures. -/
def hitL (x : CommitT) (v : Int) (k : Nat) : Bool := (x.sigs.take k).any (comHit x v)
theorem hitL_zero (x : CommitT) (v : Int) : hitL x v 0 = false := by simp [hitL]
theorem hitL_succ (x : CommitT) (v : Int) (k : Nat) (hk : k < x.sigs.length) : hitL x v (k + 1) = (hitL x v k || comHit x v x.sigs[k]) := by
  unfold hitL
  rw [List.take_succ_eq_append_getElem hk, List.any_append]
  simp
theorem hitL_all (x : CommitT) (v : Int) : hitL x v x.sigs.length = comHas x v := by unfold hitL comHas; rw [List.take_length]
end Go.Proofs.YtecimgkgdpnaeaaDoor

/-
  impl.CommitVals.
-/
namespace Go.Proofs.YtecimgkgdpnaeaaDoor
open Go.ChangeShapes Go.WideShapes Go.ChangeAt Go.RowKit
set_option linter.unusedVariables false
set_option linter.unusedSimpArgs false
set_option maxRecDepth 100000

theorem infoInt : (Tryd.prog.info? 3).map (fun i => (i.zero, i.size, i.bytes)) = some (some (.int .i64 0), 1, 8) := by kernel_rfl
theorem one_cell_i (a : Int) : ∀ u ∈ (#[Value.int .i64 a] : Array Value).toList, u.oneCell' = true := by
  intro u hu; simp at hu; subst hu; rfl

set_option maxHeartbeats 2000000 in
theorem iCommitVals_any (x : CommitT) (A : Option Addr) (c : Nat) (w : World) (hid : x.id.length ≤ 9223372036854775807) (hn : x.sigs.length ≤ 9223372036854775807) (hsl : ∀ s ∈ x.sigs, s.sig.length ≤ 9223372036854775807) (hR : SReads w w.heap.size A x.sigs) (hK : HasK w) :
    Calls Tryd.prog 25 #[.agg #[.int .i64 x.h, .int .i64 x.r, .string (S x.id), .slice A x.sigs.length c]] w fun e w' => ∃ (A' : Option Addr) (c' : Nat), e = .returned (.slice A' (comValsS x).length c') ∧ w'.ownsRow w.heap.size 3 1 (.slice A' (comValsS x).length c') (comValsS x).length ((comValsS x).map iv) ∧ Below w.heap.size w w' := by
  obtain ⟨i0, hi, hzA, hzB, hzC⟩ := info_parts infoInt
  by_cases h12 : 12 < x.sigs.length
  · have HV := Lib.hid (comVals_no h12)
    obtain ⟨h, r, id, l⟩ := x
    simp only at h12 ⊢
    have h12i : 12 < (l.length : Int) := by omega
    rw [HV.out]
    have hb0 := (Below.refl w.heap.size w).alloc (Nat.le_refl _) (.cells #[.int .i64 h, .int .i64 r, .string (S id), .slice A l.length c] 33)
    clear hR hsl hK
    go_enter Tryd.func25, Tryd.ntmps25
    go_wp2
    go_ret
    exact ⟨none, 0, rfl, own_nil _ _ _ _, hb0⟩
  · have HV := Lib.hid (comVals_yes (x := x) (by omega))
    have HGC := Lib.hid (good_compact x)
    rw [← HV.out] at HGC
    have HG0 := Lib.hid (goodL_zero x)
    have HGS := Lib.hid (goodL_succ x)
    have HGL := Lib.hid (goodL_len x)
    have HSG : Hid (∀ (W : World) (s : SigT), s.sig.length ≤ 9223372036854775807 → HasK W → Calls Tryd.prog 68 #[.agg #[.int .i64 x.h, .int .i64 x.r, .int .i64 2, .string (S x.id), .int .i64 s.val], .string (S s.sig)] W fun e w' => e = .returned (.bool (goodS x s)) ∧ Below W.heap.size W w') := fun W s hs hk => iSigned_any ⟨x.h, x.r, 2, x.id, s.val⟩ s.sig W hid hk
    generalize goodS x = gd at *
    generalize goodL x = G at *
    generalize comValsS x = V at *
    clear HV
    obtain ⟨h, r, id, l⟩ := x
    simp only at *
    have h12i : ¬ 12 < (l.length : Int) := by omega
    have HR := Lib.hid hR
    have HK := Lib.hid hK
    have HSL := Lib.hid hsl
    have hb0 := (Below.refl w.heap.size w).alloc (Nat.le_refl _) (.cells #[.int .i64 h, .int .i64 r, .string (S id), .slice A l.length c] 33)
    have hz : (w.alloc (.cells #[.int .i64 h, .int .i64 r, .string (S id), .slice A l.length c] 33)).heap.size = w.heap.size + 1 := by simp
    have e0 : (w.alloc (.cells #[.int .i64 h, .int .i64 r, .string (S id), .slice A l.length c] 33)).cell? ⟨w.heap.size, 0, none⟩ = some (.int .i64 h) := by go_simp
    have e1 : (w.alloc (.cells #[.int .i64 h, .int .i64 r, .string (S id), .slice A l.length c] 33)).cell? ⟨w.heap.size, 1, none⟩ = some (.int .i64 r) := by go_simp
    have e2 : (w.alloc (.cells #[.int .i64 h, .int .i64 r, .string (S id), .slice A l.length c] 33)).cell? ⟨w.heap.size, 2, none⟩ = some (.string (S id)) := by go_simp
    clear hR hsl hK
    go_enter Tryd.func25, Tryd.ntmps25
    go_wp2_with fail
    generalize w.alloc (.cells #[.int .i64 h, .int .i64 r, .string (S id), .slice A l.length c] 33) = W0 at *
    have HO : Hid ((W0.alloc (.cells #[] 3)).ownsRow W0.heap.size 3 1 (.slice (some ⟨w.heap.size + 1, 0, none⟩) 0 0) 0 ((G 0).map iv)) := by
      rw [HG0.out]
      rw [← hz]
      exact World.ownsRow_lit (e := 3) (size := 1) (base := W0.heap.size) W0 #[] 0 (Nat.le_refl _) (by simp [maxLen]) rfl
    have HB0 := Lib.hid ((Below.refl W0.heap.size W0).alloc (Nat.le_refl _) (.cells #[] 3))
    have HBW := Lib.hid hb0
    clear hb0
    go_loopw [3, 14] (fun out i wr => ∃ k : Nat, k ≤ l.length ∧ i = .int .i64 (k : Int) ∧ wr.ownsRow W0.heap.size 3 1 out (G k).length ((G k).map iv) ∧ Below W0.heap.size W0 wr) (fun _ i _ => l.length - (intOf i).toNat)
    case atStart => exact ⟨0, by omega, rfl, by have := HO.out; rw [HG0.out] at this ⊢; exact this, HB0.out⟩
    case round =>
      obtain ⟨k, hk, rfl, hown, hb⟩ := hrel
      have hki : 0 ≤ (k : Int) ∧ (k : Int) ≤ l.length := by omega
      obtain ⟨Ao, co, rfl⟩ := own_slice hown
      have hbw := Below.next HBW.out hb
      have hz1 := hb.size
      have hwl : w.heap.size < wr.heap.size := by omega
      by_cases hlt : k < l.length
      · have hlti : (k : Int) < l.length := by omega
        obtain ⟨b, off, rfl, hbB, hc⟩ := HR.out.to hbw (by omega)
        obtain ⟨c0, c1⟩ := hc k hlt
        have hgk := HGL.out k
        have hgs := HGS.out k hlt
        have hsg := HSL.out l[k] (List.getElem_mem hlt)
        have f0 := (hb.cell (p := ⟨w.heap.size, 0, none⟩) (by show w.heap.size < W0.heap.size; omega)).trans e0
        have f1 := (hb.cell (p := ⟨w.heap.size, 1, none⟩) (by show w.heap.size < W0.heap.size; omega)).trans e1
        have f2 := (hb.cell (p := ⟨w.heap.size, 2, none⟩) (by show w.heap.size < W0.heap.size; omega)).trans e2
        have HS1 := Lib.hid fun (W : World) (hk : HasK W) => HSG.out W l[k] hsg hk
        have HOWN := Lib.hid hown
        have HB := Lib.hid hb
        have HW := Lib.hid hbw
        have HGK := Lib.hid hgs
        clear hc hown hb hgs
        generalize l[k] = g at *
        obtain ⟨gv, gs⟩ := g
        simp only at c0 c1 hsg HGK HS1
        generalize gd ⟨gv, gs⟩ = ok at *
        go_wp2_with fail
        refine (HS1.out _ (HK.out.to ((HW.out).alloc HW.out.size _))).mono ?_
        rintro e w5 ⟨rfl, b5⟩
        have d0 : w5.cell? ⟨wr.heap.size, 0, none⟩ = some (.int .i64 gv) := by rw [b5.cell (p := ⟨wr.heap.size, 0, none⟩) (by simp)]; go_simp
        have o5 := own_below (HOWN.out.alloc (.cells #[.int .i64 gv, .string (S gs)] 85)) b5
        have hb5 : Below W0.heap.size W0 w5 := Below.next (HB.out.alloc HB.out.size _) b5
        have hz5 := hb5.size
        clear b5 f0 f1 f2 c0 c1 hbw
        cases hok : ok
        · rw [hok] at HGK
          go_wp2_with fail
          go_roundw
          case rel => exact ⟨k + 1, by omega, by go_num, by rw [HGK.out]; simpa using o5, hb5⟩
          case measure => simp [intOf]; omega
        · rw [hok, if_pos rfl] at HGK
          go_wp2_with (at_builtin; refine app_low rfl _ _ 43 rfl Tryd.underlying43 hi hzA hzB hzC rfl (by decide) rfl o5 (by omega) rfl rfl rfl (one_cell_i _) (by unfold maxLen; omega) (by omega) ?_; intro v1 w6 hown1 hlow)
          go_roundw
          case rel => exact ⟨k + 1, by omega, by go_num, by rw [HGK.out, List.length_append, List.length_singleton, List.map_append]; exact hown1, hb5.trans hlow⟩
          case measure => simp [intOf]; omega
      · have hkl : Hid (k = l.length) := by unfold Hid; omega
        have hgk := HGL.out k
        have HB := Lib.hid hb
        have HW := Lib.hid hbw
        have HOWN := Lib.hid hown
        clear hown hb hbw
        go_wp2_with fail
        refine (sort_ints HOWN.out (by omega) hz1).mono ?_
        rintro e w6 ⟨rfl, o6, b6⟩
        go_wp2_with fail
        refine (compact_ints o6 (by omega) (Nat.le_trans hz1 b6.size)).mono ?_
        rintro e w7 ⟨rfl, o7, b7⟩
        have hfin : Below w.heap.size w w7 := (HW.out.trans (b6.mono (by omega))).trans (b7.mono (by omega))
        rw [hkl.out, HGC.out] at o7 ⊢
        go_wp2
        go_ret
        exact ⟨_, _, rfl, own_base o7 (by omega), hfin⟩
end Go.Proofs.YtecimgkgdpnaeaaDoor
