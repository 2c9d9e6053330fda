/-
  Signed, both sides.
-/
import Derived.Test.YtnmgecaflildoaaDoorSg1
import Derived.Test.YtnmgecaflildoaaDoorDig1
import Derived.Deep.RegionHeld3
import Derived.Deep.RegionWith
namespace Go.Proofs.YtnmgecaflildoaaDoor
open Go.ChangeShapes Go.WideShapes Go.ChangeAt Go.RowKit
set_option linter.unusedVariables false
set_option linter.unusedSimpArgs false
set_option maxRecDepth 100000

/-- What Signed returns. -/
def signedB (x : VoteT) (sig : List UInt8) : Bool := voteOkB x && sig == signAsS x.v (digestS x)
theorem digestS_len (x : VoteT) : (digestS x).length ≤ 60 := by
  unfold digestS
  cases hok : voteOkB x
  · simp
  · have q1 := varS_len x.h
    have q2 := varS_len x.r
    have q3 := varS_len x.s
    have hil : x.id.length ≤ 8 := by
      unfold voteOkB at hok
      simp only [Bool.and_eq_true] at hok
      have := hok.1.2
      unfold isIdB at this
      simp only [Bool.or_eq_true, beq_iff_eq] at this
      omega
    simp only [if_true, List.length_append]
    omega
/-- Five cells of block B are held over a call that makes memory. -/
theorem held5 {w cur wm : World} {B : Nat} {u0 u1 u2 u3 u4 : Value}
    (H : Below w.heap.size w cur ∧ B < cur.heap.size ∧ cur.cell? ⟨B, 0, none⟩ = some u0 ∧ cur.cell? ⟨B, 1, none⟩ = some u1 ∧ cur.cell? ⟨B, 2, none⟩ = some u2 ∧ cur.cell? ⟨B, 3, none⟩ = some u3 ∧ cur.cell? ⟨B, 4, none⟩ = some u4) (hb : Below cur.heap.size cur wm) :
    Below w.heap.size w wm ∧ B < wm.heap.size ∧ wm.cell? ⟨B, 0, none⟩ = some u0 ∧ wm.cell? ⟨B, 1, none⟩ = some u1 ∧ wm.cell? ⟨B, 2, none⟩ = some u2 ∧ wm.cell? ⟨B, 3, none⟩ = some u3 ∧ wm.cell? ⟨B, 4, none⟩ = some u4 := by
  obtain ⟨h1, h2, c0, c1, c2, c3, c4⟩ := H
  have k : ∀ i, wm.cell? ⟨B, i, none⟩ = cur.cell? ⟨B, i, none⟩ := fun i => hb.cell (p := ⟨B, i, none⟩) h2
  exact ⟨Below.next h1 hb, Nat.lt_of_lt_of_le h2 hb.size, (k 0).trans c0, (k 1).trans c1, (k 2).trans c2, (k 3).trans c3, (k 4).trans c4⟩

set_option maxHeartbeats 1600000 in
theorem iSigned_any (x : VoteT) (sig : List UInt8) (w : World) (hl : x.id.length ≤ 9223372036854775807) (hK : HasK w) :
    Calls Tryd.prog 7 #[x.val, .string (S sig)] w fun e w' => e = .returned (.bool (signedB x sig)) ∧ Below w.heap.size w w' := by
  have HK := Lib.hid hK
  clear hK
  have HO := Lib.hid fun (W : World) => iVoteOk_any x W hl
  have HD := Lib.hid fun (W : World) => iDigest_any x W hl
  have HS := Lib.hid fun (W : World) (h : HasK W) => iSignAs_any x.v (digestS x) W (by have := digestS_len x; omega) h
  have HV : Hid (signedB x sig = (voteOkB x && sig == signAsS x.v (digestS x))) := rfl
  generalize signAsS x.v (digestS x) = g at *
  generalize digestS x = d at *
  generalize signedB x sig = R at *
  generalize voteOkB x = ok at *
  obtain ⟨h, r, s, id, v⟩ := x
  have hv : VoteT.val ⟨h, r, s, id, v⟩ = .agg #[.int .i64 h, .int .i64 r, .int .i64 s, .string (S id), .int .i64 v] := rfl
  simp only [hv] at HO HD HS hl ⊢
  cases ok
  · go_enter Tryd.func7, Tryd.ntmps7
    go_wp2_with fail
    first | go_region_with (go_at_call 23; refine (HO.out _).mono ?_; rintro e wm ⟨rfl, hbm⟩) | fail
    all_goals
      have hbx : Below w.heap.size w wm := Below.next (((Below.refl _ _).alloc (Nat.le_refl _) _).drew) hbm
      go_wp2
      go_ret
      exact ⟨ret_bool (by rw [HV.out]; rfl), hbx⟩
  · by_cases hs : sig = g
    · have hbe : (sig == g) = true := by rw [hs]; simp
      clear hs
      go_enter Tryd.func7, Tryd.ntmps7
      go_wp2_with fail
      go_region_held3 (fun w' => Below w.heap.size w w' ∧ w.heap.size < w'.heap.size ∧ w'.cell? ⟨w.heap.size, 0, none⟩ = some (.int .i64 h) ∧ w'.cell? ⟨w.heap.size, 1, none⟩ = some (.int .i64 r) ∧ w'.cell? ⟨w.heap.size, 2, none⟩ = some (.int .i64 s) ∧ w'.cell? ⟨w.heap.size, 3, none⟩ = some (.string (S id)) ∧ w'.cell? ⟨w.heap.size, 4, none⟩ = some (.int .i64 v)) (first | exact ⟨((Below.refl _ _).alloc (Nat.le_refl _) _).drew, by simp, by go_simp, by go_simp, by go_simp, by go_simp, by go_simp⟩ | exact held5 (by assumption) hbm | go_keep)
        (first | (go_at_call 23; refine (HO.out _).mono ?_; rintro e wm ⟨rfl, hbm⟩) | (go_at_call 10; refine (HD.out _).mono ?_; rintro e wm ⟨rfl, hbm⟩) | (go_at_call 9; refine (HS.out _ (HK.out.to (And.left (by assumption)))).mono ?_; rintro e wm ⟨rfl, hbm⟩))
      all_goals
        have hbx : Below w.heap.size w wm := by apply And.left; assumption
        go_wp2
        go_ret
        exact ⟨ret_bool (by rw [HV.out, hbe]; rfl), hbx⟩
    · have hbe : (sig == g) = false := by simpa using hs
      clear hs
      go_enter Tryd.func7, Tryd.ntmps7
      go_wp2_with fail
      go_region_held3 (fun w' => Below w.heap.size w w' ∧ w.heap.size < w'.heap.size ∧ w'.cell? ⟨w.heap.size, 0, none⟩ = some (.int .i64 h) ∧ w'.cell? ⟨w.heap.size, 1, none⟩ = some (.int .i64 r) ∧ w'.cell? ⟨w.heap.size, 2, none⟩ = some (.int .i64 s) ∧ w'.cell? ⟨w.heap.size, 3, none⟩ = some (.string (S id)) ∧ w'.cell? ⟨w.heap.size, 4, none⟩ = some (.int .i64 v)) (first | exact ⟨((Below.refl _ _).alloc (Nat.le_refl _) _).drew, by simp, by go_simp, by go_simp, by go_simp, by go_simp, by go_simp⟩ | exact held5 (by assumption) hbm | go_keep)
        (first | (go_at_call 23; refine (HO.out _).mono ?_; rintro e wm ⟨rfl, hbm⟩) | (go_at_call 10; refine (HD.out _).mono ?_; rintro e wm ⟨rfl, hbm⟩) | (go_at_call 9; refine (HS.out _ (HK.out.to (And.left (by assumption)))).mono ?_; rintro e wm ⟨rfl, hbm⟩))
      all_goals
        have hbx : Below w.heap.size w wm := by apply And.left; assumption
        go_wp2
        go_ret
        exact ⟨ret_bool (by rw [HV.out, hbe]; rfl), hbx⟩


set_option maxHeartbeats 1600000 in
theorem sSigned_any (x : VoteT) (sig : List UInt8) (w : World) (hl : x.id.length ≤ 9223372036854775807) :
    Calls Tryd.prog 8 #[x.val, .string (S sig)] w fun e w' => e = .returned (.bool (signedB x sig)) ∧ Below w.heap.size w w' := by
  have HO := Lib.hid fun (W : World) => sVoteOk_any x W hl
  have HD := Lib.hid fun (W : World) => sDigest_any x W hl
  have HS := Lib.hid fun (W : World) => sSignAs_any x.v (digestS x) W (by have := digestS_len x; omega)
  have HV : Hid (signedB x sig = (voteOkB x && sig == signAsS x.v (digestS x))) := rfl
  generalize signAsS x.v (digestS x) = g at *
  generalize digestS x = d at *
  generalize signedB x sig = R at *
  generalize voteOkB x = ok at *
  obtain ⟨h, r, s, id, v⟩ := x
  have hv : VoteT.val ⟨h, r, s, id, v⟩ = .agg #[.int .i64 h, .int .i64 r, .int .i64 s, .string (S id), .int .i64 v] := rfl
  simp only [hv] at HO HD HS hl ⊢
  cases ok
  · go_enter Tryd.func8, Tryd.ntmps8
    go_wp2_with fail
    first | go_region_with (go_at_call 24; refine (HO.out _).mono ?_; rintro e wm ⟨rfl, hbm⟩) | fail
    all_goals
      have hbx : Below w.heap.size w wm := Below.next (((Below.refl _ _).alloc (Nat.le_refl _) _).drew) hbm
      go_wp2
      go_ret
      exact ⟨ret_bool (by rw [HV.out]; rfl), hbx⟩
  · by_cases hs : sig = g
    · have hbe : (sig == g) = true := by rw [hs]; simp
      clear hs
      go_enter Tryd.func8, Tryd.ntmps8
      go_wp2_with fail
      go_region_held3 (fun w' => Below w.heap.size w w' ∧ w.heap.size < w'.heap.size ∧ w'.cell? ⟨w.heap.size, 0, none⟩ = some (.int .i64 h) ∧ w'.cell? ⟨w.heap.size, 1, none⟩ = some (.int .i64 r) ∧ w'.cell? ⟨w.heap.size, 2, none⟩ = some (.int .i64 s) ∧ w'.cell? ⟨w.heap.size, 3, none⟩ = some (.string (S id)) ∧ w'.cell? ⟨w.heap.size, 4, none⟩ = some (.int .i64 v)) (first | exact ⟨((Below.refl _ _).alloc (Nat.le_refl _) _).drew, by simp, by go_simp, by go_simp, by go_simp, by go_simp, by go_simp⟩ | exact held5 (by assumption) hbm | go_keep)
        (first | (go_at_call 24; refine (HO.out _).mono ?_; rintro e wm ⟨rfl, hbm⟩) | (go_at_call 20; refine (HD.out _).mono ?_; rintro e wm ⟨rfl, hbm⟩) | (go_at_call 19; refine (HS.out _).mono ?_; rintro e wm ⟨rfl, hbm⟩))
      all_goals
        have hbx : Below w.heap.size w wm := by apply And.left; assumption
        go_wp2
        go_ret
        exact ⟨ret_bool (by rw [HV.out, hbe]; rfl), hbx⟩
    · have hbe : (sig == g) = false := by simpa using hs
      clear hs
      go_enter Tryd.func8, Tryd.ntmps8
      go_wp2_with fail
      go_region_held3 (fun w' => Below w.heap.size w w' ∧ w.heap.size < w'.heap.size ∧ w'.cell? ⟨w.heap.size, 0, none⟩ = some (.int .i64 h) ∧ w'.cell? ⟨w.heap.size, 1, none⟩ = some (.int .i64 r) ∧ w'.cell? ⟨w.heap.size, 2, none⟩ = some (.int .i64 s) ∧ w'.cell? ⟨w.heap.size, 3, none⟩ = some (.string (S id)) ∧ w'.cell? ⟨w.heap.size, 4, none⟩ = some (.int .i64 v)) (first | exact ⟨((Below.refl _ _).alloc (Nat.le_refl _) _).drew, by simp, by go_simp, by go_simp, by go_simp, by go_simp, by go_simp⟩ | exact held5 (by assumption) hbm | go_keep)
        (first | (go_at_call 24; refine (HO.out _).mono ?_; rintro e wm ⟨rfl, hbm⟩) | (go_at_call 20; refine (HD.out _).mono ?_; rintro e wm ⟨rfl, hbm⟩) | (go_at_call 19; refine (HS.out _).mono ?_; rintro e wm ⟨rfl, hbm⟩))
      all_goals
        have hbx : Below w.heap.size w wm := by apply And.left; assumption
        go_wp2
        go_ret
        exact ⟨ret_bool (by rw [HV.out, hbe]; rfl), hbx⟩
end Go.Proofs.YtnmgecaflildoaaDoor
