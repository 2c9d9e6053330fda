/-
  Digest, both.
-/
import Derived.Test.YtnmgecaflildoaaDoorVote3
import Derived.Test.YtnmgecaflildoaaDoorNum5
import Derived.Deep.RegionHeld3
namespace Go.Proofs.YtnmgecaflildoaaDoor
open Go.ChangeShapes Go.WideShapes Go.ChangeAt Go.RowKit
set_option linter.unusedVariables false
set_option linter.unusedSimpArgs false
set_option maxRecDepth 100000

/-- What Digest returns. -/
def digestS (x : VoteT) : List UInt8 := if voteOkB x then varS x.h ++ varS x.r ++ varS x.s ++ x.id else []

/-- Four cells of block B are held over a call that makes memory. -/
theorem held4 {w cur wm : World} {B : Nat} {u0 u1 u2 u3 : Value}
    (H : Below w.heap.size w cur ∧ B < cur.heap.size ∧ cur.cell? ⟨B, 0, none⟩ = some u0 ∧ cur.cell? ⟨B, 1, none⟩ = some u1 ∧ cur.cell? ⟨B, 2, none⟩ = some u2 ∧ cur.cell? ⟨B, 3, none⟩ = some u3) (hb : Below cur.heap.size cur wm) :
    Below w.heap.size w wm ∧ B < wm.heap.size ∧ wm.cell? ⟨B, 0, none⟩ = some u0 ∧ wm.cell? ⟨B, 1, none⟩ = some u1 ∧ wm.cell? ⟨B, 2, none⟩ = some u2 ∧ wm.cell? ⟨B, 3, none⟩ = some u3 := by
  obtain ⟨h1, h2, c0, c1, c2, c3⟩ := H
  have k : ∀ i, wm.cell? ⟨B, i, none⟩ = cur.cell? ⟨B, i, none⟩ := fun i => hb.cell (p := ⟨B, i, none⟩) h2
  exact ⟨Below.next h1 hb, Nat.lt_of_lt_of_le h2 hb.size, (k 0).trans c0, (k 1).trans c1, (k 2).trans c2, (k 3).trans c3⟩

theorem iDigest_yes (x : VoteT) (w : World) (hl : x.id.length ≤ 9223372036854775807) (hok : voteOkB x = true) :
    Calls Tryd.prog 10 #[x.val] w fun e w' => e = .returned (.string (S (digestS x))) ∧ Below w.heap.size w w' := by
  have HV : Hid (digestS x = varS x.h ++ varS x.r ++ varS x.s ++ x.id) := by unfold Hid digestS; rw [hok]; rfl
  have hil : x.id.length ≤ 8 := by
    unfold voteOkB isIdB at hok
    simp at hok
    rcases hok.1.2 with h | h
    · omega
    · rw [h]; simp
  obtain ⟨h, r, s, id, v⟩ := x
  have q1 := varS_len h
  have q2 := varS_len r
  have q3 := varS_len s
  have hv : VoteT.val ⟨h, r, s, id, v⟩ = .agg #[.int .i64 h, .int .i64 r, .int .i64 s, .string (S id), .int .i64 v] := rfl
  rw [hv]
  simp only at hl hil HV
  have hb := Below.refl w.heap.size w
  go_enter Tryd.func10, Tryd.ntmps10
  go_wp2_with (go_at_call 23; refine (iVoteOk_any ⟨h, r, s, id, v⟩ _ hl).mono ?_; rintro e wn ⟨rfl, hbn⟩; have hb := Below.next (w := w) (by repeat (first | with_reducible exact hb | with_reducible exact Below.refl _ _ | refine Below.drew ?_ | refine Below.setCell ?_ (by simp <;> omega) _ | refine Below.alloc ?_ (by simp <;> omega) _)) hbn; obtain ⟨hc, hf⟩ := bcell hbn; have hz := hbn.size; (try simp at hz); (try have hz1 : w.heap.size < wn.heap.size := (by omega)); (try have hz2 : w.heap.size + 1 < wn.heap.size := (by omega)); (try have hz3 : w.heap.size + 1 + 1 < wn.heap.size := (by omega)); clear hbn)
  have c0 : wn.cell? ⟨w.heap.size, 0, none⟩ = some (.int .i64 h) := by go_simp
  have c1 : wn.cell? ⟨w.heap.size, 1, none⟩ = some (.int .i64 r) := by go_simp
  have c2 : wn.cell? ⟨w.heap.size, 2, none⟩ = some (.int .i64 s) := by go_simp
  have c3 : wn.cell? ⟨w.heap.size, 3, none⟩ = some (.string (S id)) := by go_simp
  have hz1 : w.heap.size < wn.heap.size := by omega
  have n1 : (varS h).length + (varS r).length ≤ 9223372036854775807 := by omega
  have n2 : (varS h).length + (varS r).length + (varS s).length ≤ 9223372036854775807 := by omega
  have n3 : (varS h).length + (varS r).length + (varS s).length + id.length ≤ 9223372036854775807 := by omega
  have m1 := fun W : World => run_string_add_sum (P := Tryd.prog) W (S (varS h)) (S (varS r)) (by simp; omega)
  have m2 := fun W : World => run_string_add_sum (P := Tryd.prog) W (S (varS h ++ varS r)) (S (varS s)) (by simp; omega)
  have m3 := fun W : World => run_string_add_sum (P := Tryd.prog) W (S (varS h ++ (varS r ++ varS s))) (S id) (by simp; omega)
  clear hc hf
  go_region_held3 (fun w' => Below w.heap.size w w' ∧ w.heap.size < w'.heap.size ∧ w'.cell? ⟨w.heap.size, 0, none⟩ = some (.int .i64 h) ∧ w'.cell? ⟨w.heap.size, 1, none⟩ = some (.int .i64 r) ∧ w'.cell? ⟨w.heap.size, 2, none⟩ = some (.int .i64 s) ∧ w'.cell? ⟨w.heap.size, 3, none⟩ = some (.string (S id))) (first | exact ⟨hb.drew, hz1, c0, c1, c2, c3⟩ | exact held4 (by assumption) hbm | go_keep)
    (first | (go_at_call 28; refine (iVar_any _ _).mono ?_; rintro e wm ⟨rfl, hbm⟩))
  all_goals
    go_wp2
    go_ret
    refine ⟨ret_string (by rw [HV.out]; simp), ?_⟩; apply And.left; assumption

theorem iDigest_no (x : VoteT) (w : World) (hl : x.id.length ≤ 9223372036854775807) (hok : voteOkB x = false) :
    Calls Tryd.prog 10 #[x.val] w fun e w' => e = .returned (.string (S (digestS x))) ∧ Below w.heap.size w w' := by
  have HV : Hid (digestS x = []) := by unfold Hid digestS; rw [hok]; rfl
  obtain ⟨h, r, s, id, v⟩ := x
  have hv : VoteT.val ⟨h, r, s, id, v⟩ = .agg #[.int .i64 h, .int .i64 r, .int .i64 s, .string (S id), .int .i64 v] := rfl
  rw [hv]
  simp only at hl HV
  have hb := Below.refl w.heap.size w
  go_enter Tryd.func10, Tryd.ntmps10
  go_wp2_with (go_at_call 23; refine (iVoteOk_any ⟨h, r, s, id, v⟩ _ hl).mono ?_; rintro e wn ⟨rfl, hbn⟩; have hb := Below.next (w := w) (by repeat (first | with_reducible exact hb | with_reducible exact Below.refl _ _ | refine Below.drew ?_ | refine Below.setCell ?_ (by simp <;> omega) _ | refine Below.alloc ?_ (by simp <;> omega) _)) hbn; obtain ⟨hc, hf⟩ := bcell hbn; have hz := hbn.size; (try simp at hz); (try have hz1 : w.heap.size < wn.heap.size := (by omega)); (try have hz2 : w.heap.size + 1 < wn.heap.size := (by omega)); (try have hz3 : w.heap.size + 1 + 1 < wn.heap.size := (by omega)); clear hbn)
  go_ret
  exact ⟨ret_string (by rw [HV.out]; rfl), hb⟩
theorem iDigest_any (x : VoteT) (w : World) (hl : x.id.length ≤ 9223372036854775807) :
    Calls Tryd.prog 10 #[x.val] w fun e w' => e = .returned (.string (S (digestS x))) ∧ Below w.heap.size w w' := by
  cases hok : voteOkB x
  · exact iDigest_no x w hl hok
  · exact iDigest_yes x w hl hok
theorem sDigest_yes (x : VoteT) (w : World) (hl : x.id.length ≤ 9223372036854775807) (hok : voteOkB x = true) :
    Calls Tryd.prog 20 #[x.val] w fun e w' => e = .returned (.string (S (digestS x))) ∧ Below w.heap.size w w' := by
  have HV : Hid (digestS x = varS x.h ++ varS x.r ++ varS x.s ++ x.id) := by unfold Hid digestS; rw [hok]; rfl
  have hil : x.id.length ≤ 8 := by
    unfold voteOkB isIdB at hok
    simp at hok
    rcases hok.1.2 with h | h
    · omega
    · rw [h]; simp
  obtain ⟨h, r, s, id, v⟩ := x
  have q1 := varS_len h
  have q2 := varS_len r
  have q3 := varS_len s
  have hv : VoteT.val ⟨h, r, s, id, v⟩ = .agg #[.int .i64 h, .int .i64 r, .int .i64 s, .string (S id), .int .i64 v] := rfl
  rw [hv]
  simp only at hl hil HV
  have hb := Below.refl w.heap.size w
  go_enter Tryd.func20, Tryd.ntmps20
  go_wp2_with (go_at_call 24; refine (sVoteOk_any ⟨h, r, s, id, v⟩ _ hl).mono ?_; rintro e wn ⟨rfl, hbn⟩; have hb := Below.next (w := w) (by repeat (first | with_reducible exact hb | with_reducible exact Below.refl _ _ | refine Below.drew ?_ | refine Below.setCell ?_ (by simp <;> omega) _ | refine Below.alloc ?_ (by simp <;> omega) _)) hbn; obtain ⟨hc, hf⟩ := bcell hbn; have hz := hbn.size; (try simp at hz); (try have hz1 : w.heap.size < wn.heap.size := (by omega)); (try have hz2 : w.heap.size + 1 < wn.heap.size := (by omega)); (try have hz3 : w.heap.size + 1 + 1 < wn.heap.size := (by omega)); clear hbn)
  have c0 : wn.cell? ⟨w.heap.size, 0, none⟩ = some (.int .i64 h) := by go_simp
  have c1 : wn.cell? ⟨w.heap.size, 1, none⟩ = some (.int .i64 r) := by go_simp
  have c2 : wn.cell? ⟨w.heap.size, 2, none⟩ = some (.int .i64 s) := by go_simp
  have c3 : wn.cell? ⟨w.heap.size, 3, none⟩ = some (.string (S id)) := by go_simp
  have hz1 : w.heap.size < wn.heap.size := by omega
  have n1 : (varS h).length + (varS r).length ≤ 9223372036854775807 := by omega
  have n2 : (varS h).length + (varS r).length + (varS s).length ≤ 9223372036854775807 := by omega
  have n3 : (varS h).length + (varS r).length + (varS s).length + id.length ≤ 9223372036854775807 := by omega
  have m1 := fun W : World => run_string_add_sum (P := Tryd.prog) W (S (varS h)) (S (varS r)) (by simp; omega)
  have m2 := fun W : World => run_string_add_sum (P := Tryd.prog) W (S (varS h ++ varS r)) (S (varS s)) (by simp; omega)
  have m3 := fun W : World => run_string_add_sum (P := Tryd.prog) W (S (varS h ++ (varS r ++ varS s))) (S id) (by simp; omega)
  clear hc hf
  go_region_held3 (fun w' => Below w.heap.size w w' ∧ w.heap.size < w'.heap.size ∧ w'.cell? ⟨w.heap.size, 0, none⟩ = some (.int .i64 h) ∧ w'.cell? ⟨w.heap.size, 1, none⟩ = some (.int .i64 r) ∧ w'.cell? ⟨w.heap.size, 2, none⟩ = some (.int .i64 s) ∧ w'.cell? ⟨w.heap.size, 3, none⟩ = some (.string (S id))) (first | exact ⟨hb.drew, hz1, c0, c1, c2, c3⟩ | exact held4 (by assumption) hbm | go_keep)
    (first | (go_at_call 46; refine (sVar_any _ _).mono ?_; rintro e wm ⟨rfl, hbm⟩))
  all_goals
    go_wp2
    go_ret
    refine ⟨ret_string (by rw [HV.out]; simp), ?_⟩; apply And.left; assumption

theorem sDigest_no (x : VoteT) (w : World) (hl : x.id.length ≤ 9223372036854775807) (hok : voteOkB x = false) :
    Calls Tryd.prog 20 #[x.val] w fun e w' => e = .returned (.string (S (digestS x))) ∧ Below w.heap.size w w' := by
  have HV : Hid (digestS x = []) := by unfold Hid digestS; rw [hok]; rfl
  obtain ⟨h, r, s, id, v⟩ := x
  have hv : VoteT.val ⟨h, r, s, id, v⟩ = .agg #[.int .i64 h, .int .i64 r, .int .i64 s, .string (S id), .int .i64 v] := rfl
  rw [hv]
  simp only at hl HV
  have hb := Below.refl w.heap.size w
  go_enter Tryd.func20, Tryd.ntmps20
  go_wp2_with (go_at_call 24; refine (sVoteOk_any ⟨h, r, s, id, v⟩ _ hl).mono ?_; rintro e wn ⟨rfl, hbn⟩; have hb := Below.next (w := w) (by repeat (first | with_reducible exact hb | with_reducible exact Below.refl _ _ | refine Below.drew ?_ | refine Below.setCell ?_ (by simp <;> omega) _ | refine Below.alloc ?_ (by simp <;> omega) _)) hbn; obtain ⟨hc, hf⟩ := bcell hbn; have hz := hbn.size; (try simp at hz); (try have hz1 : w.heap.size < wn.heap.size := (by omega)); (try have hz2 : w.heap.size + 1 < wn.heap.size := (by omega)); (try have hz3 : w.heap.size + 1 + 1 < wn.heap.size := (by omega)); clear hbn)
  go_ret
  exact ⟨ret_string (by rw [HV.out]; rfl), hb⟩
theorem sDigest_any (x : VoteT) (w : World) (hl : x.id.length ≤ 9223372036854775807) :
    Calls Tryd.prog 20 #[x.val] w fun e w' => e = .returned (.string (S (digestS x))) ∧ Below w.heap.size w w' := by
  cases hok : voteOkB x
  · exact sDigest_no x w hl hok
  · exact sDigest_yes x w hl hok
end Go.Proofs.YtnmgecaflildoaaDoor
