/-
  sized, l6Piece; ShowHeader, both.
-/
import Derived.Test.YtabkbaepnnfjhaaHead1
import Derived.Test.YtabkbaepnnfjhaaShow0
import Derived.Test.YtabkbaepnnfjhaaNum5
import Derived.Deep.RegionHeld3
namespace Go.Proofs.Ytabkbaepnnfjhaa
open Go.ChangeShapes Go.WideShapes Go.ChangeAt Go.RowKit
set_option linter.unusedVariables false
set_option linter.unusedSimpArgs false
set_option maxRecDepth 100000

theorem sizedS_len (l : List UInt8) : (sizedS l).length ≤ 8 + l.length := by
  have := varS_len (l.length : Int)
  unfold sizedS; rw [List.length_append]; omega
theorem sized_any (l : List UInt8) (w : World) (hl : l.length ≤ 4194304) :
    Calls Try.prog 65 #[.string (S l)] w fun e w' => e = .returned (.string (S (sizedS l))) ∧ Below w.heap.size w w' := by
  have q := varS_len (l.length : Int)
  have hb := Below.refl w.heap.size w
  go_enter Try.func65, Try.ntmps65
  go_wp2_with (go_at_call 32; refine (iVar_any _ _).mono ?_; rintro e wn ⟨rfl, hbn⟩; have hb := Below.next (w := w) (by repeat (first | with_reducible exact hb | with_reducible exact Below.refl _ _ | refine Below.drew ?_ | refine Below.setCell ?_ (by simp <;> omega) _ | refine Below.alloc ?_ (by simp <;> omega) _)) hbn; clear hbn)
  go_ret
  exact ⟨rfl, hb⟩
theorem l6Piece_any (l : List UInt8) (w : World) (hl : l.length ≤ 4194304) :
    Calls Try.prog 59 #[.string (S l)] w fun e w' => e = .returned (.string (S (sizedS l))) ∧ Below w.heap.size w w' := by
  have q := varS_len (l.length : Int)
  have hb := Below.refl w.heap.size w
  go_enter Try.func59, Try.ntmps59
  go_wp2_with (go_at_call 58; refine (sVar_any _ _).mono ?_; rintro e wn ⟨rfl, hbn⟩; have hb := Below.next (w := w) (by repeat (first | with_reducible exact hb | with_reducible exact Below.refl _ _ | refine Below.drew ?_ | refine Below.setCell ?_ (by simp <;> omega) _ | refine Below.alloc ?_ (by simp <;> omega) _)) hbn; clear hbn)
  go_ret
  exact ⟨rfl, hb⟩
/-- Six cells are held over a call that makes memory. -/
theorem held6 {w cur wm : World} {B : Nat} {u0 u1 u2 u3 u4 u5 : Value}
    (H : Below w.heap.size w cur ∧ B < cur.heap.size ∧ cur.cell? ⟨B, 0, none⟩ = some u0 ∧ cur.cell? ⟨B, 1, none⟩ = some u1 ∧ cur.cell? ⟨B, 2, none⟩ = some u2 ∧ cur.cell? ⟨B, 3, none⟩ = some u3 ∧ cur.cell? ⟨B, 4, none⟩ = some u4 ∧ cur.cell? ⟨B, 5, none⟩ = some u5) (hb : Below cur.heap.size cur wm) :
    Below w.heap.size w wm ∧ B < wm.heap.size ∧ wm.cell? ⟨B, 0, none⟩ = some u0 ∧ wm.cell? ⟨B, 1, none⟩ = some u1 ∧ wm.cell? ⟨B, 2, none⟩ = some u2 ∧ wm.cell? ⟨B, 3, none⟩ = some u3 ∧ wm.cell? ⟨B, 4, none⟩ = some u4 ∧ wm.cell? ⟨B, 5, none⟩ = some u5 := by
  obtain ⟨h1, h2, c0, c1, c2, c3, c4, c5⟩ := H
  have k : ∀ i, wm.cell? ⟨B, i, none⟩ = cur.cell? ⟨B, i, none⟩ := fun i => hb.cell (p := ⟨B, i, none⟩) h2
  exact ⟨Below.next h1 hb, Nat.lt_of_lt_of_le h2 hb.size, (k 0).trans c0, (k 1).trans c1, (k 2).trans c2, (k 3).trans c3, (k 4).trans c4, (k 5).trans c5⟩
theorem headOk_len {x : HeadT} (h : headOkB x = true) : x.last.length ≤ 8 ∧ x.vals.length ≤ 8 ∧ x.next.length ≤ 8 ∧ x.data.length ≤ 20 := by
  unfold headOkB at h
  simp only [Bool.and_eq_true, beq_iff_eq, decide_eq_true_eq] at h
  obtain ⟨⟨⟨⟨⟨_, _⟩, a⟩, b⟩, c⟩, d⟩ := h
  refine ⟨?_, by omega, by omega, d⟩
  rw [c]; split <;> omega

set_option maxHeartbeats 1600000 in
theorem iShowHeader_yes (x : HeadT) (w : World) (hok : headOkB x = true) :
    Calls Try.prog 73 #[x.val] w fun e w' => e = .returned (.string (S (showHeadS x))) ∧ Below w.heap.size w w' := by
  have HV : Hid (showHeadS x = varS x.h ++ varS x.t ++ sizedS x.last ++ sizedS x.vals ++ sizedS x.next ++ sizedS x.data) := by unfold Hid showHeadS; rw [if_pos hok]
  obtain ⟨l1, l2, l3, l4⟩ := headOk_len hok
  obtain ⟨h, t, last, vals, next, data⟩ := x
  have hv : HeadT.val ⟨h, t, last, vals, next, data⟩ = .agg #[.int .i64 h, .int .i64 t, .string (S last), .string (S vals), .string (S next), .string (S data)] := rfl
  rw [hv]
  simp only at l1 l2 l3 l4 HV
  have q1 := varS_len h
  have q2 := varS_len t
  have q3 := sizedS_len last
  have q4 := sizedS_len vals
  have q5 := sizedS_len next
  have q6 := sizedS_len data
  have hb := Below.refl w.heap.size w
  go_enter Try.func73, Try.ntmps73
  go_wp2_with (go_at_call 93; refine (iHeaderOk_any ⟨h, t, last, vals, next, data⟩ _ (by simp only; omega) (by simp only; omega) (by simp only; omega) (by simp only; omega)).mono ?_; rintro e wn ⟨rfl, hbn⟩; have hb := Below.next (w := w) (by repeat (first | with_reducible exact hb | with_reducible exact Below.refl _ _ | refine Below.drew ?_ | refine Below.setCell ?_ (by simp <;> omega) _ | refine Below.alloc ?_ (by simp <;> omega) _)) hbn; obtain ⟨hc, hf⟩ := bcell hbn; have hz := hbn.size; (try simp at hz); (try have hz1 : w.heap.size < wn.heap.size := (by omega)); (try have hz2 : w.heap.size + 1 < wn.heap.size := (by omega)); (try have hz3 : w.heap.size + 1 + 1 < wn.heap.size := (by omega)); clear hbn)
  have c0 : wn.cell? ⟨w.heap.size, 0, none⟩ = some (.int .i64 h) := by go_simp
  have c1 : wn.cell? ⟨w.heap.size, 1, none⟩ = some (.int .i64 t) := by go_simp
  have c2 : wn.cell? ⟨w.heap.size, 2, none⟩ = some (.string (S last)) := by go_simp
  have c3 : wn.cell? ⟨w.heap.size, 3, none⟩ = some (.string (S vals)) := by go_simp
  have c4 : wn.cell? ⟨w.heap.size, 4, none⟩ = some (.string (S next)) := by go_simp
  have c5 : wn.cell? ⟨w.heap.size, 5, none⟩ = some (.string (S data)) := by go_simp
  have hz1 : w.heap.size < wn.heap.size := by omega
  have m1 := fun W : World => run_string_add_sum (P := Try.prog) W (S (varS h)) (S (varS t)) (by simp; omega)
  have m2 := fun W : World => run_string_add_sum (P := Try.prog) W (S (varS h ++ varS t)) (S (sizedS last)) (by simp; omega)
  have m3 := fun W : World => run_string_add_sum (P := Try.prog) W (S (varS h ++ (varS t ++ sizedS last))) (S (sizedS vals)) (by simp; omega)
  have m4 := fun W : World => run_string_add_sum (P := Try.prog) W (S (varS h ++ (varS t ++ (sizedS last ++ sizedS vals)))) (S (sizedS next)) (by simp; omega)
  have m5 := fun W : World => run_string_add_sum (P := Try.prog) W (S (varS h ++ (varS t ++ (sizedS last ++ (sizedS vals ++ sizedS next))))) (S (sizedS data)) (by simp; omega)
  clear hc hf
  go_region_held3 (fun w' => Below w.heap.size w w' ∧ w.heap.size < w'.heap.size ∧ w'.cell? ⟨w.heap.size, 0, none⟩ = some (.int .i64 h) ∧ w'.cell? ⟨w.heap.size, 1, none⟩ = some (.int .i64 t) ∧ w'.cell? ⟨w.heap.size, 2, none⟩ = some (.string (S last)) ∧ w'.cell? ⟨w.heap.size, 3, none⟩ = some (.string (S vals)) ∧ w'.cell? ⟨w.heap.size, 4, none⟩ = some (.string (S next)) ∧ w'.cell? ⟨w.heap.size, 5, none⟩ = some (.string (S data))) (first | exact ⟨hb.drew, hz1, c0, c1, c2, c3, c4, c5⟩ | exact held6 (by assumption) hbm | go_keep)
    (first | (go_at_call 32; refine (iVar_any _ _).mono ?_; rintro e wm ⟨rfl, hbm⟩) | (go_at_call 65; refine (sized_any _ _ (by omega)).mono ?_; rintro e wm ⟨rfl, hbm⟩))
  all_goals
    go_wp2
    go_ret
    refine ⟨ret_string (by rw [HV.out]; simp), ?_⟩; apply And.left; assumption

theorem iShowHeader_no (x : HeadT) (w : World) (h1 : x.last.length ≤ 9223372036854775807) (h2 : x.vals.length ≤ 9223372036854775807) (h3 : x.next.length ≤ 9223372036854775807) (h4 : x.data.length ≤ 9223372036854775807) (hok : headOkB x = false) :
    Calls Try.prog 73 #[x.val] w fun e w' => e = .returned (.string (S (showHeadS x))) ∧ Below w.heap.size w w' := by
  have HV : Hid (showHeadS x = []) := by unfold Hid showHeadS; rw [hok]; rfl
  obtain ⟨h, t, last, vals, next, data⟩ := x
  have hv : HeadT.val ⟨h, t, last, vals, next, data⟩ = .agg #[.int .i64 h, .int .i64 t, .string (S last), .string (S vals), .string (S next), .string (S data)] := rfl
  rw [hv]
  simp only at h1 h2 h3 h4 HV
  have hb := Below.refl w.heap.size w
  go_enter Try.func73, Try.ntmps73
  go_wp2_with (go_at_call 93; refine (iHeaderOk_any ⟨h, t, last, vals, next, data⟩ _ h1 h2 h3 h4).mono ?_; rintro e wn ⟨rfl, hbn⟩; have hb := Below.next (w := w) (by repeat (first | with_reducible exact hb | with_reducible exact Below.refl _ _ | refine Below.drew ?_ | refine Below.setCell ?_ (by simp <;> omega) _ | refine Below.alloc ?_ (by simp <;> omega) _)) hbn; obtain ⟨hc, hf⟩ := bcell hbn; have hz := hbn.size; (try simp at hz); (try have hz1 : w.heap.size < wn.heap.size := (by omega)); (try have hz2 : w.heap.size + 1 < wn.heap.size := (by omega)); (try have hz3 : w.heap.size + 1 + 1 < wn.heap.size := (by omega)); clear hbn)
  go_ret
  exact ⟨ret_string (by rw [HV.out]; rfl), hb⟩
theorem iShowHeader_any (x : HeadT) (w : World) (h1 : x.last.length ≤ 9223372036854775807) (h2 : x.vals.length ≤ 9223372036854775807) (h3 : x.next.length ≤ 9223372036854775807) (h4 : x.data.length ≤ 9223372036854775807) :
    Calls Try.prog 73 #[x.val] w fun e w' => e = .returned (.string (S (showHeadS x))) ∧ Below w.heap.size w w' := by
  cases hok : headOkB x
  · exact iShowHeader_no x w h1 h2 h3 h4 hok
  · exact iShowHeader_yes x w hok

set_option maxHeartbeats 1600000 in
theorem sShowHeader_yes (x : HeadT) (w : World) (hok : headOkB x = true) :
    Calls Try.prog 70 #[x.val] w fun e w' => e = .returned (.string (S (showHeadS x))) ∧ Below w.heap.size w w' := by
  have HV : Hid (showHeadS x = varS x.h ++ varS x.t ++ sizedS x.last ++ sizedS x.vals ++ sizedS x.next ++ sizedS x.data) := by unfold Hid showHeadS; rw [if_pos hok]
  obtain ⟨l1, l2, l3, l4⟩ := headOk_len hok
  obtain ⟨h, t, last, vals, next, data⟩ := x
  have hv : HeadT.val ⟨h, t, last, vals, next, data⟩ = .agg #[.int .i64 h, .int .i64 t, .string (S last), .string (S vals), .string (S next), .string (S data)] := rfl
  rw [hv]
  simp only at l1 l2 l3 l4 HV
  have q1 := varS_len h
  have q2 := varS_len t
  have q3 := sizedS_len last
  have q4 := sizedS_len vals
  have q5 := sizedS_len next
  have q6 := sizedS_len data
  have hb := Below.refl w.heap.size w
  go_enter Try.func70, Try.ntmps70
  go_wp2_with (go_at_call 91; refine (sHeaderOk_any ⟨h, t, last, vals, next, data⟩ _ (by simp only; omega) (by simp only; omega) (by simp only; omega) (by simp only; omega)).mono ?_; rintro e wn ⟨rfl, hbn⟩; have hb := Below.next (w := w) (by repeat (first | with_reducible exact hb | with_reducible exact Below.refl _ _ | refine Below.drew ?_ | refine Below.setCell ?_ (by simp <;> omega) _ | refine Below.alloc ?_ (by simp <;> omega) _)) hbn; obtain ⟨hc, hf⟩ := bcell hbn; have hz := hbn.size; (try simp at hz); (try have hz1 : w.heap.size < wn.heap.size := (by omega)); (try have hz2 : w.heap.size + 1 < wn.heap.size := (by omega)); (try have hz3 : w.heap.size + 1 + 1 < wn.heap.size := (by omega)); clear hbn)
  have c0 : wn.cell? ⟨w.heap.size, 0, none⟩ = some (.int .i64 h) := by go_simp
  have c1 : wn.cell? ⟨w.heap.size, 1, none⟩ = some (.int .i64 t) := by go_simp
  have c2 : wn.cell? ⟨w.heap.size, 2, none⟩ = some (.string (S last)) := by go_simp
  have c3 : wn.cell? ⟨w.heap.size, 3, none⟩ = some (.string (S vals)) := by go_simp
  have c4 : wn.cell? ⟨w.heap.size, 4, none⟩ = some (.string (S next)) := by go_simp
  have c5 : wn.cell? ⟨w.heap.size, 5, none⟩ = some (.string (S data)) := by go_simp
  have hz1 : w.heap.size < wn.heap.size := by omega
  have m1 := fun W : World => run_string_add_sum (P := Try.prog) W (S (varS h)) (S (varS t)) (by simp; omega)
  have m2 := fun W : World => run_string_add_sum (P := Try.prog) W (S (varS h ++ varS t)) (S (sizedS last)) (by simp; omega)
  have m3 := fun W : World => run_string_add_sum (P := Try.prog) W (S (varS h ++ (varS t ++ sizedS last))) (S (sizedS vals)) (by simp; omega)
  have m4 := fun W : World => run_string_add_sum (P := Try.prog) W (S (varS h ++ (varS t ++ (sizedS last ++ sizedS vals)))) (S (sizedS next)) (by simp; omega)
  have m5 := fun W : World => run_string_add_sum (P := Try.prog) W (S (varS h ++ (varS t ++ (sizedS last ++ (sizedS vals ++ sizedS next))))) (S (sizedS data)) (by simp; omega)
  clear hc hf
  go_region_held3 (fun w' => Below w.heap.size w w' ∧ w.heap.size < w'.heap.size ∧ w'.cell? ⟨w.heap.size, 0, none⟩ = some (.int .i64 h) ∧ w'.cell? ⟨w.heap.size, 1, none⟩ = some (.int .i64 t) ∧ w'.cell? ⟨w.heap.size, 2, none⟩ = some (.string (S last)) ∧ w'.cell? ⟨w.heap.size, 3, none⟩ = some (.string (S vals)) ∧ w'.cell? ⟨w.heap.size, 4, none⟩ = some (.string (S next)) ∧ w'.cell? ⟨w.heap.size, 5, none⟩ = some (.string (S data))) (first | exact ⟨hb.drew, hz1, c0, c1, c2, c3, c4, c5⟩ | exact held6 (by assumption) hbm | go_keep)
    (first | (go_at_call 58; refine (sVar_any _ _).mono ?_; rintro e wm ⟨rfl, hbm⟩) | (go_at_call 59; refine (l6Piece_any _ _ (by omega)).mono ?_; rintro e wm ⟨rfl, hbm⟩))
  all_goals
    go_wp2
    go_ret
    refine ⟨ret_string (by rw [HV.out]; simp), ?_⟩; apply And.left; assumption

theorem sShowHeader_no (x : HeadT) (w : World) (h1 : x.last.length ≤ 9223372036854775807) (h2 : x.vals.length ≤ 9223372036854775807) (h3 : x.next.length ≤ 9223372036854775807) (h4 : x.data.length ≤ 9223372036854775807) (hok : headOkB x = false) :
    Calls Try.prog 70 #[x.val] w fun e w' => e = .returned (.string (S (showHeadS x))) ∧ Below w.heap.size w w' := by
  have HV : Hid (showHeadS x = []) := by unfold Hid showHeadS; rw [hok]; rfl
  obtain ⟨h, t, last, vals, next, data⟩ := x
  have hv : HeadT.val ⟨h, t, last, vals, next, data⟩ = .agg #[.int .i64 h, .int .i64 t, .string (S last), .string (S vals), .string (S next), .string (S data)] := rfl
  rw [hv]
  simp only at h1 h2 h3 h4 HV
  have hb := Below.refl w.heap.size w
  go_enter Try.func70, Try.ntmps70
  go_wp2_with (go_at_call 91; refine (sHeaderOk_any ⟨h, t, last, vals, next, data⟩ _ h1 h2 h3 h4).mono ?_; rintro e wn ⟨rfl, hbn⟩; have hb := Below.next (w := w) (by repeat (first | with_reducible exact hb | with_reducible exact Below.refl _ _ | refine Below.drew ?_ | refine Below.setCell ?_ (by simp <;> omega) _ | refine Below.alloc ?_ (by simp <;> omega) _)) hbn; obtain ⟨hc, hf⟩ := bcell hbn; have hz := hbn.size; (try simp at hz); (try have hz1 : w.heap.size < wn.heap.size := (by omega)); (try have hz2 : w.heap.size + 1 < wn.heap.size := (by omega)); (try have hz3 : w.heap.size + 1 + 1 < wn.heap.size := (by omega)); clear hbn)
  go_ret
  exact ⟨ret_string (by rw [HV.out]; rfl), hb⟩
theorem sShowHeader_any (x : HeadT) (w : World) (h1 : x.last.length ≤ 9223372036854775807) (h2 : x.vals.length ≤ 9223372036854775807) (h3 : x.next.length ≤ 9223372036854775807) (h4 : x.data.length ≤ 9223372036854775807) :
    Calls Try.prog 70 #[x.val] w fun e w' => e = .returned (.string (S (showHeadS x))) ∧ Below w.heap.size w w' := by
  cases hok : headOkB x
  · exact sShowHeader_no x w h1 h2 h3 h4 hok
  · exact sShowHeader_yes x w hok
end Go.Proofs.Ytabkbaepnnfjhaa
