/-
  Texts of this proof, laid into one: Num5, Dig1, Show0, Scan0.
-/
import Derived.Test.YtecimgkgdpnaeaaDoorGFnExactCommitVals2
import Derived.Test.YtecimgkgdpnaeaaDoorGFnExactCommitVals8
import Derived.Deep.RegionHeld3
import Derived.Test.YtecimgkgdpnaeaaDoorGFnExactCommitVals5
import Derived.Test.YtecimgkgdpnaeaaDoorGFnExactCommitVals4
import Derived.Test.YtecimgkgdpnaeaaDoorGFnExactCommitVals3
import Derived.Test.YtecimgkgdpnaeaaDoorGFnExactCommitVals9
/-
  Var, both.
-/
namespace Go.Proofs.YtecimgkgdpnaeaaDoor
open Go.ChangeShapes Go.WideShapes Go.ChangeAt Go.RowKit
set_option linter.unusedVariables false

theorem sVar_no (n : Int) (w : World) (h : n < 0 ∨ 562949953421311 < n) :
    Calls Tryd.prog 61 #[.int .i64 n] w fun e w' => e = .returned (.string (S (varS n))) ∧ Below w.heap.size w w' := by
  rw [varS_no h]
  go_enter Tryd.func61, Tryd.ntmps61
  go_wp2_with (go_at_call 58; refine (l1In_not _ _ _ _ h).mono ?_; rintro e w' ⟨rfl, rfl⟩)
  go_ret
  exact ⟨rfl, Below.refl _ _⟩
set_option maxRecDepth 100000 in
set_option maxHeartbeats 400000 in
theorem sVar_yes (m : Nat) (w : World) (hm : m ≤ 562949953421311) :
    Calls Tryd.prog 61 #[.int .i64 m] w fun e w' => e = .returned (.string (S (varS m))) ∧ Below w.heap.size w w' := by
  rw [varS_yes hm]
  obtain ⟨i0, hi, hz0, hz1, hz2⟩ := info_parts info_u8
  go_enter Tryd.func61, Tryd.ntmps61
  go_wp2_with (go_at_call 58; refine (l1In_yes _ _ _ _ (by omega) (by omega)).mono ?_; rintro e w' ⟨rfl, rfl⟩)
  go_loopw [0, 3] (fun n out wr => ∃ (k q : Nat) (xs : List UInt8), k ≤ 7 ∧ q ≤ m ∧ xs.length + k ≤ 7 ∧ Hid (q < 128 ^ k) ∧ n = .int .i64 q ∧ Hid (xs ++ varF k q = varL m) ∧ wr.ownsRow w.heap.size 5 1 out xs.length (xs.map bv) ∧ Below w.heap.size w wr) (fun n _ _ => (intOf n).toNat)
  case atStart => 
    refine ⟨7, m, [], by omega, by omega, by simp, by unfold Hid; omega, rfl, rfl, ?_, (Below.refl _ _).alloc (Nat.le_refl _) _⟩
    exact World.ownsRow_lit w #[] 0 (Nat.le_refl _) (by simp [maxLen]) rfl
  case round =>
    obtain ⟨k, q, xs, hk7, hqm, hxk, hqk, rfl, HX, hown, hb⟩ := hrel
    by_cases hlt : q < 128
    · have hx1 : Hid (xs ++ [UInt8.ofNat q] = varL m) := by unfold Hid; rw [← HX.out, varF_end k q hlt]
      have hbv := Lib.hid (bv_ofNat q (by omega))
      clear HX hqk
      go_wp2_with (at_builtin; refine app_lit rfl _ _ 22 rfl Tryd.underlying22 hi hz0 hz1 hz2 rfl (by decide) rfl hown hb rfl rfl (one_cell1 _ _) (by unfold maxLen; omega) (by omega) ?_; intro v1 w1 hown1 hb1; have hcv := conv_own (l := varL m) Tryd.underlying22 Tryd.underlying5 Tryd.underlying9 (by rw [← hx1.out, List.map_append, List.map_singleton, hbv.out]; exact hown1))
      go_ret
      exact ⟨rfl, hb1⟩
    · obtain ⟨j, hj, hqj, hv⟩ := varF_step k q (by omega) hqk.out
      obtain rfl := hj
      rw [Hid, hv] at HX
      have HX' := Lib.hid HX
      have hqj' := Lib.hid hqj
      have hbv := Lib.hid (bv_ofNat (128 + q % 128) (by omega))
      clear HX hqj hv hqk
      go_wp2_with (at_builtin; refine app_lit rfl _ _ 22 rfl Tryd.underlying22 hi hz0 hz1 hz2 rfl (by decide) rfl hown hb rfl rfl (one_cell1 _ _) (by unfold maxLen; omega) (by omega) ?_; intro v1 w1 hown1 hb1)
      go_roundw
      case rel => exact ⟨j, q / 128, xs ++ [UInt8.ofNat (128 + q % 128)], by omega, by omega, by simp; omega, hqj'.out, by go_num, by unfold Hid; rw [← HX'.out]; simp, by rw [List.map_append, List.map_singleton, hbv.out, List.length_append]; exact hown1, hb1⟩
      case measure => simp [intOf]; omega
theorem sVar_any (n : Int) (w : World) :
    Calls Tryd.prog 61 #[.int .i64 n] w fun e w' => e = .returned (.string (S (varS n))) ∧ Below w.heap.size w w' := by
  by_cases h : n < 0 ∨ 562949953421311 < n
  · exact sVar_no n w h
  · obtain ⟨m, rfl⟩ := Int.eq_ofNat_of_zero_le (a := n) (by omega)
    exact sVar_yes m w (by omega)
theorem iVar_no (n : Int) (w : World) (h : n < 0 ∨ 562949953421311 < n) :
    Calls Tryd.prog 46 #[.int .i64 n] w fun e w' => e = .returned (.string (S (varS n))) ∧ Below w.heap.size w w' := by
  rw [varS_no h]
  go_enter Tryd.func46, Tryd.ntmps46
  go_wp2_with (go_at_call 55; refine (within_not _ _ _ _ h).mono ?_; rintro e w' ⟨rfl, rfl⟩)
  go_ret
  exact ⟨rfl, Below.refl _ _⟩
set_option maxRecDepth 100000 in
set_option maxHeartbeats 400000 in
theorem iVar_yes (m : Nat) (w : World) (hm : m ≤ 562949953421311) :
    Calls Tryd.prog 46 #[.int .i64 m] w fun e w' => e = .returned (.string (S (varS m))) ∧ Below w.heap.size w w' := by
  rw [varS_yes hm]
  obtain ⟨i0, hi, hz0, hz1, hz2⟩ := info_parts info_u8
  go_enter Tryd.func46, Tryd.ntmps46
  go_wp2_with (go_at_call 55; refine (within_yes _ _ _ _ (by omega) (by omega)).mono ?_; rintro e w' ⟨rfl, rfl⟩)
  go_loopw [0, 3] (fun n out wr => ∃ (k q : Nat) (xs : List UInt8), k ≤ 7 ∧ q ≤ m ∧ xs.length + k ≤ 7 ∧ Hid (q < 128 ^ k) ∧ n = .int .i64 q ∧ Hid (xs ++ varF k q = varL m) ∧ wr.ownsRow w.heap.size 5 1 out xs.length (xs.map bv) ∧ Below w.heap.size w wr) (fun n _ _ => (intOf n).toNat)
  case atStart => 
    refine ⟨7, m, [], by omega, by omega, by simp, by unfold Hid; omega, rfl, rfl, ?_, (Below.refl _ _).alloc (Nat.le_refl _) _⟩
    exact World.ownsRow_lit w #[] 0 (Nat.le_refl _) (by simp [maxLen]) rfl
  case round =>
    obtain ⟨k, q, xs, hk7, hqm, hxk, hqk, rfl, HX, hown, hb⟩ := hrel
    by_cases hlt : q < 128
    · have hx1 : Hid (xs ++ [UInt8.ofNat q] = varL m) := by unfold Hid; rw [← HX.out, varF_end k q hlt]
      have hbv := Lib.hid (bv_ofNat q (by omega))
      clear HX hqk
      go_wp2_with (at_builtin; refine app_lit rfl _ _ 22 rfl Tryd.underlying22 hi hz0 hz1 hz2 rfl (by decide) rfl hown hb rfl rfl (one_cell1 _ _) (by unfold maxLen; omega) (by omega) ?_; intro v1 w1 hown1 hb1; have hcv := conv_own (l := varL m) Tryd.underlying22 Tryd.underlying5 Tryd.underlying9 (by rw [← hx1.out, List.map_append, List.map_singleton, hbv.out]; exact hown1))
      go_ret
      exact ⟨rfl, hb1⟩
    · obtain ⟨j, hj, hqj, hv⟩ := varF_step k q (by omega) hqk.out
      obtain rfl := hj
      rw [Hid, hv] at HX
      have HX' := Lib.hid HX
      have hqj' := Lib.hid hqj
      have hbv := Lib.hid (bv_ofNat (128 + q % 128) (by omega))
      have ha : bits .and .i64 (q : Int) 127 = (q : Int) % 128 := by have := and127 q (by omega); simpa using this
      have ho : bits .or .i64 ((q : Int) % 128) 128 = 128 + (q : Int) % 128 := by have := or_128 (q % 128) (by omega); simpa using this
      clear HX hqj hv hqk
      go_wp2_with (at_builtin; refine app_lit rfl _ _ 22 rfl Tryd.underlying22 hi hz0 hz1 hz2 rfl (by decide) rfl hown hb rfl rfl (one_cell1 _ _) (by unfold maxLen; omega) (by omega) ?_; intro v1 w1 hown1 hb1)
      go_roundw
      case rel => exact ⟨j, q / 128, xs ++ [UInt8.ofNat (128 + q % 128)], by omega, by omega, by simp; omega, hqj'.out, by go_num, by unfold Hid; rw [← HX'.out]; simp, by rw [List.map_append, List.map_singleton, hbv.out, List.length_append]; exact hown1, hb1⟩
      case measure => simp [intOf]; omega
theorem iVar_any (n : Int) (w : World) :
    Calls Tryd.prog 46 #[.int .i64 n] w fun e w' => e = .returned (.string (S (varS n))) ∧ Below w.heap.size w w' := by
  by_cases h : n < 0 ∨ 562949953421311 < n
  · exact iVar_no n w h
  · obtain ⟨m, rfl⟩ := Int.eq_ofNat_of_zero_le (a := n) (by omega)
    exact iVar_yes m w (by omega)
end Go.Proofs.YtecimgkgdpnaeaaDoor

/-
  Digest, both.
-/
namespace Go.Proofs.YtecimgkgdpnaeaaDoor
open Go.ChangeShapes Go.WideShapes Go.ChangeAt Go.RowKit
set_option linter.unusedVariables false
set_option linter.unusedSimpArgs false
set_option maxRecDepth 100000

/-- What Digest returns. -/
def digestS (x : VoteT) : List UInt8 := if voteOkB x then varS x.h ++ varS x.r ++ varS x.s ++ x.id else []

/-- Four cells of block B are held over a call that makes memory. -/
theorem held4 {w cur wm : World} {B : Nat} {u0 u1 u2 u3 : Value}
    (H : Below w.heap.size w cur ∧ B < cur.heap.size ∧ cur.cell? ⟨B, 0, none⟩ = some u0 ∧ cur.cell? ⟨B, 1, none⟩ = some u1 ∧ cur.cell? ⟨B, 2, none⟩ = some u2 ∧ cur.cell? ⟨B, 3, none⟩ = some u3) (hb : Below cur.heap.size cur wm) :
    Below w.heap.size w wm ∧ B < wm.heap.size ∧ wm.cell? ⟨B, 0, none⟩ = some u0 ∧ wm.cell? ⟨B, 1, none⟩ = some u1 ∧ wm.cell? ⟨B, 2, none⟩ = some u2 ∧ wm.cell? ⟨B, 3, none⟩ = some u3 := by
  obtain ⟨h1, h2, c0, c1, c2, c3⟩ := H
  have k : ∀ i, wm.cell? ⟨B, i, none⟩ = cur.cell? ⟨B, i, none⟩ := fun i => hb.cell (p := ⟨B, i, none⟩) h2
  exact ⟨Below.next h1 hb, Nat.lt_of_lt_of_le h2 hb.size, (k 0).trans c0, (k 1).trans c1, (k 2).trans c2, (k 3).trans c3⟩

theorem iDigest_yes (x : VoteT) (w : World) (hl : x.id.length ≤ 9223372036854775807) (hok : voteOkB x = true) :
    Calls Tryd.prog 100 #[x.val] w fun e w' => e = .returned (.string (S (digestS x))) ∧ Below w.heap.size w w' := by
  have HV : Hid (digestS x = varS x.h ++ varS x.r ++ varS x.s ++ x.id) := by unfold Hid digestS; rw [hok]; rfl
  have hil : x.id.length ≤ 8 := by
    unfold voteOkB isIdB at hok
    simp at hok
    rcases hok.1.2 with h | h
    · omega
    · rw [h]; simp
  obtain ⟨h, r, s, id, v⟩ := x
  have q1 := varS_len h
  have q2 := varS_len r
  have q3 := varS_len s
  have hv : VoteT.val ⟨h, r, s, id, v⟩ = .agg #[.int .i64 h, .int .i64 r, .int .i64 s, .string (S id), .int .i64 v] := rfl
  rw [hv]
  simp only at hl hil HV
  have hb := Below.refl w.heap.size w
  go_enter Tryd.func100, Tryd.ntmps100
  go_wp2_with (go_at_call 98; refine (iVoteOk_any ⟨h, r, s, id, v⟩ _ hl).mono ?_; rintro e wn ⟨rfl, hbn⟩; have hb := Below.next (w := w) (by repeat (first | with_reducible exact hb | with_reducible exact Below.refl _ _ | refine Below.drew ?_ | refine Below.setCell ?_ (by simp <;> omega) _ | refine Below.alloc ?_ (by simp <;> omega) _)) hbn; obtain ⟨hc, hf⟩ := bcell hbn; have hz := hbn.size; (try simp at hz); (try have hz1 : w.heap.size < wn.heap.size := (by omega)); (try have hz2 : w.heap.size + 1 < wn.heap.size := (by omega)); (try have hz3 : w.heap.size + 1 + 1 < wn.heap.size := (by omega)); clear hbn)
  have c0 : wn.cell? ⟨w.heap.size, 0, none⟩ = some (.int .i64 h) := by go_simp
  have c1 : wn.cell? ⟨w.heap.size, 1, none⟩ = some (.int .i64 r) := by go_simp
  have c2 : wn.cell? ⟨w.heap.size, 2, none⟩ = some (.int .i64 s) := by go_simp
  have c3 : wn.cell? ⟨w.heap.size, 3, none⟩ = some (.string (S id)) := by go_simp
  have hz1 : w.heap.size < wn.heap.size := by omega
  have n1 : (varS h).length + (varS r).length ≤ 9223372036854775807 := by omega
  have n2 : (varS h).length + (varS r).length + (varS s).length ≤ 9223372036854775807 := by omega
  have n3 : (varS h).length + (varS r).length + (varS s).length + id.length ≤ 9223372036854775807 := by omega
  have m1 := fun W : World => run_string_add_sum (P := Tryd.prog) W (S (varS h)) (S (varS r)) (by simp; omega)
  have m2 := fun W : World => run_string_add_sum (P := Tryd.prog) W (S (varS h ++ varS r)) (S (varS s)) (by simp; omega)
  have m3 := fun W : World => run_string_add_sum (P := Tryd.prog) W (S (varS h ++ (varS r ++ varS s))) (S id) (by simp; omega)
  clear hc hf
  go_region_held3 (fun w' => Below w.heap.size w w' ∧ w.heap.size < w'.heap.size ∧ w'.cell? ⟨w.heap.size, 0, none⟩ = some (.int .i64 h) ∧ w'.cell? ⟨w.heap.size, 1, none⟩ = some (.int .i64 r) ∧ w'.cell? ⟨w.heap.size, 2, none⟩ = some (.int .i64 s) ∧ w'.cell? ⟨w.heap.size, 3, none⟩ = some (.string (S id))) (first | exact ⟨hb.drew, hz1, c0, c1, c2, c3⟩ | exact held4 (by assumption) hbm | go_keep)
    (first | (go_at_call 46; refine (iVar_any _ _).mono ?_; rintro e wm ⟨rfl, hbm⟩))
  all_goals
    go_wp2
    go_ret
    refine ⟨ret_string (by rw [HV.out]; simp), ?_⟩; apply And.left; assumption

theorem iDigest_no (x : VoteT) (w : World) (hl : x.id.length ≤ 9223372036854775807) (hok : voteOkB x = false) :
    Calls Tryd.prog 100 #[x.val] w fun e w' => e = .returned (.string (S (digestS x))) ∧ Below w.heap.size w w' := by
  have HV : Hid (digestS x = []) := by unfold Hid digestS; rw [hok]; rfl
  obtain ⟨h, r, s, id, v⟩ := x
  have hv : VoteT.val ⟨h, r, s, id, v⟩ = .agg #[.int .i64 h, .int .i64 r, .int .i64 s, .string (S id), .int .i64 v] := rfl
  rw [hv]
  simp only at hl HV
  have hb := Below.refl w.heap.size w
  go_enter Tryd.func100, Tryd.ntmps100
  go_wp2_with (go_at_call 98; refine (iVoteOk_any ⟨h, r, s, id, v⟩ _ hl).mono ?_; rintro e wn ⟨rfl, hbn⟩; have hb := Below.next (w := w) (by repeat (first | with_reducible exact hb | with_reducible exact Below.refl _ _ | refine Below.drew ?_ | refine Below.setCell ?_ (by simp <;> omega) _ | refine Below.alloc ?_ (by simp <;> omega) _)) hbn; obtain ⟨hc, hf⟩ := bcell hbn; have hz := hbn.size; (try simp at hz); (try have hz1 : w.heap.size < wn.heap.size := (by omega)); (try have hz2 : w.heap.size + 1 < wn.heap.size := (by omega)); (try have hz3 : w.heap.size + 1 + 1 < wn.heap.size := (by omega)); clear hbn)
  go_ret
  exact ⟨ret_string (by rw [HV.out]; rfl), hb⟩
theorem iDigest_any (x : VoteT) (w : World) (hl : x.id.length ≤ 9223372036854775807) :
    Calls Tryd.prog 100 #[x.val] w fun e w' => e = .returned (.string (S (digestS x))) ∧ Below w.heap.size w w' := by
  cases hok : voteOkB x
  · exact iDigest_no x w hl hok
  · exact iDigest_yes x w hl hok
theorem sDigest_yes (x : VoteT) (w : World) (hl : x.id.length ≤ 9223372036854775807) (hok : voteOkB x = true) :
    Calls Tryd.prog 96 #[x.val] w fun e w' => e = .returned (.string (S (digestS x))) ∧ Below w.heap.size w w' := by
  have HV : Hid (digestS x = varS x.h ++ varS x.r ++ varS x.s ++ x.id) := by unfold Hid digestS; rw [hok]; rfl
  have hil : x.id.length ≤ 8 := by
    unfold voteOkB isIdB at hok
    simp at hok
    rcases hok.1.2 with h | h
    · omega
    · rw [h]; simp
  obtain ⟨h, r, s, id, v⟩ := x
  have q1 := varS_len h
  have q2 := varS_len r
  have q3 := varS_len s
  have hv : VoteT.val ⟨h, r, s, id, v⟩ = .agg #[.int .i64 h, .int .i64 r, .int .i64 s, .string (S id), .int .i64 v] := rfl
  rw [hv]
  simp only at hl hil HV
  have hb := Below.refl w.heap.size w
  go_enter Tryd.func96, Tryd.ntmps96
  go_wp2_with (go_at_call 59; refine (sVoteOk_any ⟨h, r, s, id, v⟩ _ hl).mono ?_; rintro e wn ⟨rfl, hbn⟩; have hb := Below.next (w := w) (by repeat (first | with_reducible exact hb | with_reducible exact Below.refl _ _ | refine Below.drew ?_ | refine Below.setCell ?_ (by simp <;> omega) _ | refine Below.alloc ?_ (by simp <;> omega) _)) hbn; obtain ⟨hc, hf⟩ := bcell hbn; have hz := hbn.size; (try simp at hz); (try have hz1 : w.heap.size < wn.heap.size := (by omega)); (try have hz2 : w.heap.size + 1 < wn.heap.size := (by omega)); (try have hz3 : w.heap.size + 1 + 1 < wn.heap.size := (by omega)); clear hbn)
  have c0 : wn.cell? ⟨w.heap.size, 0, none⟩ = some (.int .i64 h) := by go_simp
  have c1 : wn.cell? ⟨w.heap.size, 1, none⟩ = some (.int .i64 r) := by go_simp
  have c2 : wn.cell? ⟨w.heap.size, 2, none⟩ = some (.int .i64 s) := by go_simp
  have c3 : wn.cell? ⟨w.heap.size, 3, none⟩ = some (.string (S id)) := by go_simp
  have hz1 : w.heap.size < wn.heap.size := by omega
  have n1 : (varS h).length + (varS r).length ≤ 9223372036854775807 := by omega
  have n2 : (varS h).length + (varS r).length + (varS s).length ≤ 9223372036854775807 := by omega
  have n3 : (varS h).length + (varS r).length + (varS s).length + id.length ≤ 9223372036854775807 := by omega
  have m1 := fun W : World => run_string_add_sum (P := Tryd.prog) W (S (varS h)) (S (varS r)) (by simp; omega)
  have m2 := fun W : World => run_string_add_sum (P := Tryd.prog) W (S (varS h ++ varS r)) (S (varS s)) (by simp; omega)
  have m3 := fun W : World => run_string_add_sum (P := Tryd.prog) W (S (varS h ++ (varS r ++ varS s))) (S id) (by simp; omega)
  clear hc hf
  go_region_held3 (fun w' => Below w.heap.size w w' ∧ w.heap.size < w'.heap.size ∧ w'.cell? ⟨w.heap.size, 0, none⟩ = some (.int .i64 h) ∧ w'.cell? ⟨w.heap.size, 1, none⟩ = some (.int .i64 r) ∧ w'.cell? ⟨w.heap.size, 2, none⟩ = some (.int .i64 s) ∧ w'.cell? ⟨w.heap.size, 3, none⟩ = some (.string (S id))) (first | exact ⟨hb.drew, hz1, c0, c1, c2, c3⟩ | exact held4 (by assumption) hbm | go_keep)
    (first | (go_at_call 61; refine (sVar_any _ _).mono ?_; rintro e wm ⟨rfl, hbm⟩))
  all_goals
    go_wp2
    go_ret
    refine ⟨ret_string (by rw [HV.out]; simp), ?_⟩; apply And.left; assumption

theorem sDigest_no (x : VoteT) (w : World) (hl : x.id.length ≤ 9223372036854775807) (hok : voteOkB x = false) :
    Calls Tryd.prog 96 #[x.val] w fun e w' => e = .returned (.string (S (digestS x))) ∧ Below w.heap.size w w' := by
  have HV : Hid (digestS x = []) := by unfold Hid digestS; rw [hok]; rfl
  obtain ⟨h, r, s, id, v⟩ := x
  have hv : VoteT.val ⟨h, r, s, id, v⟩ = .agg #[.int .i64 h, .int .i64 r, .int .i64 s, .string (S id), .int .i64 v] := rfl
  rw [hv]
  simp only at hl HV
  have hb := Below.refl w.heap.size w
  go_enter Tryd.func96, Tryd.ntmps96
  go_wp2_with (go_at_call 59; refine (sVoteOk_any ⟨h, r, s, id, v⟩ _ hl).mono ?_; rintro e wn ⟨rfl, hbn⟩; have hb := Below.next (w := w) (by repeat (first | with_reducible exact hb | with_reducible exact Below.refl _ _ | refine Below.drew ?_ | refine Below.setCell ?_ (by simp <;> omega) _ | refine Below.alloc ?_ (by simp <;> omega) _)) hbn; obtain ⟨hc, hf⟩ := bcell hbn; have hz := hbn.size; (try simp at hz); (try have hz1 : w.heap.size < wn.heap.size := (by omega)); (try have hz2 : w.heap.size + 1 < wn.heap.size := (by omega)); (try have hz3 : w.heap.size + 1 + 1 < wn.heap.size := (by omega)); clear hbn)
  go_ret
  exact ⟨ret_string (by rw [HV.out]; rfl), hb⟩
theorem sDigest_any (x : VoteT) (w : World) (hl : x.id.length ≤ 9223372036854775807) :
    Calls Tryd.prog 96 #[x.val] w fun e w' => e = .returned (.string (S (digestS x))) ∧ Below w.heap.size w w' := by
  cases hok : voteOkB x
  · exact sDigest_no x w hl hok
  · exact sDigest_yes x w hl hok
end Go.Proofs.YtecimgkgdpnaeaaDoor

/-
  The encodings of validators, headers and commits, plain.
-/
namespace Go.Proofs.YtecimgkgdpnaeaaDoor

def showVal (v : ValT) : List UInt8 := varS v.id ++ varS v.power
/-- What ShowVals returns. -/
def showValsS (l : List ValT) : List UInt8 := if valsOkB l then varS (l.length : Int) ++ l.flatMap showVal else []
theorem showVal_take (l : List ValT) (k : Nat) (h : k < l.length) : (l.take (k + 1)).flatMap showVal = (l.take k).flatMap showVal ++ (varS l[k].id ++ varS l[k].power) := by
  rw [List.take_succ_eq_append_getElem h, List.flatMap_append]; simp [showVal]
theorem showVal_len (l : List ValT) : (l.flatMap showVal).length ≤ 16 * l.length := by
  induction l with
  | nil => simp
  | cons v l ih =>
    have h1 := varS_len v.id
    have h2 := varS_len v.power
    simp only [List.flatMap_cons, List.length_append, showVal, List.length_cons] at ih ⊢
    omega
/-- A text behind its length. -/
def sizedS (l : List UInt8) : List UInt8 := varS (l.length : Int) ++ l
/-- What ShowHeader returns. -/
def showHeadS (x : HeadT) : List UInt8 := if headOkB x then varS x.h ++ varS x.t ++ sizedS x.last ++ sizedS x.vals ++ sizedS x.next ++ sizedS x.data else []
end Go.Proofs.YtecimgkgdpnaeaaDoor

/-
  Reading numbers and texts one behind the other, plain; what ReadHeader and ReadVals return.
-/
namespace Go.Proofs.YtecimgkgdpnaeaaDoor
set_option linter.unusedVariables false
set_option linter.unusedSimpArgs false

/-- What is left to be read, and whether something did not stand there. -/
abbrev Sc := List UInt8 × Bool
def numP (s : Sc) : Nat × Sc := if s.2 = true ∨ (readVarS s.1).2 = 0 then (0, (s.1, true)) else ((readVarS s.1).1, (s.1.drop (readVarS s.1).2, false))
def cutP (s : Sc) (n : Int) : List UInt8 × Sc := if s.2 = true ∨ n < 0 ∨ (s.1.length : Int) < n then ([], (s.1, true)) else (s.1.take n.toNat, (s.1.drop n.toNat, false))
def textP (s : Sc) : List UInt8 × Sc := cutP (numP s).2 (numP s).1
theorem numP_bad (r : List UInt8) : numP (r, true) = (0, (r, true)) := by unfold numP; rw [if_pos (.inl rfl)]
theorem cutP_bad (r : List UInt8) (n : Int) : cutP (r, true) n = ([], (r, true)) := by unfold cutP; rw [if_pos (.inl rfl)]
theorem textP_bad (r : List UInt8) : textP (r, true) = ([], (r, true)) := by unfold textP; rw [numP_bad, cutP_bad]
theorem numP_none {r : List UInt8} (h : (readVarS r).2 = 0) : numP (r, false) = (0, (r, true)) := by unfold numP; rw [if_pos (.inr h)]
theorem numP_some {r : List UInt8} (h : (readVarS r).2 ≠ 0) : numP (r, false) = ((readVarS r).1, (r.drop (readVarS r).2, false)) := by unfold numP; rw [if_neg (by simpa using h)]
theorem cutP_no {r : List UInt8} {n : Int} (h : n < 0 ∨ (r.length : Int) < n) : cutP (r, false) n = ([], (r, true)) := by unfold cutP; rw [if_pos (.inr h)]
theorem cutP_yes {r : List UInt8} {n : Nat} (h : n ≤ r.length) : cutP (r, false) n = (r.take n, (r.drop n, false)) := by
  unfold cutP; rw [if_neg (by simp; omega)]; simp
theorem numP_len (s : Sc) : (numP s).2.1.length ≤ s.1.length := by
  unfold numP; split
  · exact Nat.le_refl _
  · simp
theorem cutP_len (s : Sc) (n : Int) : (cutP s n).2.1.length ≤ s.1.length ∧ (cutP s n).1.length ≤ s.1.length := by
  unfold cutP; split
  · exact ⟨Nat.le_refl _, by simp⟩
  · exact ⟨by simp, by simp; omega⟩
theorem textP_len (s : Sc) : (textP s).2.1.length ≤ s.1.length ∧ (textP s).1.length ≤ s.1.length := by
  have h1 := numP_len s
  have h2 := cutP_len (numP s).2 (numP s).1
  unfold textP; omega
theorem numP_lt (s : Sc) : (numP s).1 < 562949953421312 := by
  unfold numP; split
  · show 0 < 562949953421312; omega
  · rcases readVar_spec s.1 with h | h
    · rw [h.2]; omega
    · exact h.2.2.2.1
/-- Nothing to be read: no number stands there. -/
theorem numP_nil : (numP ([], false)).2.2 = true := rfl
theorem numP_app {n : Int} (h0 : 0 ≤ n) (h1 : n ≤ 562949953421311) (t : List UInt8) : numP (varS n ++ t, false) = (n.toNat, (t, false)) := by
  obtain ⟨m, rfl⟩ := Int.eq_ofNat_of_zero_le h0
  have h := readVar_app m (by omega) t
  have hp := varL_pos m
  rw [varS_yes (by omega), numP_some (by rw [h]; show (varL m).length ≠ 0; omega), h]
  simp
theorem textP_app {x : List UInt8} (h : x.length ≤ 562949953421311) (t : List UInt8) : textP (sizedS x ++ t, false) = (x, (t, false)) := by
  unfold textP sizedS
  rw [List.append_assoc, numP_app (by omega) (by omega)]
  show cutP (x ++ t, false) ((x.length : Int).toNat) = _
  rw [Int.toNat_natCast, cutP_yes (by simp)]
  simp
/-- If it has gone wrong it stays wrong. -/
theorem numP_stay {s : Sc} (h : s.2 = true) : (numP s).2.2 = true := by obtain ⟨r, b⟩ := s; subst h; rw [numP_bad]
theorem textP_stay {s : Sc} (h : s.2 = true) : (textP s).2.2 = true := by obtain ⟨r, b⟩ := s; subst h; rw [textP_bad]
theorem good_num {s : Sc} (h : (numP s).2.2 = false) : s.2 = false := by
  cases hs : s.2
  · rfl
  · rw [numP_stay hs] at h; cases h
theorem good_text {s : Sc} (h : (textP s).2.2 = false) : s.2 = false := by
  cases hs : s.2
  · rfl
  · rw [textP_stay hs] at h; cases h

/-! Headers. -/
def headP (l : List UInt8) : HeadT × Sc :=
  (⟨(numP (l, false)).1, (numP (numP (l, false)).2).1, (textP (numP (numP (l, false)).2).2).1, (textP (textP (numP (numP (l, false)).2).2).2).1,
    (textP (textP (textP (numP (numP (l, false)).2).2).2).2).1, (textP (textP (textP (textP (numP (numP (l, false)).2).2).2).2).2).1⟩,
   (textP (textP (textP (textP (numP (numP (l, false)).2).2).2).2).2).2)
theorem headOk_parts {x : HeadT} (h : headOkB x = true) : (1 ≤ x.h ∧ x.h ≤ 1000000) ∧ (0 ≤ x.t ∧ x.t ≤ 1000000) ∧ x.last.length ≤ 8 ∧ x.vals.length ≤ 8 ∧ x.next.length ≤ 8 ∧ x.data.length ≤ 20 := by
  unfold headOkB at h
  simp only [Bool.and_eq_true, beq_iff_eq, decide_eq_true_eq] at h
  obtain ⟨⟨⟨⟨⟨h1, h2⟩, a⟩, b⟩, c⟩, d⟩ := h
  exact ⟨inB_true h1, inB_true h2, by rw [c]; split <;> omega, by omega, by omega, d⟩
theorem headP_show {x : HeadT} (h : headOkB x = true) : headP (showHeadS x) = (x, ([], false)) := by
  obtain ⟨⟨h1, h2⟩, ⟨h3, h4⟩, l1, l2, l3, l4⟩ := headOk_parts h
  have e : showHeadS x = varS x.h ++ (varS x.t ++ (sizedS x.last ++ (sizedS x.vals ++ (sizedS x.next ++ (sizedS x.data ++ []))))) := by
    unfold showHeadS; rw [if_pos h]; simp
  unfold headP
  rw [e]
  rw [numP_app (by omega) (by omega)]
  rw [numP_app (by omega) (by omega)]
  rw [textP_app (by omega)]
  rw [textP_app (by omega)]
  rw [textP_app (by omega)]
  rw [textP_app (by omega)]
  obtain ⟨h, t, a, b, c, d⟩ := x
  simp only [HeadT.mk.injEq, Prod.mk.injEq, and_true]
  simp only at h1 h3
  exact ⟨by omega, by omega⟩
def zeroHead : HeadT := ⟨0, 0, [], [], [], []⟩
/-- What ReadHeader returns. -/
def readHeadS (l : List UInt8) : HeadT × Bool := if (headP l).2.2 = false ∧ showHeadS (headP l).1 = l ∧ l ≠ [] then ((headP l).1, true) else (zeroHead, false)
theorem showHead_ne {x : HeadT} (h : showHeadS x ≠ []) : headOkB x = true := by
  unfold showHeadS at h
  cases hx : headOkB x
  · rw [hx] at h; exact absurd rfl h
  · rfl
theorem headP_good {l : List UInt8} (h : (headP l).2.2 = false) : (numP (numP (l, false)).2).2.2 = false ∧ l ≠ [] := by
  have h2 := good_text (good_text (good_text (good_text h)))
  refine ⟨h2, fun e => ?_⟩
  subst e
  have h1 := good_num h2
  rw [numP_nil] at h1
  cases h1
/-- The reference asks that all has been read. -/
theorem readHead_spec (l : List UInt8) : readHeadS l = if (headP l).2.2 = false ∧ (headP l).2.1 = [] ∧ showHeadS (headP l).1 = l then ((headP l).1, true) else (zeroHead, false) := by
  unfold readHeadS
  by_cases h : (headP l).2.2 = false ∧ showHeadS (headP l).1 = l
  · obtain ⟨h1, h2⟩ := h
    have hl := (headP_good h1).2
    have hok := showHead_ne (x := (headP l).1) (by rw [h2]; exact hl)
    have hp := headP_show hok
    rw [h2] at hp
    rw [if_pos ⟨h1, h2, hl⟩, if_pos ⟨h1, by rw [hp], h2⟩]
  · rw [if_neg (fun hc => h ⟨hc.1, hc.2.1⟩), if_neg (fun hc => h ⟨hc.1, hc.2.2⟩)]
theorem readHead_show {x : HeadT} (h : headOkB x = true) : readHeadS (showHeadS x) = (x, true) := by
  have hp := headP_show h
  have hne : showHeadS x ≠ [] := fun e => by rw [e] at hp; have h3 : (headP []).2.2 = true := rfl; rw [hp] at h3; cases h3
  unfold readHeadS
  rw [if_pos ⟨by rw [hp], by rw [hp], hne⟩, hp]

/-! Validators. -/
def valsAt (s : Sc) : Nat → List ValT × Sc
  | 0 => ([], s)
  | i + 1 => ((valsAt s i).1 ++ [⟨(numP (valsAt s i).2).1, (numP (numP (valsAt s i).2).2).1⟩], (numP (numP (valsAt s i).2).2).2)
theorem valsAt_len (s : Sc) (i : Nat) : (valsAt s i).1.length = i ∧ (valsAt s i).2.1.length ≤ s.1.length := by
  induction i with
  | zero => exact ⟨rfl, Nat.le_refl _⟩
  | succ i ih =>
    have h1 := numP_len (valsAt s i).2
    have h2 := numP_len (numP (valsAt s i).2).2
    simp only [valsAt, List.length_append, List.length_singleton]
    omega
theorem valsAt_good {s : Sc} {i j : Nat} (h : (valsAt s i).2.2 = true) (hij : i ≤ j) : (valsAt s j).2.2 = true := by
  induction j with
  | zero => obtain rfl : i = 0 := by omega
            exact h
  | succ j ih =>
    rcases Nat.lt_or_ge j i with h1 | h1
    · obtain rfl : i = j + 1 := by omega
      exact h
    · exact numP_stay (numP_stay (ih h1))
theorem valsAt_show (vs : List ValT) (hv : ∀ v ∈ vs, (0 ≤ v.id ∧ v.id ≤ 562949953421311) ∧ (0 ≤ v.power ∧ v.power ≤ 562949953421311)) (t : List UInt8) :
    ∀ i, i ≤ vs.length → valsAt (vs.flatMap showVal ++ t, false) i = (vs.take i, ((vs.drop i).flatMap showVal ++ t, false)) := by
  intro i
  induction i with
  | zero => intro _; rfl
  | succ i ih =>
    intro hi
    obtain ⟨⟨a0, a1⟩, b0, b1⟩ := hv vs[i] (List.getElem_mem (by omega))
    rw [valsAt, ih (by omega), List.drop_eq_getElem_cons (show i < vs.length by omega), List.flatMap_cons]
    unfold showVal
    rw [List.append_assoc, List.append_assoc, numP_app a0 a1, numP_app b0 b1, List.take_succ_eq_append_getElem (show i < vs.length by omega)]
    simp only [Prod.mk.injEq, and_true, List.append_cancel_left_eq, List.cons.injEq]
    obtain ⟨x, y⟩ : ∃ v, v = vs[i] := ⟨_, rfl⟩
    have e : ∀ v : ValT, 0 ≤ v.id → 0 ≤ v.power → (⟨(v.id.toNat : Int), (v.power.toNat : Int)⟩ : ValT) = v := fun v h1 h2 => by
      obtain ⟨p, q⟩ := v; simp only at h1 h2; rw [Int.toNat_of_nonneg h1, Int.toNat_of_nonneg h2]
    exact e _ a0 b0
def valsP (l : List UInt8) : List ValT × Sc := valsAt (numP (l, false)).2 (numP (l, false)).1
/-- What ReadVals returns. -/
def readValsS (l : List UInt8) : List ValT × Bool := if (numP (l, false)).1 ≤ 7 ∧ (valsP l).2.2 = false ∧ showValsS (valsP l).1 = l then ((valsP l).1, true) else ([], false)
theorem showVals_ne {x : List ValT} (h : showValsS x ≠ []) : valsOkB x = true := by
  unfold showValsS at h
  cases hx : valsOkB x
  · rw [hx] at h; exact absurd rfl h
  · rfl
theorem valsP_ne {l : List UInt8} (h : (valsP l).2.2 = false) : l ≠ [] := by
  rintro rfl
  have : (valsP []).2.2 = true := valsAt_good (i := 0) (j := (numP ([], false)).1) numP_nil (by omega)
  rw [this] at h; cases h
theorem ascOk_all : ∀ (l : List ValT) (p : Int), ascOk p l = true → ∀ v ∈ l, valOk1 v = true := by
  intro l
  induction l with
  | nil => intro p _ v hv; simp at hv
  | cons x t ih =>
    intro p h v hv
    simp only [ascOk, Bool.and_eq_true] at h
    rcases List.mem_cons.1 hv with rfl | hv
    · exact h.1
    · exact ih _ h.2.2 v hv
theorem readVals_show {x : List ValT} (h : valsOkB x = true) : readValsS (showValsS x) = (x, true) := by
  obtain ⟨n1, n7⟩ := valsOk_len h
  have hall : ∀ v ∈ x, (0 ≤ v.id ∧ v.id ≤ 562949953421311) ∧ (0 ≤ v.power ∧ v.power ≤ 562949953421311) := fun v hv => by
    have := ascOk_all x 0 (by unfold valsOkB at h; simp only [Bool.and_eq_true] at h; exact h.2) v hv
    unfold valOk1 at this
    simp only [Bool.and_eq_true] at this
    have h1 := inB_true this.1
    have h2 := inB_true this.2
    omega
  have e : showValsS x = varS (x.length : Int) ++ (x.flatMap showVal ++ []) := by unfold showValsS; rw [if_pos h]; simp
  have e1 : numP (showValsS x, false) = (x.length, (x.flatMap showVal ++ [], false)) := by rw [e, numP_app (by omega) (by omega)]; rfl
  have e2 : valsP (showValsS x) = (x, ([], false)) := by
    unfold valsP
    rw [e1]
    show valsAt (x.flatMap showVal ++ [], false) x.length = _
    rw [valsAt_show x hall [] x.length (Nat.le_refl _)]
    simp
  unfold readValsS
  rw [if_pos ⟨by rw [e1]; exact n7, by rw [e2], by rw [e2]⟩, e2]
end Go.Proofs.YtecimgkgdpnaeaaDoor
