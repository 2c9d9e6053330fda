/-
  Texts of this proof, laid into one: Num3, Num5, Dig1, Show0.
-/
import Derived.Test.YtecimgkgdpnaeaaDoorGFnCommit2
import Derived.Test.YtecimgkgdpnaeaaDoorGFnCommit9
import Derived.Test.YtecimgkgdpnaeaaDoorGFnCommit10
import Derived.Deep.RegionHeld3
import Derived.Test.YtecimgkgdpnaeaaDoorGFnCommit8
import Derived.Test.YtecimgkgdpnaeaaDoorGFnCommit6
import Derived.Test.YtecimgkgdpnaeaaDoorGFnCommit5
/-
  Fixed of the program.
-/
namespace Go.Proofs.YtecimgkgdpnaeaaDoor
open Go.ChangeShapes Go.WideShapes Go.ChangeAt Go.RowKit

set_option maxRecDepth 100000

theorem shl_pow (v : Nat) (h2 : v ≤ 7) : wrap64 ((2 : Int) ^ (8 * v)) = ((256 ^ v : Nat) : Int) := by
  match v, h2 with
  | 0, _ => simp [wrap64]
  | 1, _ => simp [wrap64]
  | 2, _ => simp [wrap64]
  | 3, _ => simp [wrap64]
  | 4, _ => simp [wrap64]
  | 5, _ => simp [wrap64]
  | 6, _ => simp [wrap64]
  | 7, _ => simp [wrap64]

set_option maxHeartbeats 400000 in
theorem iFixed_no (n width : Int) (w : World) (h : width < 1 ∨ 7 < width ∨ n < 0) :
    Calls Tryd.prog 111 #[.int .i64 n, .int .i64 width] w fun e w' => e = .returned (.string (S (fixedS n width))) ∧ Below w.heap.size w w' := by
  rw [fixedS_no h]
  by_cases hw : 1 ≤ width ∧ width ≤ 7
  · have hn : n < 0 := by omega
    have h1 : (decide (1 ≤ width) && decide (width ≤ 7)) = true := by simp; omega
    clear h hw
    go_enter Tryd.func111, Tryd.ntmps111
    go_wp2_with (go_at_call 55; refine (within_any _ _ _ _).mono ?_; rintro e w' ⟨rfl, rfl⟩)
    go_ret
    exact ⟨rfl, Below.refl _ _⟩
  · have h1 : (decide (1 ≤ width) && decide (width ≤ 7)) = false := by simp; omega
    clear h hw
    go_enter Tryd.func111, Tryd.ntmps111
    go_wp2_with (go_at_call 55; refine (within_any _ _ _ _).mono ?_; rintro e w' ⟨rfl, rfl⟩)
    go_ret
    exact ⟨rfl, Below.refl _ _⟩

theorem iFixed_big (m v : Nat) (w : World) (h1 : 1 ≤ v) (h2 : v ≤ 7) (hv : 256 ^ v ≤ m) :
    Calls Tryd.prog 111 #[.int .i64 m, .int .i64 v] w fun e w' => e = .returned (.string (S (fixedS m v))) ∧ Below w.heap.size w w' := by
  rw [fixedS_big hv]
  have hw : (decide ((1 : Int) ≤ v) && decide ((v : Int) ≤ 7)) = true := by simp; omega
  have hs := shl_pow v h2
  generalize 256 ^ v = p at *
  go_enter Tryd.func111, Tryd.ntmps111
  go_wp2_with (go_at_call 55; refine (within_any _ _ _ _).mono ?_; rintro e w' ⟨rfl, rfl⟩)
  go_ret
  exact ⟨rfl, Below.refl _ _⟩

theorem fill_step (m v j q : Nat) (hj : j < v) (hq : q = m / 256 ^ j) :
    ((List.replicate (v - j) (0 : UInt8) ++ fixedL j m).map bv).set (v - 1 - j) (.int .u8 ((q % 256 : Nat) : Int)) = (List.replicate (v - (j + 1)) (0 : UInt8) ++ fixedL (j + 1) m).map bv := by
  have e : v - j = (v - (j + 1)) + 1 := by omega
  rw [e, List.replicate_succ', List.append_assoc, List.map_append, List.set_append_right _ _ (by simp; omega)]
  rw [fixedL_succ, ← hq]
  have e2 : v - 1 - j - (List.map bv (List.replicate (v - (j + 1)) 0)).length = 0 := by simp; omega
  rw [e2, List.map_append]
  simp [bv]

set_option maxHeartbeats 400000 in
theorem iFixed_yes (m v : Nat) (w : World) (h1 : 1 ≤ v) (h2 : v ≤ 7) (hv : m < 256 ^ v) (hm : m ≤ 9223372036854775807) :
    Calls Tryd.prog 111 #[.int .i64 m, .int .i64 v] w fun e w' => e = .returned (.string (S (fixedS m v))) ∧ Below w.heap.size w w' := by
  rw [fixedS_yes h1 h2 hv]
  have hw : (decide ((1 : Int) ≤ v) && decide ((v : Int) ≤ 7)) = true := by simp; omega
  have hs := shl_pow v h2
  generalize 256 ^ v = p at *
  obtain ⟨i0, hi, hz0, hz1, hz2⟩ := info_parts info_u8
  go_enter Tryd.func111, Tryd.ntmps111
  go_wp2_with (first
    | (go_at_call 55; refine (within_any _ _ _ _).mono ?_; rintro e w' ⟨rfl, rfl⟩)
    | (at_make; refine wpList_make_full _ rfl _ _ 22 rfl w.heap.size 5 i0 _ 1 Tryd.underlying22 hi hz0 hz1 .i64 .i64 v v v rfl rfl rfl rfl (by rw [hz2]; omega) (by unfold maxLen; omega) (Nat.le_refl _) ?_; intro w1 hown hgrow))
  have hb1 : Below w.heap.size w w1 := (Below.refl _ _).grown hgrow (Nat.le_refl _) (fun _ h => by cases h)
  clear hs
  go_loopw [0, 6] (fun n i wr => ∃ j q : Nat, j ≤ v ∧ q ≤ m ∧ i = .int .i64 ((v : Int) - 1 - j) ∧ n = .int .i64 q ∧ Hid (q = m / 256 ^ j) ∧ wr.ownsRow w.heap.size 5 1 (.slice (some ⟨w.heap.size, 0, none⟩) v v) v ((List.replicate (v - j) (0 : UInt8) ++ fixedL j m).map bv) ∧ Below w.heap.size w wr) (fun _ i _ => (intOf i + 1).toNat)
  case atStart => exact ⟨0, m, by omega, by omega, by simp, rfl, by simp [Hid], by rw [Nat.mul_one, made_bytes] at hown; simpa [fixedL] using hown, hb1⟩
  case round =>
    obtain ⟨j, q, hj, hqm, rfl, rfl, HQ, hown, hb⟩ := hrel
    by_cases hlt : j < v
    · obtain ⟨u0, hc⟩ := own_some hown (j := v - 1 - j) (by omega)
      have hf := hown.frozenAt (v - 1 - j)
      have hba := and255 q (by omega)
      have hst := hown.stored (v - 1 - j) (.int .u8 ((q % 256 : Nat) : Int))
      rw [fill_step m v j q hlt HQ.out] at hst
      have hst1 := Lib.hid hst.1
      clear hst hown
      go_wp2
      go_roundw
      case rel => exact ⟨j + 1, q / 256, by omega, by omega, by go_num, by go_num, by rw [Hid, HQ.out, Nat.div_div_eq_div_mul, ← Nat.pow_succ], by simpa using hst1.out, hb.setCell (Nat.le_refl _) _⟩
      case measure => simp [intOf]; omega
    · have hkv : Hid (j = v) := by unfold Hid; omega
      have hcv := conv_own Tryd.underlying22 Tryd.underlying5 Tryd.underlying9 hown
      go_wp2
      go_ret
      exact ⟨ret_string (by rw [hkv.out]; simp), hb⟩
/-- The program's Fixed, at every argument. -/
theorem iFixed_any (n width : Int) (w : World) (hn : n ≤ 9223372036854775807) :
    Calls Tryd.prog 111 #[.int .i64 n, .int .i64 width] w fun e w' => e = .returned (.string (S (fixedS n width))) ∧ Below w.heap.size w w' := by
  by_cases h : width < 1 ∨ 7 < width ∨ n < 0
  · exact iFixed_no n width w h
  · obtain ⟨m, rfl⟩ := Int.eq_ofNat_of_zero_le (a := n) (by omega)
    obtain ⟨v, rfl⟩ := Int.eq_ofNat_of_zero_le (a := width) (by omega)
    by_cases hv : m < 256 ^ v
    · exact iFixed_yes m v w (by omega) (by omega) hv (by omega)
    · exact iFixed_big m v w (by omega) (by omega) (by omega)
end Go.Proofs.YtecimgkgdpnaeaaDoor

/-
  Var, both.
-/
namespace Go.Proofs.YtecimgkgdpnaeaaDoor
open Go.ChangeShapes Go.WideShapes Go.ChangeAt Go.RowKit
set_option linter.unusedVariables false

theorem sVar_no (n : Int) (w : World) (h : n < 0 ∨ 562949953421311 < n) :
    Calls Tryd.prog 61 #[.int .i64 n] w fun e w' => e = .returned (.string (S (varS n))) ∧ Below w.heap.size w w' := by
  rw [varS_no h]
  go_enter Tryd.func61, Tryd.ntmps61
  go_wp2_with (go_at_call 58; refine (l1In_not _ _ _ _ h).mono ?_; rintro e w' ⟨rfl, rfl⟩)
  go_ret
  exact ⟨rfl, Below.refl _ _⟩
set_option maxRecDepth 100000 in
set_option maxHeartbeats 400000 in
theorem sVar_yes (m : Nat) (w : World) (hm : m ≤ 562949953421311) :
    Calls Tryd.prog 61 #[.int .i64 m] w fun e w' => e = .returned (.string (S (varS m))) ∧ Below w.heap.size w w' := by
  rw [varS_yes hm]
  obtain ⟨i0, hi, hz0, hz1, hz2⟩ := info_parts info_u8
  go_enter Tryd.func61, Tryd.ntmps61
  go_wp2_with (go_at_call 58; refine (l1In_yes _ _ _ _ (by omega) (by omega)).mono ?_; rintro e w' ⟨rfl, rfl⟩)
  go_loopw [0, 3] (fun n out wr => ∃ (k q : Nat) (xs : List UInt8), k ≤ 7 ∧ q ≤ m ∧ xs.length + k ≤ 7 ∧ Hid (q < 128 ^ k) ∧ n = .int .i64 q ∧ Hid (xs ++ varF k q = varL m) ∧ wr.ownsRow w.heap.size 5 1 out xs.length (xs.map bv) ∧ Below w.heap.size w wr) (fun n _ _ => (intOf n).toNat)
  case atStart => 
    refine ⟨7, m, [], by omega, by omega, by simp, by unfold Hid; omega, rfl, rfl, ?_, (Below.refl _ _).alloc (Nat.le_refl _) _⟩
    exact World.ownsRow_lit w #[] 0 (Nat.le_refl _) (by simp [maxLen]) rfl
  case round =>
    obtain ⟨k, q, xs, hk7, hqm, hxk, hqk, rfl, HX, hown, hb⟩ := hrel
    by_cases hlt : q < 128
    · have hx1 : Hid (xs ++ [UInt8.ofNat q] = varL m) := by unfold Hid; rw [← HX.out, varF_end k q hlt]
      have hbv := Lib.hid (bv_ofNat q (by omega))
      clear HX hqk
      go_wp2_with (at_builtin; refine app_lit rfl _ _ 22 rfl Tryd.underlying22 hi hz0 hz1 hz2 rfl (by decide) rfl hown hb rfl rfl (one_cell1 _ _) (by unfold maxLen; omega) (by omega) ?_; intro v1 w1 hown1 hb1; have hcv := conv_own (l := varL m) Tryd.underlying22 Tryd.underlying5 Tryd.underlying9 (by rw [← hx1.out, List.map_append, List.map_singleton, hbv.out]; exact hown1))
      go_ret
      exact ⟨rfl, hb1⟩
    · obtain ⟨j, hj, hqj, hv⟩ := varF_step k q (by omega) hqk.out
      obtain rfl := hj
      rw [Hid, hv] at HX
      have HX' := Lib.hid HX
      have hqj' := Lib.hid hqj
      have hbv := Lib.hid (bv_ofNat (128 + q % 128) (by omega))
      clear HX hqj hv hqk
      go_wp2_with (at_builtin; refine app_lit rfl _ _ 22 rfl Tryd.underlying22 hi hz0 hz1 hz2 rfl (by decide) rfl hown hb rfl rfl (one_cell1 _ _) (by unfold maxLen; omega) (by omega) ?_; intro v1 w1 hown1 hb1)
      go_roundw
      case rel => exact ⟨j, q / 128, xs ++ [UInt8.ofNat (128 + q % 128)], by omega, by omega, by simp; omega, hqj'.out, by go_num, by unfold Hid; rw [← HX'.out]; simp, by rw [List.map_append, List.map_singleton, hbv.out, List.length_append]; exact hown1, hb1⟩
      case measure => simp [intOf]; omega
theorem sVar_any (n : Int) (w : World) :
    Calls Tryd.prog 61 #[.int .i64 n] w fun e w' => e = .returned (.string (S (varS n))) ∧ Below w.heap.size w w' := by
  by_cases h : n < 0 ∨ 562949953421311 < n
  · exact sVar_no n w h
  · obtain ⟨m, rfl⟩ := Int.eq_ofNat_of_zero_le (a := n) (by omega)
    exact sVar_yes m w (by omega)
theorem iVar_no (n : Int) (w : World) (h : n < 0 ∨ 562949953421311 < n) :
    Calls Tryd.prog 46 #[.int .i64 n] w fun e w' => e = .returned (.string (S (varS n))) ∧ Below w.heap.size w w' := by
  rw [varS_no h]
  go_enter Tryd.func46, Tryd.ntmps46
  go_wp2_with (go_at_call 55; refine (within_not _ _ _ _ h).mono ?_; rintro e w' ⟨rfl, rfl⟩)
  go_ret
  exact ⟨rfl, Below.refl _ _⟩
set_option maxRecDepth 100000 in
set_option maxHeartbeats 400000 in
theorem iVar_yes (m : Nat) (w : World) (hm : m ≤ 562949953421311) :
    Calls Tryd.prog 46 #[.int .i64 m] w fun e w' => e = .returned (.string (S (varS m))) ∧ Below w.heap.size w w' := by
  rw [varS_yes hm]
  obtain ⟨i0, hi, hz0, hz1, hz2⟩ := info_parts info_u8
  go_enter Tryd.func46, Tryd.ntmps46
  go_wp2_with (go_at_call 55; refine (within_yes _ _ _ _ (by omega) (by omega)).mono ?_; rintro e w' ⟨rfl, rfl⟩)
  go_loopw [0, 3] (fun n out wr => ∃ (k q : Nat) (xs : List UInt8), k ≤ 7 ∧ q ≤ m ∧ xs.length + k ≤ 7 ∧ Hid (q < 128 ^ k) ∧ n = .int .i64 q ∧ Hid (xs ++ varF k q = varL m) ∧ wr.ownsRow w.heap.size 5 1 out xs.length (xs.map bv) ∧ Below w.heap.size w wr) (fun n _ _ => (intOf n).toNat)
  case atStart => 
    refine ⟨7, m, [], by omega, by omega, by simp, by unfold Hid; omega, rfl, rfl, ?_, (Below.refl _ _).alloc (Nat.le_refl _) _⟩
    exact World.ownsRow_lit w #[] 0 (Nat.le_refl _) (by simp [maxLen]) rfl
  case round =>
    obtain ⟨k, q, xs, hk7, hqm, hxk, hqk, rfl, HX, hown, hb⟩ := hrel
    by_cases hlt : q < 128
    · have hx1 : Hid (xs ++ [UInt8.ofNat q] = varL m) := by unfold Hid; rw [← HX.out, varF_end k q hlt]
      have hbv := Lib.hid (bv_ofNat q (by omega))
      clear HX hqk
      go_wp2_with (at_builtin; refine app_lit rfl _ _ 22 rfl Tryd.underlying22 hi hz0 hz1 hz2 rfl (by decide) rfl hown hb rfl rfl (one_cell1 _ _) (by unfold maxLen; omega) (by omega) ?_; intro v1 w1 hown1 hb1; have hcv := conv_own (l := varL m) Tryd.underlying22 Tryd.underlying5 Tryd.underlying9 (by rw [← hx1.out, List.map_append, List.map_singleton, hbv.out]; exact hown1))
      go_ret
      exact ⟨rfl, hb1⟩
    · obtain ⟨j, hj, hqj, hv⟩ := varF_step k q (by omega) hqk.out
      obtain rfl := hj
      rw [Hid, hv] at HX
      have HX' := Lib.hid HX
      have hqj' := Lib.hid hqj
      have hbv := Lib.hid (bv_ofNat (128 + q % 128) (by omega))
      have ha : bits .and .i64 (q : Int) 127 = (q : Int) % 128 := by have := and127 q (by omega); simpa using this
      have ho : bits .or .i64 ((q : Int) % 128) 128 = 128 + (q : Int) % 128 := by have := or_128 (q % 128) (by omega); simpa using this
      clear HX hqj hv hqk
      go_wp2_with (at_builtin; refine app_lit rfl _ _ 22 rfl Tryd.underlying22 hi hz0 hz1 hz2 rfl (by decide) rfl hown hb rfl rfl (one_cell1 _ _) (by unfold maxLen; omega) (by omega) ?_; intro v1 w1 hown1 hb1)
      go_roundw
      case rel => exact ⟨j, q / 128, xs ++ [UInt8.ofNat (128 + q % 128)], by omega, by omega, by simp; omega, hqj'.out, by go_num, by unfold Hid; rw [← HX'.out]; simp, by rw [List.map_append, List.map_singleton, hbv.out, List.length_append]; exact hown1, hb1⟩
      case measure => simp [intOf]; omega
theorem iVar_any (n : Int) (w : World) :
    Calls Tryd.prog 46 #[.int .i64 n] w fun e w' => e = .returned (.string (S (varS n))) ∧ Below w.heap.size w w' := by
  by_cases h : n < 0 ∨ 562949953421311 < n
  · exact iVar_no n w h
  · obtain ⟨m, rfl⟩ := Int.eq_ofNat_of_zero_le (a := n) (by omega)
    exact iVar_yes m w (by omega)
end Go.Proofs.YtecimgkgdpnaeaaDoor

/-
  Digest, both.
-/
namespace Go.Proofs.YtecimgkgdpnaeaaDoor
open Go.ChangeShapes Go.WideShapes Go.ChangeAt Go.RowKit
set_option linter.unusedVariables false
set_option linter.unusedSimpArgs false
set_option maxRecDepth 100000

/-- What Digest returns. -/
def digestS (x : VoteT) : List UInt8 := if voteOkB x then varS x.h ++ varS x.r ++ varS x.s ++ x.id else []

/-- Four cells of block B are held over a call that makes memory. -/
theorem held4 {w cur wm : World} {B : Nat} {u0 u1 u2 u3 : Value}
    (H : Below w.heap.size w cur ∧ B < cur.heap.size ∧ cur.cell? ⟨B, 0, none⟩ = some u0 ∧ cur.cell? ⟨B, 1, none⟩ = some u1 ∧ cur.cell? ⟨B, 2, none⟩ = some u2 ∧ cur.cell? ⟨B, 3, none⟩ = some u3) (hb : Below cur.heap.size cur wm) :
    Below w.heap.size w wm ∧ B < wm.heap.size ∧ wm.cell? ⟨B, 0, none⟩ = some u0 ∧ wm.cell? ⟨B, 1, none⟩ = some u1 ∧ wm.cell? ⟨B, 2, none⟩ = some u2 ∧ wm.cell? ⟨B, 3, none⟩ = some u3 := by
  obtain ⟨h1, h2, c0, c1, c2, c3⟩ := H
  have k : ∀ i, wm.cell? ⟨B, i, none⟩ = cur.cell? ⟨B, i, none⟩ := fun i => hb.cell (p := ⟨B, i, none⟩) h2
  exact ⟨Below.next h1 hb, Nat.lt_of_lt_of_le h2 hb.size, (k 0).trans c0, (k 1).trans c1, (k 2).trans c2, (k 3).trans c3⟩

theorem iDigest_yes (x : VoteT) (w : World) (hl : x.id.length ≤ 9223372036854775807) (hok : voteOkB x = true) :
    Calls Tryd.prog 100 #[x.val] w fun e w' => e = .returned (.string (S (digestS x))) ∧ Below w.heap.size w w' := by
  have HV : Hid (digestS x = varS x.h ++ varS x.r ++ varS x.s ++ x.id) := by unfold Hid digestS; rw [hok]; rfl
  have hil : x.id.length ≤ 8 := by
    unfold voteOkB isIdB at hok
    simp at hok
    rcases hok.1.2 with h | h
    · omega
    · rw [h]; simp
  obtain ⟨h, r, s, id, v⟩ := x
  have q1 := varS_len h
  have q2 := varS_len r
  have q3 := varS_len s
  have hv : VoteT.val ⟨h, r, s, id, v⟩ = .agg #[.int .i64 h, .int .i64 r, .int .i64 s, .string (S id), .int .i64 v] := rfl
  rw [hv]
  simp only at hl hil HV
  have hb := Below.refl w.heap.size w
  go_enter Tryd.func100, Tryd.ntmps100
  go_wp2_with (go_at_call 98; refine (iVoteOk_any ⟨h, r, s, id, v⟩ _ hl).mono ?_; rintro e wn ⟨rfl, hbn⟩; have hb := Below.next (w := w) (by repeat (first | with_reducible exact hb | with_reducible exact Below.refl _ _ | refine Below.drew ?_ | refine Below.setCell ?_ (by simp <;> omega) _ | refine Below.alloc ?_ (by simp <;> omega) _)) hbn; obtain ⟨hc, hf⟩ := bcell hbn; have hz := hbn.size; (try simp at hz); (try have hz1 : w.heap.size < wn.heap.size := (by omega)); (try have hz2 : w.heap.size + 1 < wn.heap.size := (by omega)); (try have hz3 : w.heap.size + 1 + 1 < wn.heap.size := (by omega)); clear hbn)
  have c0 : wn.cell? ⟨w.heap.size, 0, none⟩ = some (.int .i64 h) := by go_simp
  have c1 : wn.cell? ⟨w.heap.size, 1, none⟩ = some (.int .i64 r) := by go_simp
  have c2 : wn.cell? ⟨w.heap.size, 2, none⟩ = some (.int .i64 s) := by go_simp
  have c3 : wn.cell? ⟨w.heap.size, 3, none⟩ = some (.string (S id)) := by go_simp
  have hz1 : w.heap.size < wn.heap.size := by omega
  have n1 : (varS h).length + (varS r).length ≤ 9223372036854775807 := by omega
  have n2 : (varS h).length + (varS r).length + (varS s).length ≤ 9223372036854775807 := by omega
  have n3 : (varS h).length + (varS r).length + (varS s).length + id.length ≤ 9223372036854775807 := by omega
  have m1 := fun W : World => run_string_add_sum (P := Tryd.prog) W (S (varS h)) (S (varS r)) (by simp; omega)
  have m2 := fun W : World => run_string_add_sum (P := Tryd.prog) W (S (varS h ++ varS r)) (S (varS s)) (by simp; omega)
  have m3 := fun W : World => run_string_add_sum (P := Tryd.prog) W (S (varS h ++ (varS r ++ varS s))) (S id) (by simp; omega)
  clear hc hf
  go_region_held3 (fun w' => Below w.heap.size w w' ∧ w.heap.size < w'.heap.size ∧ w'.cell? ⟨w.heap.size, 0, none⟩ = some (.int .i64 h) ∧ w'.cell? ⟨w.heap.size, 1, none⟩ = some (.int .i64 r) ∧ w'.cell? ⟨w.heap.size, 2, none⟩ = some (.int .i64 s) ∧ w'.cell? ⟨w.heap.size, 3, none⟩ = some (.string (S id))) (first | exact ⟨hb.drew, hz1, c0, c1, c2, c3⟩ | exact held4 (by assumption) hbm | go_keep)
    (first | (go_at_call 46; refine (iVar_any _ _).mono ?_; rintro e wm ⟨rfl, hbm⟩))
  all_goals
    go_wp2
    go_ret
    refine ⟨ret_string (by rw [HV.out]; simp), ?_⟩; apply And.left; assumption

theorem iDigest_no (x : VoteT) (w : World) (hl : x.id.length ≤ 9223372036854775807) (hok : voteOkB x = false) :
    Calls Tryd.prog 100 #[x.val] w fun e w' => e = .returned (.string (S (digestS x))) ∧ Below w.heap.size w w' := by
  have HV : Hid (digestS x = []) := by unfold Hid digestS; rw [hok]; rfl
  obtain ⟨h, r, s, id, v⟩ := x
  have hv : VoteT.val ⟨h, r, s, id, v⟩ = .agg #[.int .i64 h, .int .i64 r, .int .i64 s, .string (S id), .int .i64 v] := rfl
  rw [hv]
  simp only at hl HV
  have hb := Below.refl w.heap.size w
  go_enter Tryd.func100, Tryd.ntmps100
  go_wp2_with (go_at_call 98; refine (iVoteOk_any ⟨h, r, s, id, v⟩ _ hl).mono ?_; rintro e wn ⟨rfl, hbn⟩; have hb := Below.next (w := w) (by repeat (first | with_reducible exact hb | with_reducible exact Below.refl _ _ | refine Below.drew ?_ | refine Below.setCell ?_ (by simp <;> omega) _ | refine Below.alloc ?_ (by simp <;> omega) _)) hbn; obtain ⟨hc, hf⟩ := bcell hbn; have hz := hbn.size; (try simp at hz); (try have hz1 : w.heap.size < wn.heap.size := (by omega)); (try have hz2 : w.heap.size + 1 < wn.heap.size := (by omega)); (try have hz3 : w.heap.size + 1 + 1 < wn.heap.size := (by omega)); clear hbn)
  go_ret
  exact ⟨ret_string (by rw [HV.out]; rfl), hb⟩
theorem iDigest_any (x : VoteT) (w : World) (hl : x.id.length ≤ 9223372036854775807) :
    Calls Tryd.prog 100 #[x.val] w fun e w' => e = .returned (.string (S (digestS x))) ∧ Below w.heap.size w w' := by
  cases hok : voteOkB x
  · exact iDigest_no x w hl hok
  · exact iDigest_yes x w hl hok
theorem sDigest_yes (x : VoteT) (w : World) (hl : x.id.length ≤ 9223372036854775807) (hok : voteOkB x = true) :
    Calls Tryd.prog 96 #[x.val] w fun e w' => e = .returned (.string (S (digestS x))) ∧ Below w.heap.size w w' := by
  have HV : Hid (digestS x = varS x.h ++ varS x.r ++ varS x.s ++ x.id) := by unfold Hid digestS; rw [hok]; rfl
  have hil : x.id.length ≤ 8 := by
    unfold voteOkB isIdB at hok
    simp at hok
    rcases hok.1.2 with h | h
    · omega
    · rw [h]; simp
  obtain ⟨h, r, s, id, v⟩ := x
  have q1 := varS_len h
  have q2 := varS_len r
  have q3 := varS_len s
  have hv : VoteT.val ⟨h, r, s, id, v⟩ = .agg #[.int .i64 h, .int .i64 r, .int .i64 s, .string (S id), .int .i64 v] := rfl
  rw [hv]
  simp only at hl hil HV
  have hb := Below.refl w.heap.size w
  go_enter Tryd.func96, Tryd.ntmps96
  go_wp2_with (go_at_call 59; refine (sVoteOk_any ⟨h, r, s, id, v⟩ _ hl).mono ?_; rintro e wn ⟨rfl, hbn⟩; have hb := Below.next (w := w) (by repeat (first | with_reducible exact hb | with_reducible exact Below.refl _ _ | refine Below.drew ?_ | refine Below.setCell ?_ (by simp <;> omega) _ | refine Below.alloc ?_ (by simp <;> omega) _)) hbn; obtain ⟨hc, hf⟩ := bcell hbn; have hz := hbn.size; (try simp at hz); (try have hz1 : w.heap.size < wn.heap.size := (by omega)); (try have hz2 : w.heap.size + 1 < wn.heap.size := (by omega)); (try have hz3 : w.heap.size + 1 + 1 < wn.heap.size := (by omega)); clear hbn)
  have c0 : wn.cell? ⟨w.heap.size, 0, none⟩ = some (.int .i64 h) := by go_simp
  have c1 : wn.cell? ⟨w.heap.size, 1, none⟩ = some (.int .i64 r) := by go_simp
  have c2 : wn.cell? ⟨w.heap.size, 2, none⟩ = some (.int .i64 s) := by go_simp
  have c3 : wn.cell? ⟨w.heap.size, 3, none⟩ = some (.string (S id)) := by go_simp
  have hz1 : w.heap.size < wn.heap.size := by omega
  have n1 : (varS h).length + (varS r).length ≤ 9223372036854775807 := by omega
  have n2 : (varS h).length + (varS r).length + (varS s).length ≤ 9223372036854775807 := by omega
  have n3 : (varS h).length + (varS r).length + (varS s).length + id.length ≤ 9223372036854775807 := by omega
  have m1 := fun W : World => run_string_add_sum (P := Tryd.prog) W (S (varS h)) (S (varS r)) (by simp; omega)
  have m2 := fun W : World => run_string_add_sum (P := Tryd.prog) W (S (varS h ++ varS r)) (S (varS s)) (by simp; omega)
  have m3 := fun W : World => run_string_add_sum (P := Tryd.prog) W (S (varS h ++ (varS r ++ varS s))) (S id) (by simp; omega)
  clear hc hf
  go_region_held3 (fun w' => Below w.heap.size w w' ∧ w.heap.size < w'.heap.size ∧ w'.cell? ⟨w.heap.size, 0, none⟩ = some (.int .i64 h) ∧ w'.cell? ⟨w.heap.size, 1, none⟩ = some (.int .i64 r) ∧ w'.cell? ⟨w.heap.size, 2, none⟩ = some (.int .i64 s) ∧ w'.cell? ⟨w.heap.size, 3, none⟩ = some (.string (S id))) (first | exact ⟨hb.drew, hz1, c0, c1, c2, c3⟩ | exact held4 (by assumption) hbm | go_keep)
    (first | (go_at_call 61; refine (sVar_any _ _).mono ?_; rintro e wm ⟨rfl, hbm⟩))
  all_goals
    go_wp2
    go_ret
    refine ⟨ret_string (by rw [HV.out]; simp), ?_⟩; apply And.left; assumption

theorem sDigest_no (x : VoteT) (w : World) (hl : x.id.length ≤ 9223372036854775807) (hok : voteOkB x = false) :
    Calls Tryd.prog 96 #[x.val] w fun e w' => e = .returned (.string (S (digestS x))) ∧ Below w.heap.size w w' := by
  have HV : Hid (digestS x = []) := by unfold Hid digestS; rw [hok]; rfl
  obtain ⟨h, r, s, id, v⟩ := x
  have hv : VoteT.val ⟨h, r, s, id, v⟩ = .agg #[.int .i64 h, .int .i64 r, .int .i64 s, .string (S id), .int .i64 v] := rfl
  rw [hv]
  simp only at hl HV
  have hb := Below.refl w.heap.size w
  go_enter Tryd.func96, Tryd.ntmps96
  go_wp2_with (go_at_call 59; refine (sVoteOk_any ⟨h, r, s, id, v⟩ _ hl).mono ?_; rintro e wn ⟨rfl, hbn⟩; have hb := Below.next (w := w) (by repeat (first | with_reducible exact hb | with_reducible exact Below.refl _ _ | refine Below.drew ?_ | refine Below.setCell ?_ (by simp <;> omega) _ | refine Below.alloc ?_ (by simp <;> omega) _)) hbn; obtain ⟨hc, hf⟩ := bcell hbn; have hz := hbn.size; (try simp at hz); (try have hz1 : w.heap.size < wn.heap.size := (by omega)); (try have hz2 : w.heap.size + 1 < wn.heap.size := (by omega)); (try have hz3 : w.heap.size + 1 + 1 < wn.heap.size := (by omega)); clear hbn)
  go_ret
  exact ⟨ret_string (by rw [HV.out]; rfl), hb⟩
theorem sDigest_any (x : VoteT) (w : World) (hl : x.id.length ≤ 9223372036854775807) :
    Calls Tryd.prog 96 #[x.val] w fun e w' => e = .returned (.string (S (digestS x))) ∧ Below w.heap.size w w' := by
  cases hok : voteOkB x
  · exact sDigest_no x w hl hok
  · exact sDigest_yes x w hl hok
end Go.Proofs.YtecimgkgdpnaeaaDoor

/-
  The encodings of validators, headers and commits, plain.
-/
namespace Go.Proofs.YtecimgkgdpnaeaaDoor

def showVal (v : ValT) : List UInt8 := varS v.id ++ varS v.power
/-- What ShowVals returns. -/
def showValsS (l : List ValT) : List UInt8 := if valsOkB l then varS (l.length : Int) ++ l.flatMap showVal else []
theorem showVal_take (l : List ValT) (k : Nat) (h : k < l.length) : (l.take (k + 1)).flatMap showVal = (l.take k).flatMap showVal ++ (varS l[k].id ++ varS l[k].power) := by
  rw [List.take_succ_eq_append_getElem h, List.flatMap_append]; simp [showVal]
theorem showVal_len (l : List ValT) : (l.flatMap showVal).length ≤ 16 * l.length := by
  induction l with
  | nil => simp
  | cons v l ih =>
    have h1 := varS_len v.id
    have h2 := varS_len v.power
    simp only [List.flatMap_cons, List.length_append, showVal, List.length_cons] at ih ⊢
    omega
/-- A text behind its length. -/
def sizedS (l : List UInt8) : List UInt8 := varS (l.length : Int) ++ l
/-- What ShowHeader returns. -/
def showHeadS (x : HeadT) : List UInt8 := if headOkB x then varS x.h ++ varS x.t ++ sizedS x.last ++ sizedS x.vals ++ sizedS x.next ++ sizedS x.data else []
end Go.Proofs.YtecimgkgdpnaeaaDoor
