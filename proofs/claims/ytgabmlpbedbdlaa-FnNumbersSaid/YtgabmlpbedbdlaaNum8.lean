/-
  Dec of the program.
-/
import Derived.Test.YtgabmlpbedbdlaaNum1
import Derived.Test.YtgabmlpbedbdlaaMath6
import Derived.RegionTactic
import Derived.Deep.AppendLies
namespace Go.Proofs.Ytgabmlpbedbdlaa
open Go.ChangeShapes Go.WideShapes Go.ChangeAt Go.RowKit
set_option linter.unusedVariables false
set_option maxRecDepth 100000

/-- What holds at the head of the loop that gathers the digits of m, the lowest first. -/
def DecR (w : World) (m : Nat) (s : Int) (out n : Value) (wr : World) : Prop :=
  ∃ (k q : Nat) (xs : List UInt8), k ≤ 19 ∧ q ≤ m ∧ xs.length + k ≤ 19 ∧ Hid (q < 10 ^ k) ∧ n = .int .i64 (s * q) ∧ Hid (decF k q ++ xs.reverse = decF 19 m) ∧ 0 < q + xs.length ∧ wr.ownsRow w.heap.size 5 1 out xs.length (xs.map bv) ∧ Below w.heap.size w wr
theorem iDec_zero (w : World) : Calls Try.prog 30 #[.int .i64 0] w fun e w' => e = .returned (.string (S (decS 0))) ∧ Below w.heap.size w w' := by
  go_enter Try.func30, Try.ntmps30
  go_wp2
  go_ret
  exact ⟨rfl, Below.refl _ _⟩

set_option maxHeartbeats 800000 in
theorem iDec_pos (m : Nat) (w : World) (h0 : 0 < m) (hm : m ≤ 9223372036854775807) :
    Calls Try.prog 30 #[.int .i64 m] w fun e w' => e = .returned (.string (S (decS m))) ∧ Below w.heap.size w w' := by
  rw [decS_pos h0]
  obtain ⟨i0, hi, hz0, hz1, hz2⟩ := info_parts info_u8
  go_enter Try.func30, Try.ntmps30
  go_wp2
  go_loopw [3, 4, 5] (fun out n d wr => DecR w m 1 out n wr) (fun _ n _ _ => (intOf n).toNat)
  case atStart =>
    refine ⟨19, m, [], by omega, by omega, by simp, by unfold Hid; omega, by simp, by simp [Hid], by simp; omega, ?_, (Below.refl _ _).alloc (Nat.le_refl _) _⟩
    exact World.ownsRow_lit w #[] 0 (Nat.le_refl _) (by simp [maxLen]) rfl
  case round =>
    obtain ⟨k, q, xs, hk, hqm, hxk, hqk, rfl, HX, HN, hown, hb⟩ := hrel
    rw [Int.one_mul]
    by_cases hq : q = 0
    · subst hq
      rw [Hid, decF_zero] at HX
      have HX' := Lib.hid HX
      have hpos : 0 < xs.length := by omega
      obtain ⟨g, cap, rfl, _, _⟩ := hown.form hpos
      obtain ⟨N, hN⟩ : ∃ N, N = xs.length := ⟨_, rfl⟩
      obtain ⟨ws, hws⟩ : ∃ ws, ws = xs := ⟨_, rfl⟩
      have hwl : Hid (ws.length = N) := by unfold Hid; rw [hN, hws]
      have HW : Hid (ws.reverse = decF 19 m) := by unfold Hid; rw [hws]; exact HX'.out
      have hown0 := hown
      have hb0 := hb
      rw [← hN] at hown0 hpos hxk
      rw [← hN]
      rw [← hws] at hown0
      clear HX HX' hqk HN hown hb hN hws
      go_wp2
      go_loopw [6, 7] (fun i j wr => ∃ (k : Nat) (ys : List UInt8), k ≤ N ∧ i = .int .i64 k ∧ j = .int .i64 ((N : Int) - 1 - k) ∧ Hid (TurnedN N k ws ys) ∧ wr.ownsRow w.heap.size 5 1 (.slice (some ⟨g, 0, none⟩) N cap) N (ys.map bv) ∧ Below w.heap.size w wr) (fun i _ _ => N - (intOf i).toNat)
      case atStart => exact ⟨0, ws, by omega, rfl, by simp, TurnedN.start hwl.out, hown0, hb0⟩
      case round =>
        obtain ⟨t, ys, ht, rfl, rfl, HT, hown, hb⟩ := hrel
        by_cases hlt : t < N - 1 - t
        · have hyl := HT.out.len
          have ha : ys[t]? = some ys[t] := List.getElem?_eq_getElem (by omega)
          have hc : ys[N - 1 - t]? = some ys[N - 1 - t] := List.getElem?_eq_getElem (by omega)
          have HT' := Lib.hid (HT.out.step hlt ha hc)
          generalize ys[t] = x at *
          generalize ys[N - 1 - t] = y at *
          have h1 : wr.cell? ⟨g, t, none⟩ = some (.int .u8 (x.toNat : Int)) := by rw [hown.cellAt t (by omega), List.getElem?_map, ha]; rfl
          have h2 : wr.cell? ⟨g, N - 1 - t, none⟩ = some (.int .u8 (y.toNat : Int)) := by rw [hown.cellAt _ (by omega), List.getElem?_map, hc]; rfl
          have f1 := hown.frozenAt t
          have f2 := hown.frozenAt (N - 1 - t)
          have hgw : w.heap.size ≤ g := (hown.lt g rfl).1
          have ho2 := Lib.hid (((hown.stored t (bv y)).1.stored (N - 1 - t) (bv x)).1)
          clear ha hc hyl HT hown
          go_wp2
          go_region
          go_wp2
          go_roundw
          case rel => exact ⟨t + 1, _, by omega, by go_num, by go_num, HT'.out, by rw [List.map_set, List.map_set]; exact ho2.out, ((hb.setCell hgw _).setCell hgw _).drew⟩
          case measure => simp [intOf]; omega
        · have HF := Lib.hid (HT.out.fin hlt)
          have hcv := conv_own Try.underlying31 Try.underlying5 Try.underlying9 hown
          go_wp2
          go_ret
          exact ⟨ret_string (by rw [HF.out, ← HW.out]), hb⟩
    · obtain ⟨j, hj, hqj, hv⟩ := decF_step k q (by omega) hqk.out
      obtain rfl := hj
      rw [Hid, hv] at HX
      have HX' := Lib.hid HX
      have hqj' := Lib.hid hqj
      have hbv := Lib.hid (bv_ofNat (48 + q % 10) (by omega))
      clear HX hqj hv hqk
      go_wp2_with (at_builtin; refine app_lit rfl _ _ 31 rfl Try.underlying31 hi hz0 hz1 hz2 rfl (by decide) rfl hown hb rfl rfl (one_cell1 _ _) (by unfold maxLen; omega) (by omega) ?_; intro v1 w1 hown1 hb1)
      go_roundw
      case rel => exact ⟨j, q / 10, xs ++ [UInt8.ofNat (48 + q % 10)], by omega, by omega, by simp; omega, hqj'.out, by simp, by unfold Hid; rw [← HX'.out]; simp, by rw [List.length_append, List.length_singleton]; omega, by rw [List.map_append, List.map_singleton, hbv.out, List.length_append]; exact hown1, hb1⟩
      case measure => simp [intOf]; omega
set_option maxHeartbeats 800000 in
theorem iDec_neg (m : Nat) (w : World) (h0 : 0 < m) (hm : m ≤ 9223372036854775808) :
    Calls Try.prog 30 #[.int .i64 (-(m : Int))] w fun e w' => e = .returned (.string (S (decS (-(m : Int))))) ∧ Below w.heap.size w w' := by
  rw [decS_neg h0]
  obtain ⟨i0, hi, hz0, hz1, hz2⟩ := info_parts info_u8
  go_enter Try.func30, Try.ntmps30
  go_wp2
  go_loopw [3, 4, 5] (fun out n d wr => DecR w m (-1) out n wr) (fun _ n _ _ => (-(intOf n)).toNat)
  case atStart =>
    refine ⟨19, m, [], by omega, by omega, by simp, by unfold Hid; omega, by simp, by simp [Hid], by simp; omega, ?_, (Below.refl _ _).alloc (Nat.le_refl _) _⟩
    exact World.ownsRow_lit w #[] 0 (Nat.le_refl _) (by simp [maxLen]) rfl
  case round =>
    obtain ⟨k, q, xs, hk, hqm, hxk, hqk, rfl, HX, HN, hown, hb⟩ := hrel
    rw [Int.neg_one_mul]
    by_cases hq : q = 0
    · subst hq
      rw [Hid, decF_zero] at HX
      have HX' := Lib.hid HX
      have hm0 : -(m : Int) < 0 := by omega
      clear HX hqk HN
      go_wp2_with (at_builtin; refine app_lit rfl _ _ 31 rfl Try.underlying31 hi hz0 hz1 hz2 rfl (by decide) rfl hown hb rfl rfl (one_cell1 _ _) (by unfold maxLen; omega) (by omega) ?_; intro v1 w1 hown1 hb1; obtain ⟨g, cap, rfl, _, _⟩ := hown1.form (by omega))
      obtain ⟨N, hN⟩ : ∃ N, xs.length + 1 = N := ⟨_, rfl⟩
      obtain ⟨ws, hws⟩ : ∃ ws, ws = xs ++ [45] := ⟨_, rfl⟩
      have hwl : Hid (ws.length = N) := by unfold Hid; rw [← hN, hws]; simp
      have HW : Hid (ws.reverse = 45 :: decF 19 m) := by unfold Hid; rw [hws, List.reverse_append]; show 45 :: xs.reverse = _; rw [← HX'.out]; rfl
      have hown0 : w1.ownsRow w.heap.size 5 1 (.slice (some ⟨g, 0, none⟩) N cap) N (ws.map bv) := by rw [← hN, hws, List.map_append]; exact hown1
      have hb0 := hb1
      have hN1 : N ≤ 20 := by omega
      rw [hN]
      have HN' := Lib.hid hN
      clear HX' hown hb hown1 hb1 hN hws
      go_loopw [6, 7] (fun i j wr => ∃ (k : Nat) (ys : List UInt8), k ≤ N ∧ i = .int .i64 k ∧ j = .int .i64 ((N : Int) - 1 - k) ∧ Hid (TurnedN N k ws ys) ∧ wr.ownsRow w.heap.size 5 1 (.slice (some ⟨g, 0, none⟩) N cap) N (ys.map bv) ∧ Below w.heap.size w wr) (fun i _ _ => N - (intOf i).toNat)
      case atStart => exact ⟨0, ws, by omega, rfl, by have := HN'.out; simp; omega, TurnedN.start hwl.out, hown0, hb0⟩
      case round =>
        obtain ⟨t, ys, ht, rfl, rfl, HT, hown, hb⟩ := hrel
        by_cases hlt : t < N - 1 - t
        · have hyl := HT.out.len
          have ha : ys[t]? = some ys[t] := List.getElem?_eq_getElem (by omega)
          have hc : ys[N - 1 - t]? = some ys[N - 1 - t] := List.getElem?_eq_getElem (by omega)
          have HT' := Lib.hid (HT.out.step hlt ha hc)
          generalize ys[t] = x at *
          generalize ys[N - 1 - t] = y at *
          have h1 : wr.cell? ⟨g, t, none⟩ = some (.int .u8 (x.toNat : Int)) := by rw [hown.cellAt t (by omega), List.getElem?_map, ha]; rfl
          have h2 : wr.cell? ⟨g, N - 1 - t, none⟩ = some (.int .u8 (y.toNat : Int)) := by rw [hown.cellAt _ (by omega), List.getElem?_map, hc]; rfl
          have f1 := hown.frozenAt t
          have f2 := hown.frozenAt (N - 1 - t)
          have hgw : w.heap.size ≤ g := (hown.lt g rfl).1
          have ho2 := Lib.hid (((hown.stored t (bv y)).1.stored (N - 1 - t) (bv x)).1)
          clear ha hc hyl HT hown
          go_wp2
          go_region
          go_wp2
          go_roundw
          case rel => exact ⟨t + 1, _, by omega, by go_num, by go_num, HT'.out, by rw [List.map_set, List.map_set]; exact ho2.out, ((hb.setCell hgw _).setCell hgw _).drew⟩
          case measure => simp [intOf]; omega
        · have HF := Lib.hid (HT.out.fin hlt)
          have hcv := conv_own Try.underlying31 Try.underlying5 Try.underlying9 hown
          go_wp2
          go_ret
          exact ⟨ret_string (by rw [HF.out, ← HW.out]), hb⟩
    · obtain ⟨j, hj, hqj, hv⟩ := decF_step k q (by omega) hqk.out
      obtain rfl := hj
      rw [Hid, hv] at HX
      have HX' := Lib.hid HX
      have hqj' := Lib.hid hqj
      have htm := tmod_neg q
      have htd := tdiv_neg q
      have hbv := Lib.hid (bv_ofNat (48 + q % 10) (by omega))
      clear HX hqj hv hqk
      go_wp2_with (at_builtin; refine app_lit rfl _ _ 31 rfl Try.underlying31 hi hz0 hz1 hz2 rfl (by decide) rfl hown hb rfl rfl (one_cell1 _ _) (by unfold maxLen; omega) (by omega) ?_; intro v1 w1 hown1 hb1)
      · go_roundw
        case rel => exact ⟨j, q / 10, xs ++ [UInt8.ofNat (48 + q % 10)], by omega, by omega, by simp; omega, hqj'.out, by simp, by unfold Hid; rw [← HX'.out]; simp, by rw [List.length_append, List.length_singleton]; omega, by rw [List.map_append, List.map_singleton, hbv.out, List.length_append]; exact hown1, hb1⟩
        case measure => simp [intOf]; omega
      · have hle : (q : Int) % 10 ≤ 0 := by assumption
        have ez : (48 + -((q : Int) % 10)) = ((48 + q % 10 : Nat) : Int) := by omega
        rw [ez] at hown1
        go_roundw
        case rel => exact ⟨j, q / 10, xs ++ [UInt8.ofNat (48 + q % 10)], by omega, by omega, by simp; omega, hqj'.out, by simp, by unfold Hid; rw [← HX'.out]; simp, by rw [List.length_append, List.length_singleton]; omega, by rw [List.map_append, List.map_singleton, hbv.out, List.length_append]; exact hown1, hb1⟩
        case measure => simp [intOf]; omega
theorem iDec_any (n : Int) (w : World) (h1 : n ≤ 9223372036854775807) (h2 : -9223372036854775808 ≤ n) :
    Calls Try.prog 30 #[.int .i64 n] w fun e w' => e = .returned (.string (S (decS n))) ∧ Below w.heap.size w w' := by
  rcases Int.lt_trichotomy n 0 with h | rfl | h
  · obtain ⟨m, hm⟩ := Int.eq_ofNat_of_zero_le (a := -n) (by omega)
    obtain rfl : n = -(m : Int) := by omega
    exact iDec_neg m w (by omega) (by omega)
  · exact iDec_zero w
  · obtain ⟨m, rfl⟩ := Int.eq_ofNat_of_zero_le (a := n) (by omega)
    exact iDec_pos m w (by omega) (by omega)
end Go.Proofs.Ytgabmlpbedbdlaa
