/-
  The digits of a message: both sides.
-/
import Derived.Test.YtllfnhkloaenhaaDoorHs3
namespace Go.Proofs.YtllfnhkloaenhaaDoor
open Go.ChangeShapes Go.WideShapes Go.ChangeAt Go.RowKit
set_option linter.unusedVariables false
set_option linter.unusedSimpArgs false
set_option maxRecDepth 100000

def dv (d : Nat) : Value := .int .i64 (d : Int)
theorem and3 (q : Nat) (h : q ≤ 9223372036854775807) : bits .and .i64 (q : Int) 3 = ((q % 4 : Nat) : Int) := by
  have := and_i64 q 3 (by omega) (by omega)
  rw [show (3 : Nat) = 2 ^ 2 - 1 from rfl, Nat.and_two_pow_sub_one_eq_mod] at this
  exact this
theorem digits_cells {w : World} {base g cap : Nat} {msg : List UInt8} (h : w.ownsRow base 3 1 (.slice (some ⟨g, 0, none⟩) 11 cap) 11 ((digitsS msg).map dv)) : g < w.heap.size ∧ ∀ j, j < 11 → w.cell? ⟨g, j, none⟩ = some (.int .i64 (((digitsS msg).getD j 0 : Nat) : Int)) := by
  obtain ⟨b, c, hv, _, hlt⟩ := h.form (by omega)
  simp only [Value.slice.injEq, Option.some.injEq, Addr.mk.injEq] at hv
  obtain ⟨⟨rfl, _, _⟩, _, _⟩ := hv
  refine ⟨hlt, fun j hj => ?_⟩
  rw [h.cellAt j (by omega), List.getElem?_map, List.getD]
  have : j < (digitsS msg).length := by rw [digitsS_len]; exact hj
  rw [List.getElem?_eq_getElem this]; rfl
theorem three_one (a b c : Int) : ∀ u ∈ (#[Value.int .i64 a, Value.int .i64 b, Value.int .i64 c] : Array Value).toList, u.oneCell' = true := by
  intro u hu; simp at hu; rcases hu with rfl | rfl | rfl <;> rfl

set_option maxHeartbeats 4000000 in
theorem iDigits_any (msg : List UInt8) (w : World) (hl : msg.length ≤ 4194304) (hK : HasK w) :
    Calls Tryd.prog 13 #[.string (S msg)] w fun e w' => ∃ g cap, e = .returned (.slice (some ⟨g, 0, none⟩) 11 cap) ∧ g < w'.heap.size ∧ (∀ j, j < 11 → w'.cell? ⟨g, j, none⟩ = some (.int .i64 (((digitsS msg).getD j 0 : Nat) : Int))) ∧ Below w.heap.size w w' := by
  obtain ⟨i0, hi, hz0, hz1, hz2⟩ := info_parts infoI
  have HS := Lib.hid (iSha_any msg w hl hK)
  have HV : Hid (digitsS msg = digs (shaS msg) 8 ++ [digSum (shaS msg) 8 / 16, digSum (shaS msg) 8 / 4 % 4, digSum (shaS msg) 8 % 4]) := rfl
  have HC := Lib.hid fun (W : World) (g cap : Nat) h => digits_cells (w := W) (base := w.heap.size) (g := g) (cap := cap) (msg := msg) h
  have hhl := shaS_len msg
  generalize shaS msg = H at *
  generalize digitsS msg = D at *
  go_enter Tryd.func13, Tryd.ntmps13
  go_wp2_with fail
  refine HS.out.mono ?_
  rintro e w1 ⟨rfl, b1⟩
  have hb1 := b1
  go_wp2_with fail
  go_loopw [4, 5, 11] (fun out s i wr => ∃ k : Nat, k ≤ 8 ∧ i = .int .i64 (k : Int) ∧ s = .int .i64 ((digSum H k : Nat) : Int) ∧ wr.ownsRow w.heap.size 3 1 out k ((digs H k).map dv) ∧ Below w.heap.size w wr) (fun _ _ i _ => (8 - intOf i).toNat)
  case atStart => exact ⟨0, by omega, rfl, rfl, World.ownsRow_lit w1 #[] 0 b1.size (by simp [maxLen]) rfl, hb1.alloc b1.size _⟩
  case round =>
    obtain ⟨k, hk, rfl, rfl, hown, hb⟩ := hrel
    have hki : 0 ≤ (k : Int) ∧ (k : Int) ≤ 8 := by omega
    have hsb := digSum_bound H k hk
    by_cases hlt : k < 8
    · have h2 : (k : Int) < 8 := by omega
      have hdl := digN_lt H k
      have hsb2 := digSum_bound H (k + 1) (by omega)
      have HD : Hid ((digs H (k + 1)).map dv = (digs H k).map dv ++ [dv (digN H k)]) := by unfold Hid; rw [digs, List.map_append]; rfl
      have hDS : ((digSum H (k + 1) : Nat) : Int) = ((digSum H k : Nat) : Int) - ((digN H k : Nat) : Int) := by
        have : digSum H (k + 1) = digSum H k - digN H k := rfl
        omega
      have e1 : (k : Int).tdiv 4 = (k : Int) / 4 := Int.tdiv_eq_ediv_of_nonneg (by omega)
      have e2 : (k : Int).tmod 4 = (k : Int) % 4 := Int.tmod_eq_emod_of_nonneg (by omega)
      have e3 : ((k : Int) / 4).toNat = k / 4 := by omega
      have e4 : (6 - 2 * ((k : Int) % 4)).toNat = 6 - 2 * (k % 4) := by omega
      have e5 : 0 ≤ (k : Int) / 4 ∧ (k : Int) / 4 < 32 := by omega
      have e6 : 0 ≤ 6 - 2 * ((k : Int) % 4) ∧ 6 - 2 * ((k : Int) % 4) ≤ 6 := by omega
      have e7 : IntKind.u64.wrap (6 - 2 * ((k : Int) % 4)) = 6 - 2 * ((k : Int) % 4) := by simp [IntKind.wrap, IntKind.bits, IntKind.signed]; omega
      have e8 : IntKind.i64.wrap (6 - 2 * ((k : Int) % 4)) = 6 - 2 * ((k : Int) % 4) := by rw [IntKind.wrap_i64]; omega
      have e9 : IntKind.i64.wrap (2 * ((k : Int) % 4)) = 2 * ((k : Int) % 4) := by rw [IntKind.wrap_i64]; omega
      have hB : ∀ h : k / 4 < H.length, H[k / 4]'h = H.getD (k / 4) 0 := fun h => by simp [List.getD, List.getElem?_eq_getElem h]
      have hlen : (H.length : Int) = 32 := by omega
      have hBl := (H.getD (k / 4) 0).toNat_lt
      have hq : ((H.getD (k / 4) 0).toNat : Int) / 2 ^ (6 - 2 * (k % 4)) = (((H.getD (k / 4) 0).toNat / 2 ^ (6 - 2 * (k % 4)) : Nat) : Int) := by simp
      have hql : (H.getD (k / 4) 0).toNat / 2 ^ (6 - 2 * (k % 4)) ≤ 255 := Nat.le_trans (Nat.div_le_self _ _) (by omega)
      have hA : bits .and .i64 (((H.getD (k / 4) 0).toNat / 2 ^ (6 - 2 * (k % 4)) : Nat) : Int) 3 = ((digN H k : Nat) : Int) := and3 _ (by omega)
      rw [← hq] at hA
      have hww : ∀ Q : Nat, Q ≤ 255 → IntKind.i64.wrap (Q : Int) = (Q : Int) ∧ IntKind.u8.wrap (Q : Int) = (Q : Int) := fun Q hQ => ⟨by rw [IntKind.wrap_i64]; omega, by simp [IntKind.wrap, IntKind.bits, IntKind.signed]; omega⟩
      have hw6 : IntKind.i64.wrap (((H.getD (k / 4) 0).toNat : Int) / 2 ^ (6 - 2 * (k % 4))) = ((H.getD (k / 4) 0).toNat : Int) / 2 ^ (6 - 2 * (k % 4)) := by rw [hq]; exact (hww _ hql).1
      have hw7 : IntKind.u8.wrap (((H.getD (k / 4) 0).toNat : Int) / 2 ^ (6 - 2 * (k % 4))) = ((H.getD (k / 4) 0).toNat : Int) / 2 ^ (6 - 2 * (k % 4)) := by rw [hq]; exact (hww _ hql).2
      clear hq hql hww
      generalize H.getD (k / 4) 0 = B at *
      generalize digN H k = d at *
      generalize digSum H k = sm at *
      go_wp2_with (at_builtin; refine app_lit rfl _ _ 25 rfl Tryd.underlying25 hi hz0 hz1 hz2 rfl (by decide) rfl hown hb rfl rfl (one_cell1 _ _) (by unfold maxLen; omega) (by omega) ?_; intro v1 w2 hown1 hb2)
      go_roundw
      case rel => exact ⟨k + 1, by omega, by go_num, by rw [hDS], by rw [HD.out]; exact hown1, hb2⟩
      case measure => simp [intOf]; omega
    · have hk' : k = 8 := by omega
      have HO := hown
      rw [hk'] at hsb HO
      have hsE : digSum H k = digSum H 8 := by rw [hk']
      rw [hsE]
      generalize hdS : digSum H 8 = s at *
      have g1 : (s : Int).tdiv 16 = (s : Int) / 16 := Int.tdiv_eq_ediv_of_nonneg (by omega)
      have g2 : (s : Int).tmod 16 = (s : Int) % 16 := Int.tmod_eq_emod_of_nonneg (by omega)
      have g3 : ((s : Int) % 16).tdiv 4 = (s : Int) / 4 % 4 := by rw [Int.tdiv_eq_ediv_of_nonneg (by omega)]; omega
      have g4 : (s : Int).tmod 4 = (s : Int) % 4 := Int.tmod_eq_emod_of_nonneg (by omega)
      have g5 : (s : Int).tdiv 4 = (s : Int) / 4 := Int.tdiv_eq_ediv_of_nonneg (by omega)
      have g6 : ((s : Int) / 4).tmod 4 = (s : Int) / 4 % 4 := Int.tmod_eq_emod_of_nonneg (by omega)
      have HM : Hid (D.map dv = (digs H 8).map dv ++ (#[Value.int .i64 ((s : Int) / 16), Value.int .i64 ((s : Int) / 4 % 4), Value.int .i64 ((s : Int) % 4)] : Array Value).toList) := by
        unfold Hid; rw [HV.out, List.map_append]; simp [dv]
      have hk8 : ((k : Nat) : Int) = 8 := by omega
      clear hsE hown hk' hdS
      go_wp2_with (at_builtin; refine app_lit rfl _ _ 25 rfl Tryd.underlying25 hi hz0 hz1 hz2 rfl (by decide) rfl HO hb rfl rfl (three_one _ _ _) (by unfold maxLen; omega) (by omega) ?_; intro v1 w2 hown1 hb2)
      rw [← HM.out] at hown1
      obtain ⟨g, cap, rfl, _, _⟩ := hown1.form (by omega)
      obtain ⟨c1, c2⟩ := HC.out _ _ _ hown1
      go_ret
      first | exact ⟨g, cap, rfl, c1, c2, hb2⟩ | exact ⟨g, ⟨cap, rfl⟩, c1, c2, hb2⟩ | exact ⟨g, ⟨cap, rfl⟩, c1, (fun j hj => by simpa using c2 j hj), hb2⟩

set_option maxHeartbeats 4000000 in
theorem sDigits_any (msg : List UInt8) (w : World) (hl : msg.length ≤ 4194304) :
    Calls Tryd.prog 9 #[.string (S msg)] w fun e w' => ∃ g cap, e = .returned (.slice (some ⟨g, 0, none⟩) 11 cap) ∧ g < w'.heap.size ∧ (∀ j, j < 11 → w'.cell? ⟨g, j, none⟩ = some (.int .i64 (((digitsS msg).getD j 0 : Nat) : Int))) ∧ Below w.heap.size w w' := by
  obtain ⟨i0, hi, hz0, hz1, hz2⟩ := info_parts infoI
  have HS := Lib.hid (sSha_any msg w hl)
  have HV : Hid (digitsS msg = digs (shaS msg) 8 ++ [digSum (shaS msg) 8 / 16, digSum (shaS msg) 8 / 4 % 4, digSum (shaS msg) 8 % 4]) := rfl
  have HC := Lib.hid fun (W : World) (g cap : Nat) h => digits_cells (w := W) (base := w.heap.size) (g := g) (cap := cap) (msg := msg) h
  have hhl := shaS_len msg
  generalize shaS msg = H at *
  generalize digitsS msg = D at *
  go_enter Tryd.func9, Tryd.ntmps9
  go_wp2_with fail
  refine HS.out.mono ?_
  rintro e w1 ⟨rfl, b1⟩
  have hb1 := b1
  go_wp2_with fail
  go_loopw [4, 5, 6] (fun out s i wr => ∃ k : Nat, k ≤ 8 ∧ i = .int .i64 (k : Int) ∧ s = .int .i64 ((digSum H k : Nat) : Int) ∧ wr.ownsRow w.heap.size 3 1 out k ((digs H k).map dv) ∧ Below w.heap.size w wr) (fun _ _ i _ => (8 - intOf i).toNat)
  case atStart => exact ⟨0, by omega, rfl, rfl, World.ownsRow_lit w1 #[] 0 b1.size (by simp [maxLen]) rfl, hb1.alloc b1.size _⟩
  case round =>
    obtain ⟨k, hk, rfl, rfl, hown, hb⟩ := hrel
    have hki : 0 ≤ (k : Int) ∧ (k : Int) ≤ 8 := by omega
    have hsb := digSum_bound H k hk
    by_cases hlt : k < 8
    · have h2 : (k : Int) < 8 := by omega
      have hdl := digN_lt H k
      have hsb2 := digSum_bound H (k + 1) (by omega)
      have HD : Hid ((digs H (k + 1)).map dv = (digs H k).map dv ++ [dv (digN H k)]) := by unfold Hid; rw [digs, List.map_append]; rfl
      have hDS : ((digSum H (k + 1) : Nat) : Int) = ((digSum H k : Nat) : Int) - ((digN H k : Nat) : Int) := by
        have : digSum H (k + 1) = digSum H k - digN H k := rfl
        omega
      have e1 : (k : Int).tdiv 4 = (k : Int) / 4 := Int.tdiv_eq_ediv_of_nonneg (by omega)
      have e2 : (k : Int).tmod 4 = (k : Int) % 4 := Int.tmod_eq_emod_of_nonneg (by omega)
      have e3 : ((k : Int) / 4).toNat = k / 4 := by omega
      have e4 : (6 - 2 * ((k : Int) % 4)).toNat = 6 - 2 * (k % 4) := by omega
      have e5 : 0 ≤ (k : Int) / 4 ∧ (k : Int) / 4 < 32 := by omega
      have e6 : 0 ≤ 6 - 2 * ((k : Int) % 4) ∧ 6 - 2 * ((k : Int) % 4) ≤ 6 := by omega
      have e7 : IntKind.u64.wrap (6 - 2 * ((k : Int) % 4)) = 6 - 2 * ((k : Int) % 4) := by simp [IntKind.wrap, IntKind.bits, IntKind.signed]; omega
      have e8 : IntKind.i64.wrap (6 - 2 * ((k : Int) % 4)) = 6 - 2 * ((k : Int) % 4) := by rw [IntKind.wrap_i64]; omega
      have e9 : IntKind.i64.wrap (2 * ((k : Int) % 4)) = 2 * ((k : Int) % 4) := by rw [IntKind.wrap_i64]; omega
      have hB : ∀ h : k / 4 < H.length, H[k / 4]'h = H.getD (k / 4) 0 := fun h => by simp [List.getD, List.getElem?_eq_getElem h]
      have hlen : (H.length : Int) = 32 := by omega
      have hBl := (H.getD (k / 4) 0).toNat_lt
      have hq : ((H.getD (k / 4) 0).toNat : Int) / 2 ^ (6 - 2 * (k % 4)) = (((H.getD (k / 4) 0).toNat / 2 ^ (6 - 2 * (k % 4)) : Nat) : Int) := by simp
      have hql : (H.getD (k / 4) 0).toNat / 2 ^ (6 - 2 * (k % 4)) ≤ 255 := Nat.le_trans (Nat.div_le_self _ _) (by omega)
      have hA : bits .and .i64 (((H.getD (k / 4) 0).toNat / 2 ^ (6 - 2 * (k % 4)) : Nat) : Int) 3 = ((digN H k : Nat) : Int) := and3 _ (by omega)
      rw [← hq] at hA
      have hww : ∀ Q : Nat, Q ≤ 255 → IntKind.i64.wrap (Q : Int) = (Q : Int) ∧ IntKind.u8.wrap (Q : Int) = (Q : Int) := fun Q hQ => ⟨by rw [IntKind.wrap_i64]; omega, by simp [IntKind.wrap, IntKind.bits, IntKind.signed]; omega⟩
      have hw6 : IntKind.i64.wrap (((H.getD (k / 4) 0).toNat : Int) / 2 ^ (6 - 2 * (k % 4))) = ((H.getD (k / 4) 0).toNat : Int) / 2 ^ (6 - 2 * (k % 4)) := by rw [hq]; exact (hww _ hql).1
      have hw7 : IntKind.u8.wrap (((H.getD (k / 4) 0).toNat : Int) / 2 ^ (6 - 2 * (k % 4))) = ((H.getD (k / 4) 0).toNat : Int) / 2 ^ (6 - 2 * (k % 4)) := by rw [hq]; exact (hww _ hql).2
      clear hq hql hww
      generalize H.getD (k / 4) 0 = B at *
      generalize digN H k = d at *
      generalize digSum H k = sm at *
      go_wp2_with (at_builtin; refine app_lit rfl _ _ 25 rfl Tryd.underlying25 hi hz0 hz1 hz2 rfl (by decide) rfl hown hb rfl rfl (one_cell1 _ _) (by unfold maxLen; omega) (by omega) ?_; intro v1 w2 hown1 hb2)
      go_roundw
      case rel => exact ⟨k + 1, by omega, by go_num, by rw [hDS], by rw [HD.out]; exact hown1, hb2⟩
      case measure => simp [intOf]; omega
    · have hk' : k = 8 := by omega
      have HO := hown
      rw [hk'] at hsb HO
      have hsE : digSum H k = digSum H 8 := by rw [hk']
      rw [hsE]
      generalize hdS : digSum H 8 = s at *
      have g1 : (s : Int).tdiv 16 = (s : Int) / 16 := Int.tdiv_eq_ediv_of_nonneg (by omega)
      have g2 : (s : Int).tmod 16 = (s : Int) % 16 := Int.tmod_eq_emod_of_nonneg (by omega)
      have g3 : ((s : Int) % 16).tdiv 4 = (s : Int) / 4 % 4 := by rw [Int.tdiv_eq_ediv_of_nonneg (by omega)]; omega
      have g4 : (s : Int).tmod 4 = (s : Int) % 4 := Int.tmod_eq_emod_of_nonneg (by omega)
      have g5 : (s : Int).tdiv 4 = (s : Int) / 4 := Int.tdiv_eq_ediv_of_nonneg (by omega)
      have g6 : ((s : Int) / 4).tmod 4 = (s : Int) / 4 % 4 := Int.tmod_eq_emod_of_nonneg (by omega)
      have HM : Hid (D.map dv = (digs H 8).map dv ++ (#[Value.int .i64 ((s : Int) / 16), Value.int .i64 ((s : Int) / 4 % 4), Value.int .i64 ((s : Int) % 4)] : Array Value).toList) := by
        unfold Hid; rw [HV.out, List.map_append]; simp [dv]
      have hk8 : ((k : Nat) : Int) = 8 := by omega
      clear hsE hown hk' hdS
      go_wp2_with (at_builtin; refine app_lit rfl _ _ 25 rfl Tryd.underlying25 hi hz0 hz1 hz2 rfl (by decide) rfl HO hb rfl rfl (three_one _ _ _) (by unfold maxLen; omega) (by omega) ?_; intro v1 w2 hown1 hb2)
      rw [← HM.out] at hown1
      obtain ⟨g, cap, rfl, _, _⟩ := hown1.form (by omega)
      obtain ⟨c1, c2⟩ := HC.out _ _ _ hown1
      go_ret
      first | exact ⟨g, cap, rfl, c1, c2, hb2⟩ | exact ⟨g, ⟨cap, rfl⟩, c1, c2, hb2⟩ | exact ⟨g, ⟨cap, rfl⟩, c1, (fun j hj => by simpa using c2 j hj), hb2⟩

end Go.Proofs.YtllfnhkloaenhaaDoor
