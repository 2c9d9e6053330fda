/-
  Texts drawn and spoilt; the draws of numbers.
-/
import Derived.Test.YtnmgecaflildoaaDoorCur2
namespace Go.Proofs.YtnmgecaflildoaaDoor
open Go.ChangeShapes Go.WideShapes Go.ChangeAt Go.RowKit
set_option linter.unusedVariables false
set_option linter.unusedSimpArgs false
set_option maxRecDepth 100000

theorem once_ex (K : Cd) (s : Nat × Int) (n : Nat) (h0 : 0 < n) (hn : n ≤ 2147483648) (hl : K.l.length ≤ 1048576) : ∃ (b : Bool) (s' : Nat × Int), ∀ (w : World) (B : Nat), CurAt w B K s →
    Calls Tryd.prog 40 #[.pointer (some ⟨B, 0, none⟩), .int .i64 (n : Int)] w fun e w' => e = .returned (.bool b) ∧ CurAt w' B K s' ∧ But B w w' := by
  obtain ⟨x, s1, hx, H1⟩ := below_ex K s n h0 hn hl
  refine ⟨decide (x = 0), s1, fun w B hs => ?_⟩
  have H1 := Lib.hid (H1 _ _ hs)
  go_enter Tryd.func40, Tryd.ntmps40
  go_wp2_with fail
  refine H1.out.mono ?_
  rintro e w1 ⟨rfl, c1, b1⟩
  go_wp2
  go_ret
  exact ⟨ret_bool (by rw [Bool.eq_iff_iff]; simp), c1, b1⟩

set_option maxHeartbeats 4000000 in
theorem spoil_ex (K : Cd) (s : Nat × Int) (t : List UInt8) (ht : t.length ≤ 1000) (hl : K.l.length ≤ 1048576) : ∃ (t' : List UInt8) (s' : Nat × Int), t'.length ≤ 1001 ∧ ∀ (w : World) (B : Nat), CurAt w B K s →
    Calls Tryd.prog 22 #[.pointer (some ⟨B, 0, none⟩), .string (S t)] w fun e w' => e = .returned (.string (S t')) ∧ CurAt w' B K s' ∧ But B w w' := by
  by_cases h0 : t.length = 0
  · obtain ⟨t1, s1, ht1, H1⟩ := text_ex K s 3 (by omega) hl
    refine ⟨t1, s1, by omega, fun w B hs => ?_⟩
    have H1 := Lib.hid (H1 _ _ hs)
    have h0i : (t.length : Int) = 0 := by omega
    clear hs
    go_enter Tryd.func22, Tryd.ntmps22
    go_wp2_with fail
    refine H1.out.mono ?_
    rintro e w1 ⟨rfl, c1, b1⟩
    go_wp2
    go_ret
    exact ⟨rfl, c1, b1⟩
  · obtain ⟨k, s1, hk, H1⟩ := below_ex K s t.length (by omega) (by omega) hl
    obtain ⟨q, s2, hq, H2⟩ := below_ex K s1 4 (by omega) (by omega) hl
    have h0i : ¬ (t.length : Int) = 0 := by omega
    have hki : 0 ≤ (k : Int) ∧ (k : Int) < t.length := by omega
    have hx1 : (S t).extract 0 k = S (t.take k) := by rw [S_cut]; simp
    have hx2 : (S t).extract (k + 1) t.length = S (t.drop (k + 1)) := by rw [S_cut, List.take_of_length_le (by simp)]
    have hx3 : (S t).extract k t.length = S (t.drop k) := by rw [S_cut, List.take_of_length_le (by simp)]
    have hl1 : (t.take k).length = k := by rw [List.length_take]; omega
    have hl2 : (t.drop (k + 1)).length = t.length - (k + 1) := List.length_drop
    have hl3 : (t.drop k).length = t.length - k := List.length_drop
    have hk1 : k ≤ t.length := by omega
    have hk2 : k + 1 ≤ t.length := by omega
    have hs1 : ¬ 9223372036854775807 < k + 1 := by omega
    have hs2 : ¬ 9223372036854775807 < k + 1 + (t.length - k) := by omega
    have hs4 : ¬ 9223372036854775807 < t.length := by omega
    have hk3 : 0 ≤ (k : Int) + 1 ∧ (k : Int) + 1 ≤ t.length := by omega
    have hwk : IntKind.i64.wrap ((k : Int) + 1) = (k : Int) + 1 := by rw [IntKind.wrap_i64]; omega
    have hs3 : ¬ 9223372036854775807 < k + 1 + (t.length - (k + 1)) := by omega
    generalize t.take k = a at *
    generalize t.drop (k + 1) = b at *
    generalize t.drop k = d at *
    by_cases hq0 : q = 0
    · subst hq0
      refine ⟨a ++ b, s2, by simp; omega, fun w B hs => ?_⟩
      have H1 := Lib.hid (H1 _ _ hs)
      have H2 := Lib.hid H2
      clear hs
      go_enter Tryd.func22, Tryd.ntmps22
      go_wp2_with fail
      refine H1.out.mono ?_
      rintro e w1 ⟨rfl, c1, b1⟩
      go_wp2_with fail
      refine (H2.out _ _ c1).mono ?_
      rintro e w2 ⟨rfl, c2, b2⟩
      go_wp2
      go_region
      go_wp2
      go_ret
      exact ⟨rfl, c2.drew, (b1.trans b2).drew⟩
    · have hq0i : ¬ (q : Int) = 0 := by omega
      by_cases hq1 : q = 1
      · subst hq1
        have hx := byteC_lt K.l s2
        obtain ⟨x, s3, HX⟩ : ∃ x s3, byteC K.l s2 = (x, s3) := ⟨_, _, rfl⟩
        have HBY := fun (W : World) (B : Nat) (h : CurAt W B K s2) => byte_any B K s2 W h hl
        rw [HX] at hx HBY
        simp only at hx HBY
        clear HX
        refine ⟨a ++ [UInt8.ofNat x] ++ d, s3, by simp; omega, fun w B hs => ?_⟩
        have H1 := Lib.hid (H1 _ _ hs)
        have H2 := Lib.hid H2
        have H3 := Lib.hid HBY
        have hcv := conv_one (P := Tryd.prog) 22 9 5 Tryd.underlying22 Tryd.underlying5 Tryd.underlying9
        have hu8 : IntKind.u8.wrap (x : Int) = x := by rw [IntKind.wrap_u8]; omega
        clear hs HBY
        go_enter Tryd.func22, Tryd.ntmps22
        go_wp2_with fail
        refine H1.out.mono ?_
        rintro e w1 ⟨rfl, c1, b1⟩
        go_wp2_with fail
        refine (H2.out _ _ c1).mono ?_
        rintro e w2 ⟨rfl, c2, b2⟩
        go_wp2_with fail
        go_region_with (first | (go_at_call 47; refine (H3.out _ _ (by first | exact c2 | exact c2.drew)).mono ?_; rintro e w3 ⟨rfl, c3, b3⟩))
        all_goals
          go_wp2
          go_ret
          exact ⟨ret_string (by simp), (c3.alloc _), ((b1.trans b2).drew.trans b3).alloc _⟩
      · have hq1i : ¬ (q : Int) = 1 := by omega
        by_cases hq2 : q = 2
        · subst hq2
          refine ⟨a, s2, by omega, fun w B hs => ?_⟩
          have H1 := Lib.hid (H1 _ _ hs)
          have H2 := Lib.hid H2
          clear hs
          go_enter Tryd.func22, Tryd.ntmps22
          go_wp2_with fail
          refine H1.out.mono ?_
          rintro e w1 ⟨rfl, c1, b1⟩
          go_wp2_with fail
          refine (H2.out _ _ c1).mono ?_
          rintro e w2 ⟨rfl, c2, b2⟩
          go_wp2
          go_ret
          exact ⟨rfl, c2, b1.trans b2⟩
        · have hq2i : ¬ (q : Int) = 2 := by omega
          obtain ⟨y, s3, hy, H3⟩ := below_ex K s2 255 (by omega) (by omega) hl
          have hty : 0 ≤ (t[k].toNat : Int) ∧ (t[k].toNat : Int) ≤ 255 := by have := t[k].toNat_lt; omega
          have hwy : IntKind.i64.wrap (1 + (y : Int)) = 1 + (y : Int) := by rw [IntKind.wrap_i64]; omega
          have hwt : IntKind.i64.wrap (t[k].toNat : Int) = (t[k].toNat : Int) := by rw [IntKind.wrap_i64]; omega
          have hSk : (S t)[k]'(by simpa using hk) = t[k] := S_get _ _ _
          refine ⟨a ++ [UInt8.ofNat (IntKind.u8.wrap (bits .xor .i64 (t[k].toNat : Int) (1 + (y : Int)))).toNat] ++ b, s3, by simp; omega, fun w B hs => ?_⟩
          have H1 := Lib.hid (H1 _ _ hs)
          have H2 := Lib.hid H2
          have H3 := Lib.hid H3
          have hcv := conv_one (P := Tryd.prog) 22 9 5 Tryd.underlying22 Tryd.underlying5 Tryd.underlying9
          clear hs
          go_enter Tryd.func22, Tryd.ntmps22
          go_wp2_with fail
          refine H1.out.mono ?_
          rintro e w1 ⟨rfl, c1, b1⟩
          go_wp2_with fail
          refine (H2.out _ _ c1).mono ?_
          rintro e w2 ⟨rfl, c2, b2⟩
          go_wp2_with fail
          go_region_with (first | (go_at_call 21; refine (H3.out _ _ (by first | exact c2 | exact c2.drew)).mono ?_; rintro e w3 ⟨rfl, c3, b3⟩))
          all_goals
            go_wp2
            go_ret
            exact ⟨ret_string (by simp), (c3.alloc _), ((b1.trans b2).drew.trans b3).alloc _⟩

end Go.Proofs.YtnmgecaflildoaaDoor
