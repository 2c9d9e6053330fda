/-
  Texts of this proof, laid into one: Cur2, Cur3S, Cur4, DrS0.
-/
import Derived.RegionTactic
import Derived.BigRegion
import Derived.Deep.RegionWith
import Derived.Test.YtecimgkgdpnaeaaDoorGFnCommit3
import Derived.Test.YtecimgkgdpnaeaaDoorGFnCommit2
/-
  Texts and numbers drawn.
-/
namespace Go.Proofs.YtecimgkgdpnaeaaDoor
open Go.ChangeShapes Go.WideShapes Go.ChangeAt Go.RowKit
set_option linter.unusedVariables false
set_option linter.unusedSimpArgs false
set_option maxRecDepth 100000

/-- A byte in a style. -/
def stylC (st b : Nat) : Nat := if st = 1 then b % 2 else if st = 2 then 97 + b % 4 else b
theorem stylC_lt (st b : Nat) (hb : b ≤ 255) : stylC st b ≤ 255 := by unfold stylC; split <;> (try split) <;> omega
/-- So many bytes. -/
def bytesC (l : List UInt8) (st : Nat) (s : Nat × Int) : Nat → List UInt8 × (Nat × Int)
  | 0 => ([], s)
  | k + 1 => ((bytesC l st s k).1 ++ [UInt8.ofNat (stylC st (byteC l (bytesC l st s k).2).1)], (byteC l (bytesC l st s k).2).2)
theorem bytesC_len (l : List UInt8) (st : Nat) (s : Nat × Int) (k : Nat) : (bytesC l st s k).1.length = k := by
  induction k with
  | zero => rfl
  | succ k ih => simp only [bytesC, List.length_append, List.length_singleton, ih]
theorem text_ex (K : Cd) (s : Nat × Int) (m : Nat) (hm : m ≤ 1000) (hl : K.l.length ≤ 1048576) : ∃ (t : List UInt8) (s' : Nat × Int), t.length ≤ m ∧ ∀ (w : World) (B : Nat), CurAt w B K s →
    Calls Tryd.prog 83 #[.pointer (some ⟨B, 0, none⟩), .int .i64 (m : Int)] w fun e w' => e = .returned (.string (S t)) ∧ CurAt w' B K s' ∧ But B w w' := by
  obtain ⟨st, s1, hst, H1⟩ := below_ex K s 4 (by omega) (by omega) hl
  obtain ⟨n, s2, hn, H2⟩ := below_ex K s1 (m + 1) (by omega) (by omega) hl
  refine ⟨(bytesC K.l st s2 n).1, (bytesC K.l st s2 n).2, by rw [bytesC_len]; omega, fun w B hs => ?_⟩
  have H1 := Lib.hid H1
  simp only [Int.natCast_add, Int.cast_ofNat_Int, Int.natCast_one] at H2
  have H2 := Lib.hid H2
  obtain ⟨i0, hi, hz0, hz1, hz2⟩ := info_parts info_u8
  have HSTEP : Hid (∀ k, bytesC K.l st s2 (k + 1) = ((bytesC K.l st s2 k).1 ++ [UInt8.ofNat (stylC st (byteC K.l (bytesC K.l st s2 k).2).1)], (byteC K.l (bytesC K.l st s2 k).2).2)) := fun k => rfl
  have HZ : Hid (bytesC K.l st s2 0 = ([], s2)) := rfl
  generalize bytesC K.l st s2 = T at *
  have HBY := Lib.hid fun (s : Nat × Int) (W : World) (h : CurAt W B K s) => byte_any B K s W h hl
  have HB := hs.1
  have HS := Lib.hid (hs.alloc (.cells #[] 5))
  have HO := Lib.hid (World.ownsRow_lit (e := 5) (size := 1) (base := w.heap.size) w #[] 0 (Nat.le_refl _) (by simp [maxLen]) rfl)
  have HBU := Lib.hid ((But.refl B w).alloc (.cells #[] 5))
  have hm1 : 0 ≤ (m : Int) ∧ (m : Int) ≤ 1000 := by omega
  clear hs
  go_enter Tryd.func83, Tryd.ntmps83
  go_wp2_with fail
  refine (H1.out _ _ HS.out).mono ?_
  rintro e w1 ⟨rfl, c1, b1⟩
  go_wp2_with fail
  refine (H2.out _ _ c1).mono ?_
  rintro e w2 ⟨rfl, c2, b2⟩
  have HO2 := Lib.hid (own_but (own_but HO.out b1 HB) b2 HB)
  have HBU2 := Lib.hid ((HBU.out.trans b1).trans b2)
  clear H1 H2 HS HO HBU b1 b2 c1
  go_wp2_with fail
  go_loopw [5, 7] (fun out i wr => ∃ k j : Nat, j + k = n ∧ i = .int .i64 (j : Int) ∧ wr.ownsRow w.heap.size 5 1 out k ((T k).1.map bv) ∧ CurAt wr B K (T k).2 ∧ But B w wr) (fun _ i _ => (intOf i).toNat)
  case atStart => exact ⟨0, n, by omega, rfl, by rw [HZ.out]; exact HO2.out, by rw [HZ.out]; exact c2, HBU2.out⟩
  case round =>
    obtain ⟨k, j, hj, rfl, hown, hc, hbu⟩ := hrel
    have hki : 0 ≤ (j : Int) ∧ (j : Int) ≤ n := by omega
    by_cases hlt : 0 < j
    · have hji : 0 < (j : Int) := by omega
      have hst := HSTEP.out k
      have hx := byteC_lt K.l (T k).2
      have HC := Lib.hid (HBY.out _ _ hc)
      have hv := stylC_lt st (byteC K.l (T k).2).1 hx
      have hz := hbu.size
      generalize (byteC K.l (T k).2).1 = x at *
      generalize (byteC K.l (T k).2).2 = s3 at *
      have HV : Hid (stylC st x = if st = 1 then x % 2 else if st = 2 then 97 + x % 4 else x) := rfl
      generalize stylC st x = v at *
      have HBV := Lib.hid (bv_ofNat v (by omega))
      have HST := Lib.hid hst
      have HOWN := Lib.hid hown
      have HBUT := Lib.hid hbu
      clear hst hown hc hbu
      have hsts : st = 1 ∨ st = 2 ∨ (¬ st = 1 ∧ ¬ st = 2) := by omega
      have hn200 : n ≤ 1000 := by omega
      rcases hsts with rfl | rfl | ⟨hs1, hs2⟩
      · have hv2 : x % 2 = v := by rw [HV.out, if_pos rfl]
        have ht : (x : Int).tmod 2 = (v : Int) := by rw [Int.tmod_eq_emod_of_nonneg (by omega), ← hv2]; omega
        clear HV hv2
        go_wp2_with fail
        refine HC.out.mono ?_
        rintro e w3 ⟨rfl, c3, b3⟩
        have o3 := own_but HOWN.out b3 HB
        have hz3 := b3.size
        go_wp2_with (at_builtin; refine app_low rfl _ _ 22 rfl Tryd.underlying22 hi hz0 hz1 hz2 rfl (by decide) rfl o3 (by omega) rfl rfl rfl (one_cell1 _ _) (by unfold maxLen; omega) (by omega) ?_; intro v1 w4 hown1 hlow)
        go_roundw
        case rel => exact ⟨k + 1, j - 1, by omega, by go_num, by rw [HST.out, List.map_append, List.map_singleton, HBV.out]; exact hown1, by rw [HST.out]; exact c3.low hlow (by omega), (HBUT.out.trans b3).low hlow⟩
        case measure => simp [intOf]; omega
      · have hv2 : 97 + x % 4 = v := by rw [HV.out, if_neg (by omega), if_pos rfl]
        have ht : 97 + (x : Int).tmod 4 = (v : Int) := by rw [Int.tmod_eq_emod_of_nonneg (by omega), ← hv2]; omega
        have hv3 : (97 : Int) + (x : Int) % 4 = (v : Int) := by omega
        clear HV hv2
        go_wp2_with fail
        refine HC.out.mono ?_
        rintro e w3 ⟨rfl, c3, b3⟩
        have o3 := own_but HOWN.out b3 HB
        have hz3 := b3.size
        go_wp2_with (at_builtin; refine app_low rfl _ _ 22 rfl Tryd.underlying22 hi hz0 hz1 hz2 rfl (by decide) rfl o3 (by omega) rfl rfl rfl (one_cell1 _ _) (by unfold maxLen; omega) (by omega) ?_; intro v1 w4 hown1 hlow)
        go_roundw
        case rel => exact ⟨k + 1, j - 1, by omega, by go_num, by rw [HST.out, List.map_append, List.map_singleton, HBV.out]; exact hown1, by rw [HST.out]; exact c3.low hlow (by omega), (HBUT.out.trans b3).low hlow⟩
        case measure => simp [intOf]; omega
      · have hv2 : x = v := by rw [HV.out, if_neg hs1, if_neg hs2]
        subst hv2
        have hs1' : ¬ (st : Int) = 1 := by omega
        have hs2' : ¬ (st : Int) = 2 := by omega
        clear HV
        go_wp2_with fail
        refine HC.out.mono ?_
        rintro e w3 ⟨rfl, c3, b3⟩
        have o3 := own_but HOWN.out b3 HB
        have hz3 := b3.size
        go_wp2_with (at_builtin; refine app_low rfl _ _ 22 rfl Tryd.underlying22 hi hz0 hz1 hz2 rfl (by decide) rfl o3 (by omega) rfl rfl rfl (one_cell1 _ _) (by unfold maxLen; omega) (by omega) ?_; intro v1 w4 hown1 hlow)
        go_roundw
        case rel => exact ⟨k + 1, j - 1, by omega, by go_num, by rw [HST.out, List.map_append, List.map_singleton, HBV.out]; exact hown1, by rw [HST.out]; exact c3.low hlow (by omega), (HBUT.out.trans b3).low hlow⟩
        case measure => simp [intOf]; omega
    · obtain rfl : j = 0 := by omega
      have hkn : k = n := by omega
      have HK := Lib.hid hkn
      have HC := Lib.hid hc
      have HBUT := Lib.hid hbu
      have hcv := conv_own (l := (T k).1) Tryd.underlying22 Tryd.underlying5 Tryd.underlying9 hown
      clear hkn hown hc hbu
      go_wp2
      go_ret
      rw [← HK.out]
      exact ⟨rfl, HC.out, HBUT.out⟩

theorem pick_ex (K : Cd) (s : Nat × Int) (ids : List Int) (h0 : 0 < ids.length) (hn : ids.length ≤ 256) (hl : K.l.length ≤ 1048576) : ∃ (v : Int) (s' : Nat × Int), v ∈ ids ∧ ∀ (w : World) (B g c : Nat), CurAt w B K s → g ≠ B → g < w.heap.size → (∀ (j : Nat) (h : j < ids.length), w.cell? ⟨g, j, none⟩ = some (.int .i64 ids[j])) →
    Calls Tryd.prog 84 #[.pointer (some ⟨B, 0, none⟩), .slice (some ⟨g, 0, none⟩) ids.length c] w fun e w' => e = .returned (.int .i64 v) ∧ CurAt w' B K s' ∧ But B w w' := by
  obtain ⟨x, s1, hx, H1⟩ := below_ex K s ids.length h0 (by omega) hl
  refine ⟨ids[x], s1, List.getElem_mem _, fun w B g c hs hg hgl hcl => ?_⟩
  have H1 := Lib.hid (H1 _ _ hs)
  have c0 := hcl x hx
  have hxi : 0 ≤ (x : Int) ∧ (x : Int) < ids.length := by omega
  clear hcl
  generalize ids[x] = v at *
  go_enter Tryd.func84, Tryd.ntmps84
  go_wp2_with fail
  refine H1.out.mono ?_
  rintro e w1 ⟨rfl, c1, b1⟩
  have c0' := (b1.cell (o := x) hgl hg).trans c0
  go_wp2
  go_ret
  exact ⟨rfl, c1, b1⟩
/-- A literal of ints that has just been laid. -/
theorem lit_ints (W : World) (t : TypeId) (ids : List Int) : ∀ (j : Nat) (h : j < ids.length), (W.alloc (.cells (ids.map iv).toArray t)).cell? ⟨W.heap.size, j, none⟩ = some (.int .i64 ids[j]) := fun j h => by
  rw [World.cell?_alloc_new]
  simp [iv, h]
end Go.Proofs.YtecimgkgdpnaeaaDoor

/-
  Texts drawn and spoilt; the draws of numbers.
-/
namespace Go.Proofs.YtecimgkgdpnaeaaDoor
open Go.ChangeShapes Go.WideShapes Go.ChangeAt Go.RowKit
set_option linter.unusedVariables false
set_option linter.unusedSimpArgs false
set_option maxRecDepth 100000

theorem once_ex (K : Cd) (s : Nat × Int) (n : Nat) (h0 : 0 < n) (hn : n ≤ 2147483648) (hl : K.l.length ≤ 1048576) : ∃ (b : Bool) (s' : Nat × Int), ∀ (w : World) (B : Nat), CurAt w B K s →
    Calls Tryd.prog 49 #[.pointer (some ⟨B, 0, none⟩), .int .i64 (n : Int)] w fun e w' => e = .returned (.bool b) ∧ CurAt w' B K s' ∧ But B w w' := by
  obtain ⟨x, s1, hx, H1⟩ := below_ex K s n h0 hn hl
  refine ⟨decide (x = 0), s1, fun w B hs => ?_⟩
  have H1 := Lib.hid (H1 _ _ hs)
  go_enter Tryd.func49, Tryd.ntmps49
  go_wp2_with fail
  refine H1.out.mono ?_
  rintro e w1 ⟨rfl, c1, b1⟩
  go_wp2
  go_ret
  exact ⟨ret_bool (by rw [Bool.eq_iff_iff]; simp), c1, b1⟩

set_option maxHeartbeats 4000000 in
theorem spoil_ex (K : Cd) (s : Nat × Int) (t : List UInt8) (ht : t.length ≤ 1000) (hl : K.l.length ≤ 1048576) : ∃ (t' : List UInt8) (s' : Nat × Int), t'.length ≤ 1001 ∧ ∀ (w : World) (B : Nat), CurAt w B K s →
    Calls Tryd.prog 50 #[.pointer (some ⟨B, 0, none⟩), .string (S t)] w fun e w' => e = .returned (.string (S t')) ∧ CurAt w' B K s' ∧ But B w w' := by
  by_cases h0 : t.length = 0
  · obtain ⟨t1, s1, ht1, H1⟩ := text_ex K s 3 (by omega) hl
    refine ⟨t1, s1, by omega, fun w B hs => ?_⟩
    have H1 := Lib.hid (H1 _ _ hs)
    have h0i : (t.length : Int) = 0 := by omega
    clear hs
    go_enter Tryd.func50, Tryd.ntmps50
    go_wp2_with fail
    refine H1.out.mono ?_
    rintro e w1 ⟨rfl, c1, b1⟩
    go_wp2
    go_ret
    exact ⟨rfl, c1, b1⟩
  · obtain ⟨k, s1, hk, H1⟩ := below_ex K s t.length (by omega) (by omega) hl
    obtain ⟨q, s2, hq, H2⟩ := below_ex K s1 4 (by omega) (by omega) hl
    have h0i : ¬ (t.length : Int) = 0 := by omega
    have hki : 0 ≤ (k : Int) ∧ (k : Int) < t.length := by omega
    have hx1 : (S t).extract 0 k = S (t.take k) := by rw [S_cut]; simp
    have hx2 : (S t).extract (k + 1) t.length = S (t.drop (k + 1)) := by rw [S_cut, List.take_of_length_le (by simp)]
    have hx3 : (S t).extract k t.length = S (t.drop k) := by rw [S_cut, List.take_of_length_le (by simp)]
    have hl1 : (t.take k).length = k := by rw [List.length_take]; omega
    have hl2 : (t.drop (k + 1)).length = t.length - (k + 1) := List.length_drop
    have hl3 : (t.drop k).length = t.length - k := List.length_drop
    have hk1 : k ≤ t.length := by omega
    have hk2 : k + 1 ≤ t.length := by omega
    have hs1 : ¬ 9223372036854775807 < k + 1 := by omega
    have hs2 : ¬ 9223372036854775807 < k + 1 + (t.length - k) := by omega
    have hs4 : ¬ 9223372036854775807 < t.length := by omega
    have hk3 : 0 ≤ (k : Int) + 1 ∧ (k : Int) + 1 ≤ t.length := by omega
    have hwk : IntKind.i64.wrap ((k : Int) + 1) = (k : Int) + 1 := by rw [IntKind.wrap_i64]; omega
    have hs3 : ¬ 9223372036854775807 < k + 1 + (t.length - (k + 1)) := by omega
    generalize t.take k = a at *
    generalize t.drop (k + 1) = b at *
    generalize t.drop k = d at *
    by_cases hq0 : q = 0
    · subst hq0
      refine ⟨a ++ b, s2, by simp; omega, fun w B hs => ?_⟩
      have H1 := Lib.hid (H1 _ _ hs)
      have H2 := Lib.hid H2
      clear hs
      go_enter Tryd.func50, Tryd.ntmps50
      go_wp2_with fail
      refine H1.out.mono ?_
      rintro e w1 ⟨rfl, c1, b1⟩
      go_wp2_with fail
      refine (H2.out _ _ c1).mono ?_
      rintro e w2 ⟨rfl, c2, b2⟩
      go_wp2
      go_region
      go_wp2
      go_ret
      exact ⟨rfl, c2.drew, (b1.trans b2).drew⟩
    · have hq0i : ¬ (q : Int) = 0 := by omega
      by_cases hq1 : q = 1
      · subst hq1
        have hx := byteC_lt K.l s2
        obtain ⟨x, s3, HX⟩ : ∃ x s3, byteC K.l s2 = (x, s3) := ⟨_, _, rfl⟩
        have HBY := fun (W : World) (B : Nat) (h : CurAt W B K s2) => byte_any B K s2 W h hl
        rw [HX] at hx HBY
        simp only at hx HBY
        clear HX
        refine ⟨a ++ [UInt8.ofNat x] ++ d, s3, by simp; omega, fun w B hs => ?_⟩
        have H1 := Lib.hid (H1 _ _ hs)
        have H2 := Lib.hid H2
        have H3 := Lib.hid HBY
        have hcv := conv_one (P := Tryd.prog) 22 9 5 Tryd.underlying22 Tryd.underlying5 Tryd.underlying9
        have hu8 : IntKind.u8.wrap (x : Int) = x := by rw [IntKind.wrap_u8]; omega
        clear hs HBY
        go_enter Tryd.func50, Tryd.ntmps50
        go_wp2_with fail
        refine H1.out.mono ?_
        rintro e w1 ⟨rfl, c1, b1⟩
        go_wp2_with fail
        refine (H2.out _ _ c1).mono ?_
        rintro e w2 ⟨rfl, c2, b2⟩
        go_wp2_with fail
        go_region_with (first | (go_at_call 88; refine (H3.out _ _ (by first | exact c2 | exact c2.drew)).mono ?_; rintro e w3 ⟨rfl, c3, b3⟩))
        all_goals
          go_wp2
          go_ret
          exact ⟨ret_string (by simp), (c3.alloc _), ((b1.trans b2).drew.trans b3).alloc _⟩
      · have hq1i : ¬ (q : Int) = 1 := by omega
        by_cases hq2 : q = 2
        · subst hq2
          refine ⟨a, s2, by omega, fun w B hs => ?_⟩
          have H1 := Lib.hid (H1 _ _ hs)
          have H2 := Lib.hid H2
          clear hs
          go_enter Tryd.func50, Tryd.ntmps50
          go_wp2_with fail
          refine H1.out.mono ?_
          rintro e w1 ⟨rfl, c1, b1⟩
          go_wp2_with fail
          refine (H2.out _ _ c1).mono ?_
          rintro e w2 ⟨rfl, c2, b2⟩
          go_wp2
          go_ret
          exact ⟨rfl, c2, b1.trans b2⟩
        · have hq2i : ¬ (q : Int) = 2 := by omega
          obtain ⟨y, s3, hy, H3⟩ := below_ex K s2 255 (by omega) (by omega) hl
          have hty : 0 ≤ (t[k].toNat : Int) ∧ (t[k].toNat : Int) ≤ 255 := by have := t[k].toNat_lt; omega
          have hwy : IntKind.i64.wrap (1 + (y : Int)) = 1 + (y : Int) := by rw [IntKind.wrap_i64]; omega
          have hwt : IntKind.i64.wrap (t[k].toNat : Int) = (t[k].toNat : Int) := by rw [IntKind.wrap_i64]; omega
          have hSk : (S t)[k]'(by simpa using hk) = t[k] := S_get _ _ _
          refine ⟨a ++ [UInt8.ofNat (IntKind.u8.wrap (bits .xor .i64 (t[k].toNat : Int) (1 + (y : Int)))).toNat] ++ b, s3, by simp; omega, fun w B hs => ?_⟩
          have H1 := Lib.hid (H1 _ _ hs)
          have H2 := Lib.hid H2
          have H3 := Lib.hid H3
          have hcv := conv_one (P := Tryd.prog) 22 9 5 Tryd.underlying22 Tryd.underlying5 Tryd.underlying9
          clear hs
          go_enter Tryd.func50, Tryd.ntmps50
          go_wp2_with fail
          refine H1.out.mono ?_
          rintro e w1 ⟨rfl, c1, b1⟩
          go_wp2_with fail
          refine (H2.out _ _ c1).mono ?_
          rintro e w2 ⟨rfl, c2, b2⟩
          go_wp2_with fail
          go_region_with (first | (go_at_call 82; refine (H3.out _ _ (by first | exact c2 | exact c2.drew)).mono ?_; rintro e w3 ⟨rfl, c3, b3⟩))
          all_goals
            go_wp2
            go_ret
            exact ⟨ret_string (by simp), (c3.alloc _), ((b1.trans b2).drew.trans b3).alloc _⟩

end Go.Proofs.YtecimgkgdpnaeaaDoor

/-
  The draws where it does not matter what is drawn.
-/
namespace Go.Proofs.YtecimgkgdpnaeaaDoor
open Go.ChangeShapes Go.WideShapes Go.ChangeAt Go.RowKit
set_option linter.unusedVariables false
set_option linter.unusedSimpArgs false
set_option maxRecDepth 100000

/-- A cursor, wherever it stands. -/
def CurX (w : World) (B : Nat) (K : Cd) : Prop := ∃ s, CurAt w B K s
theorem CurX.lt {w : World} {B : Nat} {K : Cd} (h : CurX w B K) : B < w.heap.size := by obtain ⟨s, h⟩ := h; exact h.1
theorem CurX.next {B : Nat} {w w' : World} {K : Cd} (h : CurX w B K) (hb : Below w.heap.size w w') : CurX w' B K := by obtain ⟨s, h⟩ := h; exact ⟨s, h.next hb⟩
theorem CurX.low {B k : Nat} {w w' : World} {K : Cd} (h : CurX w B K) (hb : Below k w w') (hB : B < k) : CurX w' B K := by obtain ⟨s, h⟩ := h; exact ⟨s, h.low hb hB⟩
theorem CurX.alloc {B : Nat} {w : World} {K : Cd} (h : CurX w B K) (o : Obj) : CurX (w.alloc o) B K := by obtain ⟨s, h⟩ := h; exact ⟨s, h.alloc o⟩
theorem CurX.drew {B : Nat} {w : World} {K : Cd} (h : CurX w B K) : CurX w.drew B K := by obtain ⟨s, h⟩ := h; exact ⟨s, h.drew⟩
theorem CurX.far {B : Nat} {w : World} {K : Cd} (h : CurX w B K) {g : Nat} (hg : B < g) (i : Nat) (u : Value) : CurX (w.setCell ⟨g, i, none⟩ u) B K := by obtain ⟨s, h⟩ := h; exact ⟨s, h.far hg i u⟩
theorem below_in (B : Nat) (K : Cd) (n : Nat) (w : World) (hs : CurX w B K) (hl : K.l.length ≤ 1048576) (h0 : 0 < n) (hn : n ≤ 2147483648) :
    Calls Tryd.prog 82 #[.pointer (some ⟨B, 0, none⟩), .int .i64 (n : Int)] w fun e w' => ∃ x : Nat, e = .returned (.int .i64 (x : Int)) ∧ x < n ∧ CurX w' B K ∧ But B w w' := by
  obtain ⟨s, hs⟩ := hs
  refine (below_any B K s n w hs hl h0 hn).mono ?_
  rintro e w' ⟨rfl, h1, h2⟩
  exact ⟨_, rfl, belowC_lt K.l s h0, ⟨_, h1⟩, h2⟩
theorem byte_in (B : Nat) (K : Cd) (w : World) (hs : CurX w B K) (hl : K.l.length ≤ 1048576) :
    Calls Tryd.prog 88 #[.pointer (some ⟨B, 0, none⟩)] w fun e w' => ∃ x : Nat, e = .returned (.int .i64 (x : Int)) ∧ x ≤ 255 ∧ CurX w' B K ∧ But B w w' := by
  obtain ⟨s, hs⟩ := hs
  refine (byte_any B K s w hs hl).mono ?_
  rintro e w' ⟨rfl, h1, h2⟩
  exact ⟨_, rfl, byteC_lt K.l s, ⟨_, h1⟩, h2⟩
theorem once_in (B : Nat) (K : Cd) (n : Nat) (w : World) (hs : CurX w B K) (hl : K.l.length ≤ 1048576) (h0 : 0 < n) (hn : n ≤ 2147483648) :
    Calls Tryd.prog 49 #[.pointer (some ⟨B, 0, none⟩), .int .i64 (n : Int)] w fun e w' => ∃ b : Bool, e = .returned (.bool b) ∧ CurX w' B K ∧ But B w w' := by
  have H1 := Lib.hid (below_in B K n w hs hl h0 hn)
  go_enter Tryd.func49, Tryd.ntmps49
  go_wp2_with fail
  refine H1.out.mono ?_
  rintro e w1 ⟨x, rfl, hx, c1, b1⟩
  go_wp2
  go_ret
  exact ⟨_, rfl, c1, b1⟩
theorem pick_in (B : Nat) (K : Cd) (ids : List Int) (w : World) (g c : Nat) (hs : CurX w B K) (hg : g ≠ B) (hgl : g < w.heap.size) (h0 : 0 < ids.length) (hn : ids.length ≤ 256) (hl : K.l.length ≤ 1048576) (hcl : ∀ (j : Nat) (h : j < ids.length), w.cell? ⟨g, j, none⟩ = some (.int .i64 ids[j])) :
    Calls Tryd.prog 84 #[.pointer (some ⟨B, 0, none⟩), .slice (some ⟨g, 0, none⟩) ids.length c] w fun e w' => ∃ v : Int, e = .returned (.int .i64 v) ∧ v ∈ ids ∧ CurX w' B K ∧ But B w w' := by
  obtain ⟨s, hs⟩ := hs
  obtain ⟨v, s1, hv, H⟩ := pick_ex K s ids h0 hn hl
  refine (H w B g c hs hg hgl hcl).mono ?_
  rintro e w' ⟨rfl, h1, h2⟩
  exact ⟨_, rfl, hv, ⟨_, h1⟩, h2⟩
theorem text_in (B : Nat) (K : Cd) (m : Nat) (w : World) (hs : CurX w B K) (hm : m ≤ 1000) (hl : K.l.length ≤ 1048576) :
    Calls Tryd.prog 83 #[.pointer (some ⟨B, 0, none⟩), .int .i64 (m : Int)] w fun e w' => ∃ t : List UInt8, e = .returned (.string (S t)) ∧ t.length ≤ m ∧ CurX w' B K ∧ But B w w' := by
  obtain ⟨s, hs⟩ := hs
  obtain ⟨v, s1, hv, H⟩ := text_ex K s m hm hl
  refine (H w B hs).mono ?_
  rintro e w' ⟨rfl, h1, h2⟩
  exact ⟨_, rfl, hv, ⟨_, h1⟩, h2⟩
theorem new_in (K : Cd) (w : World) (hl : K.l.length ≤ 1048576) (hR : BReads w w.heap.size K.A K.l) :
    Calls Tryd.prog 41 #[.slice K.A K.l.length K.c] w fun e w' => e = .returned (.pointer (some ⟨w.heap.size, 0, none⟩)) ∧ CurX w' w.heap.size K ∧ Below w.heap.size w w' := by
  refine (new_any K w hl hR).mono ?_
  rintro e w' ⟨rfl, h1, h2⟩
  exact ⟨rfl, ⟨_, h1⟩, h2⟩
end Go.Proofs.YtecimgkgdpnaeaaDoor

/-
  A text spoilt, wherever the cursor stands.
-/
namespace Go.Proofs.YtecimgkgdpnaeaaDoor
open Go.ChangeShapes Go.WideShapes Go.ChangeAt Go.RowKit
set_option linter.unusedVariables false
set_option linter.unusedSimpArgs false
set_option maxRecDepth 100000

theorem spoil_in (B : Nat) (K : Cd) (t : List UInt8) (w : World) (hs : CurX w B K) (ht : t.length ≤ 1000) (hl : K.l.length ≤ 1048576) :
    Calls Tryd.prog 50 #[.pointer (some ⟨B, 0, none⟩), .string (S t)] w fun e w' => ∃ t' : List UInt8, e = .returned (.string (S t')) ∧ t'.length ≤ 1001 ∧ CurX w' B K ∧ But B w w' := by
  obtain ⟨s, hs⟩ := hs
  obtain ⟨v, s1, hv, H⟩ := spoil_ex K s t ht hl
  refine (H w B hs).mono ?_
  rintro e w' ⟨rfl, h1, h2⟩
  exact ⟨_, rfl, hv, ⟨_, h1⟩, h2⟩
end Go.Proofs.YtecimgkgdpnaeaaDoor
