/-
  Texts and numbers drawn.
-/
import Derived.Test.YtnmgecaflildoaaDoorCur1
import Derived.Test.YtnmgecaflildoaaDoorInts0
import Derived.RegionTactic
import Derived.BigRegion
import Derived.Deep.RegionWith
namespace Go.Proofs.YtnmgecaflildoaaDoor
open Go.ChangeShapes Go.WideShapes Go.ChangeAt Go.RowKit
set_option linter.unusedVariables false
set_option linter.unusedSimpArgs false
set_option maxRecDepth 100000

/-- A byte in a style. -/
def stylC (st b : Nat) : Nat := if st = 1 then b % 2 else if st = 2 then 97 + b % 4 else b
theorem stylC_lt (st b : Nat) (hb : b ≤ 255) : stylC st b ≤ 255 := by unfold stylC; split <;> (try split) <;> omega
/-- So many bytes. -/
def bytesC (l : List UInt8) (st : Nat) (s : Nat × Int) : Nat → List UInt8 × (Nat × Int)
  | 0 => ([], s)
  | k + 1 => ((bytesC l st s k).1 ++ [UInt8.ofNat (stylC st (byteC l (bytesC l st s k).2).1)], (byteC l (bytesC l st s k).2).2)
theorem bytesC_len (l : List UInt8) (st : Nat) (s : Nat × Int) (k : Nat) : (bytesC l st s k).1.length = k := by
  induction k with
  | zero => rfl
  | succ k ih => simp only [bytesC, List.length_append, List.length_singleton, ih]
theorem text_ex (K : Cd) (s : Nat × Int) (m : Nat) (hm : m ≤ 1000) (hl : K.l.length ≤ 1048576) : ∃ (t : List UInt8) (s' : Nat × Int), t.length ≤ m ∧ ∀ (w : World) (B : Nat), CurAt w B K s →
    Calls Tryd.prog 42 #[.pointer (some ⟨B, 0, none⟩), .int .i64 (m : Int)] w fun e w' => e = .returned (.string (S t)) ∧ CurAt w' B K s' ∧ But B w w' := by
  obtain ⟨st, s1, hst, H1⟩ := below_ex K s 4 (by omega) (by omega) hl
  obtain ⟨n, s2, hn, H2⟩ := below_ex K s1 (m + 1) (by omega) (by omega) hl
  refine ⟨(bytesC K.l st s2 n).1, (bytesC K.l st s2 n).2, by rw [bytesC_len]; omega, fun w B hs => ?_⟩
  have H1 := Lib.hid H1
  simp only [Int.natCast_add, Int.cast_ofNat_Int, Int.natCast_one] at H2
  have H2 := Lib.hid H2
  obtain ⟨i0, hi, hz0, hz1, hz2⟩ := info_parts info_u8
  have HSTEP : Hid (∀ k, bytesC K.l st s2 (k + 1) = ((bytesC K.l st s2 k).1 ++ [UInt8.ofNat (stylC st (byteC K.l (bytesC K.l st s2 k).2).1)], (byteC K.l (bytesC K.l st s2 k).2).2)) := fun k => rfl
  have HZ : Hid (bytesC K.l st s2 0 = ([], s2)) := rfl
  generalize bytesC K.l st s2 = T at *
  have HBY := Lib.hid fun (s : Nat × Int) (W : World) (h : CurAt W B K s) => byte_any B K s W h hl
  have HB := hs.1
  have HS := Lib.hid (hs.alloc (.cells #[] 5))
  have HO := Lib.hid (World.ownsRow_lit (e := 5) (size := 1) (base := w.heap.size) w #[] 0 (Nat.le_refl _) (by simp [maxLen]) rfl)
  have HBU := Lib.hid ((But.refl B w).alloc (.cells #[] 5))
  have hm1 : 0 ≤ (m : Int) ∧ (m : Int) ≤ 1000 := by omega
  clear hs
  go_enter Tryd.func42, Tryd.ntmps42
  go_wp2_with fail
  refine (H1.out _ _ HS.out).mono ?_
  rintro e w1 ⟨rfl, c1, b1⟩
  go_wp2_with fail
  refine (H2.out _ _ c1).mono ?_
  rintro e w2 ⟨rfl, c2, b2⟩
  have HO2 := Lib.hid (own_but (own_but HO.out b1 HB) b2 HB)
  have HBU2 := Lib.hid ((HBU.out.trans b1).trans b2)
  clear H1 H2 HS HO HBU b1 b2 c1
  go_wp2_with fail
  go_loopw [5, 7] (fun out i wr => ∃ k j : Nat, j + k = n ∧ i = .int .i64 (j : Int) ∧ wr.ownsRow w.heap.size 5 1 out k ((T k).1.map bv) ∧ CurAt wr B K (T k).2 ∧ But B w wr) (fun _ i _ => (intOf i).toNat)
  case atStart => exact ⟨0, n, by omega, rfl, by rw [HZ.out]; exact HO2.out, by rw [HZ.out]; exact c2, HBU2.out⟩
  case round =>
    obtain ⟨k, j, hj, rfl, hown, hc, hbu⟩ := hrel
    have hki : 0 ≤ (j : Int) ∧ (j : Int) ≤ n := by omega
    by_cases hlt : 0 < j
    · have hji : 0 < (j : Int) := by omega
      have hst := HSTEP.out k
      have hx := byteC_lt K.l (T k).2
      have HC := Lib.hid (HBY.out _ _ hc)
      have hv := stylC_lt st (byteC K.l (T k).2).1 hx
      have hz := hbu.size
      generalize (byteC K.l (T k).2).1 = x at *
      generalize (byteC K.l (T k).2).2 = s3 at *
      have HV : Hid (stylC st x = if st = 1 then x % 2 else if st = 2 then 97 + x % 4 else x) := rfl
      generalize stylC st x = v at *
      have HBV := Lib.hid (bv_ofNat v (by omega))
      have HST := Lib.hid hst
      have HOWN := Lib.hid hown
      have HBUT := Lib.hid hbu
      clear hst hown hc hbu
      have hsts : st = 1 ∨ st = 2 ∨ (¬ st = 1 ∧ ¬ st = 2) := by omega
      have hn200 : n ≤ 1000 := by omega
      rcases hsts with rfl | rfl | ⟨hs1, hs2⟩
      · have hv2 : x % 2 = v := by rw [HV.out, if_pos rfl]
        have ht : (x : Int).tmod 2 = (v : Int) := by rw [Int.tmod_eq_emod_of_nonneg (by omega), ← hv2]; omega
        clear HV hv2
        go_wp2_with fail
        refine HC.out.mono ?_
        rintro e w3 ⟨rfl, c3, b3⟩
        have o3 := own_but HOWN.out b3 HB
        have hz3 := b3.size
        go_wp2_with (at_builtin; refine app_low rfl _ _ 22 rfl Tryd.underlying22 hi hz0 hz1 hz2 rfl (by decide) rfl o3 (by omega) rfl rfl rfl (one_cell1 _ _) (by unfold maxLen; omega) (by omega) ?_; intro v1 w4 hown1 hlow)
        go_roundw
        case rel => exact ⟨k + 1, j - 1, by omega, by go_num, by rw [HST.out, List.map_append, List.map_singleton, HBV.out]; exact hown1, by rw [HST.out]; exact c3.low hlow (by omega), (HBUT.out.trans b3).low hlow⟩
        case measure => simp [intOf]; omega
      · have hv2 : 97 + x % 4 = v := by rw [HV.out, if_neg (by omega), if_pos rfl]
        have ht : 97 + (x : Int).tmod 4 = (v : Int) := by rw [Int.tmod_eq_emod_of_nonneg (by omega), ← hv2]; omega
        have hv3 : (97 : Int) + (x : Int) % 4 = (v : Int) := by omega
        clear HV hv2
        go_wp2_with fail
        refine HC.out.mono ?_
        rintro e w3 ⟨rfl, c3, b3⟩
        have o3 := own_but HOWN.out b3 HB
        have hz3 := b3.size
        go_wp2_with (at_builtin; refine app_low rfl _ _ 22 rfl Tryd.underlying22 hi hz0 hz1 hz2 rfl (by decide) rfl o3 (by omega) rfl rfl rfl (one_cell1 _ _) (by unfold maxLen; omega) (by omega) ?_; intro v1 w4 hown1 hlow)
        go_roundw
        case rel => exact ⟨k + 1, j - 1, by omega, by go_num, by rw [HST.out, List.map_append, List.map_singleton, HBV.out]; exact hown1, by rw [HST.out]; exact c3.low hlow (by omega), (HBUT.out.trans b3).low hlow⟩
        case measure => simp [intOf]; omega
      · have hv2 : x = v := by rw [HV.out, if_neg hs1, if_neg hs2]
        subst hv2
        have hs1' : ¬ (st : Int) = 1 := by omega
        have hs2' : ¬ (st : Int) = 2 := by omega
        clear HV
        go_wp2_with fail
        refine HC.out.mono ?_
        rintro e w3 ⟨rfl, c3, b3⟩
        have o3 := own_but HOWN.out b3 HB
        have hz3 := b3.size
        go_wp2_with (at_builtin; refine app_low rfl _ _ 22 rfl Tryd.underlying22 hi hz0 hz1 hz2 rfl (by decide) rfl o3 (by omega) rfl rfl rfl (one_cell1 _ _) (by unfold maxLen; omega) (by omega) ?_; intro v1 w4 hown1 hlow)
        go_roundw
        case rel => exact ⟨k + 1, j - 1, by omega, by go_num, by rw [HST.out, List.map_append, List.map_singleton, HBV.out]; exact hown1, by rw [HST.out]; exact c3.low hlow (by omega), (HBUT.out.trans b3).low hlow⟩
        case measure => simp [intOf]; omega
    · obtain rfl : j = 0 := by omega
      have hkn : k = n := by omega
      have HK := Lib.hid hkn
      have HC := Lib.hid hc
      have HBUT := Lib.hid hbu
      have hcv := conv_own (l := (T k).1) Tryd.underlying22 Tryd.underlying5 Tryd.underlying9 hown
      clear hkn hown hc hbu
      go_wp2
      go_ret
      rw [← HK.out]
      exact ⟨rfl, HC.out, HBUT.out⟩

theorem pick_ex (K : Cd) (s : Nat × Int) (ids : List Int) (h0 : 0 < ids.length) (hn : ids.length ≤ 256) (hl : K.l.length ≤ 1048576) : ∃ (v : Int) (s' : Nat × Int), v ∈ ids ∧ ∀ (w : World) (B g c : Nat), CurAt w B K s → g ≠ B → g < w.heap.size → (∀ (j : Nat) (h : j < ids.length), w.cell? ⟨g, j, none⟩ = some (.int .i64 ids[j])) →
    Calls Tryd.prog 43 #[.pointer (some ⟨B, 0, none⟩), .slice (some ⟨g, 0, none⟩) ids.length c] w fun e w' => e = .returned (.int .i64 v) ∧ CurAt w' B K s' ∧ But B w w' := by
  obtain ⟨x, s1, hx, H1⟩ := below_ex K s ids.length h0 (by omega) hl
  refine ⟨ids[x], s1, List.getElem_mem _, fun w B g c hs hg hgl hcl => ?_⟩
  have H1 := Lib.hid (H1 _ _ hs)
  have c0 := hcl x hx
  have hxi : 0 ≤ (x : Int) ∧ (x : Int) < ids.length := by omega
  clear hcl
  generalize ids[x] = v at *
  go_enter Tryd.func43, Tryd.ntmps43
  go_wp2_with fail
  refine H1.out.mono ?_
  rintro e w1 ⟨rfl, c1, b1⟩
  have c0' := (b1.cell (o := x) hgl hg).trans c0
  go_wp2
  go_ret
  exact ⟨rfl, c1, b1⟩
/-- A literal of ints that has just been laid. -/
theorem lit_ints (W : World) (t : TypeId) (ids : List Int) : ∀ (j : Nat) (h : j < ids.length), (W.alloc (.cells (ids.map iv).toArray t)).cell? ⟨W.heap.size, j, none⟩ = some (.int .i64 ids[j]) := fun j h => by
  rw [World.cell?_alloc_new]
  simp [iv, h]
end Go.Proofs.YtnmgecaflildoaaDoor
