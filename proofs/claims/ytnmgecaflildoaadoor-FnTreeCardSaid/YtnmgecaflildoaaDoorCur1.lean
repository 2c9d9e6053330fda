/-
  The cursor of a draw: l1New, l1Byte, l1Below.
-/
import Derived.Test.YtnmgecaflildoaaDoorCur0
import Derived.Test.YtnmgecaflildoaaDoorNum1
namespace Go.Proofs.YtnmgecaflildoaaDoor
open Go.ChangeShapes Go.WideShapes Go.ChangeAt Go.RowKit
set_option linter.unusedVariables false
set_option linter.unusedSimpArgs false
set_option maxRecDepth 100000

theorem byte_any (B : Nat) (K : Cd) (s : Nat × Int) (w : World) (hs : CurAt w B K s) (hl : K.l.length ≤ 1048576) :
    Calls Tryd.prog 47 #[.pointer (some ⟨B, 0, none⟩)] w fun e w' => e = .returned (.int .i64 ((byteC K.l s).1 : Int)) ∧ CurAt w' B K (byteC K.l s).2 ∧ But B w w' := by
  obtain ⟨i, h⟩ := s
  have HS := Lib.hid (hs.setH (hN h))
  have HB := Lib.hid ((But.refl B w).set 2 (.int .i64 (hN h)))
  have hBC : Hid (byteC K.l (i, h) = if i < K.l.length then ((bits .and .i64 (hX (hN h) + (K.l.getD i 0).toNat) 255).toNat, (i + 1, hN h)) else ((hX (hN h)).toNat, (i, hN h))) := rfl
  generalize byteC K.l (i, h) = V at *
  obtain ⟨hB, c0, c1, c2, f0, f1, f2, hr⟩ := hs
  simp only at c1 c2
  clear hr
  go_enter Tryd.func47, Tryd.ntmps47
  go_wp2
  generalize hv : wrap64 (wrap64 (h * 6364136223846793005) + 1442695040888963407) = v
  have hNv : hN h = v := hv
  rw [hNv] at HS HB hBC
  clear hv hNv c0 c1 c2 f0 f1 f2
  generalize w.setCell ⟨B, 2, none⟩ (.int .i64 v) = w1 at *
  obtain ⟨hB1, c0, c1, c2, f0, f1, f2, hr⟩ := HS.out
  simp only at c1 c2
  have hx0 := and255_any (bits .xor .i64 (v / 8589934592) (v / 35184372088832))
  have hX' : bits .and .i64 (bits .xor .i64 (v / 8589934592) (v / 35184372088832)) 255 = hX v := rfl
  rw [hX'] at hx0
  go_region
  generalize hX v = x at *
  clear hX'
  by_cases hi : i < K.l.length
  · obtain ⟨b, off, hA, hbB, hcl⟩ := hr (by omega)
    have hcc := hcl i hi
    have hii : 0 ≤ (i : Int) ∧ (i : Int) < K.l.length := by omega
    have hg : K.l.getD i 0 = K.l[i] := by simp [List.getD, List.getElem?_eq_getElem hi]
    rw [if_pos hi, hg] at hBC
    rw [hA] at c0
    have hb0 : 0 ≤ (K.l[i].toNat : Int) ∧ (K.l[i].toNat : Int) ≤ 255 := by have := K.l[i].toNat_lt; omega
    generalize (K.l[i].toNat : Int) = y at *
    have hy := and255_any (x + y)
    have hyv : (((bits .and .i64 (x + y) 255).toNat : Nat) : Int) = bits .and .i64 (x + y) 255 := by omega
    have hw : wrap64 (x + y) = x + y := by unfold wrap64; omega
    have HS2 := Lib.hid (HS.out.drew.drew.drew.setI (i + 1))
    clear hcl hg hr
    go_wp2
    go_region
    go_wp2
    go_region
    go_wp2
    go_ret
    have h2 := HS2.out
    simp only [Int.natCast_add, Int.natCast_one] at h2
    rw [hBC.out]
    exact ⟨by rw [← hyv]; rfl, h2, HB.out.drew.drew.drew.set 1 _⟩
  · have hii : ¬ (i : Int) < K.l.length := by omega
    have hxv : ((x.toNat : Nat) : Int) = x := by omega
    rw [if_neg hi] at hBC
    clear hr
    go_wp2
    go_region
    go_wp2
    go_ret
    rw [hBC.out]
    exact ⟨by rw [← hxv]; rfl, HS.out.drew.drew, HB.out.drew.drew⟩

theorem new_any (K : Cd) (w : World) (hl : K.l.length ≤ 1048576) (hR : BReads w w.heap.size K.A K.l) :
    Calls Tryd.prog 17 #[.slice K.A K.l.length K.c] w fun e w' => e = .returned (.pointer (some ⟨w.heap.size, 0, none⟩)) ∧ CurAt w' w.heap.size K (0, newH K.l (min K.l.length 4000)) ∧ Below w.heap.size w w' := by
  have HR := Lib.hid hR
  have HE := Lib.hid (newH_bound K.l hl)
  have HSTEP : Hid (∀ k, (hk : k < K.l.length) → newH K.l (k + 1) = bits .and .i64 (newH K.l k * 131 + (K.l[k]).toNat + 7) 1073741823) := fun k hk => by
    rw [newH]; simp [List.getD, List.getElem?_eq_getElem hk]
  have HZ : Hid (newH K.l 0 = 10101 + K.l.length) := rfl
  have HCUR := Lib.hid fun h => CurAt.new w 53 K h hR
  generalize newH K.l = N at *
  clear hR
  go_enter Tryd.func17, Tryd.ntmps17
  go_wp2
  go_loop [3, 4] (fun h i => ∃ k : Nat, k ≤ K.l.length ∧ k ≤ 4000 ∧ i = .int .i64 (k : Int) ∧ h = .int .i64 (N k)) (fun _ i => K.l.length - (intOf i).toNat)
  case atStart => exact ⟨0, by omega, by omega, rfl, by rw [HZ.out]⟩
  case round =>
    obtain ⟨k, hk, hk4, rfl, rfl⟩ := hrel
    have hki : 0 ≤ (k : Int) ∧ (k : Int) ≤ K.l.length := by omega
    have hN := HE.out k
    by_cases hlt : k < K.l.length ∧ k < 4000
    · obtain ⟨hlt, hl4⟩ := hlt
      have hli : (k : Int) < K.l.length ∧ (k : Int) < 4000 := by omega
      have HST := Lib.hid (HSTEP.out k hlt)
      obtain ⟨b, off, hA, hbB, hcl⟩ := HR.out (by omega)
      have hcc := hcl k hlt
      rw [hA]
      have hb0 : 0 ≤ (K.l[k].toNat : Int) ∧ (K.l[k].toNat : Int) ≤ 255 := by have := K.l[k].toNat_lt; omega
      generalize (K.l[k].toNat : Int) = y at *
      generalize hx : N k = x at *
      clear hcl hx
      go_wp2
      go_round
      case rel => exact ⟨k + 1, by omega, by omega, by go_num, by rw [HST.out]⟩
      case measure => simp [intOf]; omega
    · have hkk : k = min K.l.length 4000 := by omega
      have HK := Lib.hid hkk
      have hgd : ¬ ((k : Int) < K.l.length) ∨ ((k : Int) < K.l.length ∧ ¬ (k : Int) < 4000) := by omega
      clear hkk
      rcases hgd with hgd | ⟨hgd, hgd2⟩
      all_goals
        go_wp2
        go_ret
        rw [← HK.out]
        exact ⟨rfl, HCUR.out _, (Below.refl _ _).alloc (Nat.le_refl _) _⟩
theorem below_any (B : Nat) (K : Cd) (s : Nat × Int) (n : Nat) (w : World) (hs : CurAt w B K s) (hl : K.l.length ≤ 1048576) (h0 : 0 < n) (hn : n ≤ 2147483648) :
    Calls Tryd.prog 21 #[.pointer (some ⟨B, 0, none⟩), .int .i64 (n : Int)] w fun e w' => e = .returned (.int .i64 ((belowC K.l s n).1 : Int)) ∧ CurAt w' B K (belowC K.l s n).2 ∧ But B w w' := by
  by_cases h : n ≤ 256
  · have hV : Hid (belowC K.l s n = ((byteC K.l s).1 % n, (byteC K.l s).2)) := by unfold Hid belowC; rw [if_pos h]
    have hb := byteC_lt K.l s
    have HB := Lib.hid (byte_any B K s w hs hl)
    have hn0 : ¬ (n : Int) ≤ 0 := by omega
    have hn1 : (n : Int) ≤ 256 := by omega
    generalize belowC K.l s n = V at *
    generalize (byteC K.l s).1 = x at *
    generalize (byteC K.l s).2 = s1 at *
    have hm : (x : Int).tmod n = ((x % n : Nat) : Int) := by rw [Int.tmod_eq_emod_of_nonneg (by omega)]; omega
    go_enter Tryd.func21, Tryd.ntmps21
    go_wp2_with fail
    refine HB.out.mono ?_
    rintro e w1 ⟨rfl, s1, b1⟩
    go_wp2
    go_ret
    rw [hV.out]
    exact ⟨by simp, s1, b1⟩
  · have hV : Hid (belowC K.l s n = (((byteC K.l s).1 * 16777216 + (byteC K.l (byteC K.l s).2).1 * 65536 + (byteC K.l (byteC K.l (byteC K.l s).2).2).1 * 256 + (byteC K.l (byteC K.l (byteC K.l (byteC K.l s).2).2).2).1) % n, (byteC K.l (byteC K.l (byteC K.l (byteC K.l s).2).2).2).2)) := by unfold Hid belowC; rw [if_neg h]
    have hn0 : ¬ (n : Int) ≤ 0 := by omega
    have hn1 : ¬ (n : Int) ≤ 256 := by omega
    have HB := Lib.hid (fun s (W : World) (h : CurAt W B K s) => byte_any B K s W h hl)
    have HS := Lib.hid hs
    have hb1 := byteC_lt K.l s
    have hb2 := byteC_lt K.l (byteC K.l s).2
    have hb3 := byteC_lt K.l (byteC K.l (byteC K.l s).2).2
    have hb4 := byteC_lt K.l (byteC K.l (byteC K.l (byteC K.l s).2).2).2
    have H1 := Lib.hid (HB.out s)
    have H2 := Lib.hid (HB.out (byteC K.l s).2)
    have H3 := Lib.hid (HB.out (byteC K.l (byteC K.l s).2).2)
    have H4 := Lib.hid (HB.out (byteC K.l (byteC K.l (byteC K.l s).2).2).2)
    generalize belowC K.l s n = V at *
    generalize (byteC K.l (byteC K.l (byteC K.l (byteC K.l s).2).2).2).1 = x4 at *
    generalize (byteC K.l (byteC K.l (byteC K.l (byteC K.l s).2).2).2).2 = s4 at *
    generalize (byteC K.l (byteC K.l (byteC K.l s).2).2).1 = x3 at *
    generalize (byteC K.l (byteC K.l (byteC K.l s).2).2).2 = s3 at *
    generalize (byteC K.l (byteC K.l s).2).1 = x2 at *
    generalize (byteC K.l (byteC K.l s).2).2 = s2 at *
    generalize (byteC K.l s).1 = x1 at *
    generalize (byteC K.l s).2 = s1 at *
    have hm : ((x1 : Int) * 16777216 + (x2 : Int) * 65536 + (x3 : Int) * 256 + (x4 : Int)).tmod n = (((x1 * 16777216 + x2 * 65536 + x3 * 256 + x4) % n : Nat) : Int) := by rw [Int.tmod_eq_emod_of_nonneg (by omega), Int.natCast_emod]; simp
    clear hs
    go_enter Tryd.func21, Tryd.ntmps21
    go_wp2_with fail
    refine (H1.out _ HS.out).mono ?_
    rintro e w1 ⟨rfl, c1, b1⟩
    go_wp2_with fail
    refine (H2.out _ c1).mono ?_
    rintro e w2 ⟨rfl, c2, b2⟩
    go_wp2_with fail
    refine (H3.out _ c2).mono ?_
    rintro e w3 ⟨rfl, c3, b3⟩
    go_wp2_with fail
    refine (H4.out _ c3).mono ?_
    rintro e w4 ⟨rfl, c4, b4⟩
    go_wp2
    go_ret
    rw [hV.out]
    exact ⟨by first | rfl | simp [hm] | (simp; omega), c4, ((b1.trans b2).trans b3).trans b4⟩
theorem below_ex (K : Cd) (s : Nat × Int) (n : Nat) (h0 : 0 < n) (hn : n ≤ 2147483648) (hl : K.l.length ≤ 1048576) : ∃ (x : Nat) (s' : Nat × Int), x < n ∧ ∀ (w : World) (B : Nat), CurAt w B K s →
    Calls Tryd.prog 21 #[.pointer (some ⟨B, 0, none⟩), .int .i64 (n : Int)] w fun e w' => e = .returned (.int .i64 (x : Int)) ∧ CurAt w' B K s' ∧ But B w w' :=
  ⟨_, _, belowC_lt K.l s h0, fun w B hs => below_any B K s n w hs hl h0 hn⟩
end Go.Proofs.YtnmgecaflildoaaDoor
