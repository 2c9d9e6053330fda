/-
  ValsOk, both.
-/
import Derived.Test.YtnmgecaflildoaaVal0
namespace Go.Proofs.Ytnmgecaflildoaa
open Go.ChangeShapes Go.WideShapes Go.ChangeAt Go.RowKit
set_option linter.unusedVariables false
set_option linter.unusedSimpArgs false
set_option maxRecDepth 100000

theorem within_q (x lo hi : Int) (w : World) : Calls Try.prog 23 #[.int .i64 x, .int .i64 lo, .int .i64 hi] w fun e w' => e = .returned (.bool (inB x lo hi)) ∧ w' = w :=
  (within_b x lo hi w).mono fun e w' ⟨he, hw⟩ => ⟨he, hw.symm⟩
theorem l1In_q (x lo hi : Int) (w : World) : Calls Try.prog 22 #[.int .i64 x, .int .i64 lo, .int .i64 hi] w fun e w' => e = .returned (.bool (inB x lo hi)) ∧ w' = w :=
  (l1In_b x lo hi w).mono fun e w' ⟨he, hw⟩ => ⟨he, hw.symm⟩

set_option maxHeartbeats 1600000 in
theorem sValsOk_any (A : Option Addr) (c : Nat) (l : List ValT) (w : World) (hl : l.length ≤ 4194304) (hR : VReads w w.heap.size A l) :
    Calls Try.prog 11 #[.slice A l.length c] w fun e w' => e = .returned (.bool (valsOkB l)) ∧ Below w.heap.size w w' := by
  cases hlen : inB (l.length : Int) 1 7
  · have HV : Hid (valsOkB l = false) := by unfold Hid valsOkB; rw [hlen]; rfl
    go_enter Try.func11, Try.ntmps11
    go_wp2_with (go_at_call 22; refine (l1In_b _ _ _ _).mono ?_; rintro e w' ⟨rfl, rfl⟩)
    go_ret
    exact ⟨ret_bool HV.out.symm, Below.refl _ _⟩
  · have HV0 : Hid (valsOkB l = ascOk 0 l) := by unfold Hid valsOkB; rw [hlen]; rfl
    go_enter Try.func11, Try.ntmps11
    go_wp2_with (go_at_call 22; refine (l1In_b _ _ _ _).mono ?_; rintro e w' ⟨rfl, rfl⟩)
    clear hlen
    go_loopw [3] (fun i wr => ∃ k : Nat, k ≤ l.length ∧ i = .int .i64 k ∧ Hid (AscAt l k) ∧ Below w.heap.size w wr) (fun i _ => l.length - (intOf i).toNat)
    case atStart => exact ⟨0, by omega, rfl, AscAt.start l, Below.refl _ _⟩
    case round =>
      obtain ⟨k, hk, rfl, HA, hb⟩ := hrel
      by_cases hlt : k < l.length
      · obtain ⟨b, off, rfl, hbB, hc⟩ := ((hR.below hb (Nat.le_refl _)).more hb.size) (by omega)
        obtain ⟨c0, c1⟩ := hc k hlt
        have hki : 0 ≤ (k : Int) ∧ (k : Int) < l.length := by omega
        cases h1 : inB l[k].id 1 99
        · have HV : Hid (valsOkB l = false) := by unfold Hid; rw [HV0.out, HA.out.bad hlt (.inl (by rw [valOk1, h1]; rfl))]
          go_wp2
          go_quiet ((go_at_call 22; exact Calls.quiet_of_same (l1In_q _ _ _ _)))
          go_wp2
          go_ret
          exact ⟨ret_bool HV.out.symm, below_drewN hb nq⟩
        · cases h2 : inB l[k].power 1 1000
          · have HV : Hid (valsOkB l = false) := by unfold Hid; rw [HV0.out, HA.out.bad hlt (.inl (by rw [valOk1, h1, h2]; rfl))]
            go_wp2
            go_quiet ((go_at_call 22; exact Calls.quiet_of_same (l1In_q _ _ _ _)))
            go_wp2
            go_ret
            exact ⟨ret_bool HV.out.symm, below_drewN hb nq⟩
          · have hv : valOk1 l[k] = true := by rw [valOk1, h1, h2]; rfl
            have HVO := Lib.hid hv
            clear hv
            rcases Nat.eq_zero_or_pos k with hk0 | hk0
            · subst hk0
              have HS : Hid (AscAt l (0 + 1)) := HA.out.step hlt HVO.out (by rw [prevId_zero]; have := (inB_true h1).1; omega)
              rw [show (((0 : Nat) : Int)) = 0 from rfl]
              have c0' : _ = some (Value.int .i64 l[0].id) := c0
              have c1' : _ = some (Value.int .i64 l[0].power) := c1
              rw [Nat.zero_mul, Nat.add_zero] at c0' c1'
              have hki' : (0 : Int) < l.length := by omega
              clear c0 c1 hc hki
              go_wp2
              go_quiet ((go_at_call 22; exact Calls.quiet_of_same (l1In_q _ _ _ _)))
              go_wp2
              go_roundw
              case rel => exact ⟨0 + 1, by omega, by go_num, HS, below_drewN hb nq⟩
              case measure => simp [intOf]; omega
            · obtain ⟨m, rfl⟩ : ∃ m, k = m + 1 := ⟨k - 1, by omega⟩
              obtain ⟨p0, _⟩ := hc m (by omega)
              have hp := prevId_succ l m (by omega)
              have hpos : (0 : Int) < ((m + 1 : Nat) : Int) := by omega
              have hpos' : (0 : Int) < (m : Int) + 1 := by omega
              have e1 : IntKind.i64.wrap ((m : Int) + 1 - 1) = (m : Int) := by rw [IntKind.wrap_i64]; omega
              have hm1 : 0 ≤ (m : Int) ∧ (m : Int) < l.length := by omega
              by_cases h3 : l[m].id < l[m + 1].id
              · have HS : Hid (AscAt l (m + 1 + 1)) := HA.out.step hlt HVO.out (by rw [hp]; exact h3)
                clear hp
                go_wp2
                go_quiet ((go_at_call 22; exact Calls.quiet_of_same (l1In_q _ _ _ _)))
                go_wp2
                go_roundw
                case rel => exact ⟨m + 1 + 1, by omega, by go_num, HS, below_drewN hb nq⟩
                case measure => simp [intOf]; omega
              · have HV : Hid (valsOkB l = false) := by unfold Hid; rw [HV0.out, HA.out.bad hlt (.inr (by rw [hp]; exact h3))]
                clear hp
                go_wp2
                go_quiet ((go_at_call 22; exact Calls.quiet_of_same (l1In_q _ _ _ _)))
                go_wp2
                go_ret
                exact ⟨ret_bool HV.out.symm, below_drewN hb nq⟩
      · have HF : Hid (ascOk 0 l = true) := HA.out.fin (by omega)
        go_wp2
        go_ret
        exact ⟨ret_bool (by rw [HV0.out, HF.out]), hb⟩

set_option maxHeartbeats 1600000 in
theorem iValsOk_any (A : Option Addr) (c : Nat) (l : List ValT) (w : World) (hl : l.length ≤ 4194304) (hR : VReads w w.heap.size A l) :
    Calls Try.prog 14 #[.slice A l.length c] w fun e w' => e = .returned (.bool (valsOkB l)) ∧ Below w.heap.size w w' := by
  have HV0 : Hid (valsOkB l = (inB (l.length : Int) 1 7 && ascOk 0 l)) := rfl
  go_enter Try.func14, Try.ntmps14
  go_wp2
  go_loopw [3, 7] (fun _ i wr => ∃ k : Nat, k ≤ l.length ∧ i = .int .i64 k ∧ Hid (AscAt l k) ∧ Below w.heap.size w wr) (fun _ i _ => l.length - (intOf i).toNat)
  case atStart => exact ⟨0, by omega, rfl, AscAt.start l, Below.refl _ _⟩
  case round =>
    obtain ⟨k, hk, rfl, HA, hb⟩ := hrel
    by_cases hlt : k < l.length
    · obtain ⟨b, off, rfl, hbB, hc⟩ := ((hR.below hb (Nat.le_refl _)).more hb.size) (by omega)
      obtain ⟨c0, c1⟩ := hc k hlt
      have hki : 0 ≤ (k : Int) ∧ (k : Int) < l.length := by omega
      cases h1 : inB l[k].id 1 99
      · have HV : Hid (valsOkB l = false) := by unfold Hid; rw [HV0.out, HA.out.bad hlt (.inl (by rw [valOk1, h1]; rfl)), Bool.and_false]
        go_wp2
        go_quiet ((go_at_call 23; exact Calls.quiet_of_same (within_q _ _ _ _)))
        go_wp2
        go_ret
        exact ⟨ret_bool HV.out.symm, below_drewN (hb.alloc hb.size _) nq⟩
      · cases h2 : inB l[k].power 1 1000
        · have HV : Hid (valsOkB l = false) := by unfold Hid; rw [HV0.out, HA.out.bad hlt (.inl (by rw [valOk1, h1, h2]; rfl)), Bool.and_false]
          go_wp2
          go_quiet ((go_at_call 23; exact Calls.quiet_of_same (within_q _ _ _ _)))
          go_wp2
          go_ret
          exact ⟨ret_bool HV.out.symm, below_drewN (hb.alloc hb.size _) nq⟩
        · have hv : valOk1 l[k] = true := by rw [valOk1, h1, h2]; rfl
          have HVO := Lib.hid hv
          clear hv
          rcases Nat.eq_zero_or_pos k with hk0 | hk0
          · subst hk0
            have HS : Hid (AscAt l (0 + 1)) := HA.out.step hlt HVO.out (by rw [prevId_zero]; have := (inB_true h1).1; omega)
            rw [show (((0 : Nat) : Int)) = 0 from rfl]
            have c0' : _ = some (Value.int .i64 l[0].id) := c0
            have c1' : _ = some (Value.int .i64 l[0].power) := c1
            rw [Nat.zero_mul, Nat.add_zero] at c0' c1'
            have hki' : (0 : Int) < l.length := by omega
            clear c0 c1 hc hki
            go_wp2
            go_quiet ((go_at_call 23; exact Calls.quiet_of_same (within_q _ _ _ _)))
            go_wp2
            go_roundw
            case rel => exact ⟨0 + 1, by omega, by go_num, HS, below_drewN (hb.alloc hb.size _) nq⟩
            case measure => simp [intOf]; omega
          · obtain ⟨m, rfl⟩ : ∃ m, k = m + 1 := ⟨k - 1, by omega⟩
            obtain ⟨p0, _⟩ := hc m (by omega)
            have hp := prevId_succ l m (by omega)
            have hpos : (0 : Int) < ((m + 1 : Nat) : Int) := by omega
            have hpos' : (0 : Int) < (m : Int) + 1 := by omega
            have e1 : IntKind.i64.wrap ((m : Int) + 1 - 1) = (m : Int) := by rw [IntKind.wrap_i64]; omega
            have hm1 : 0 ≤ (m : Int) ∧ (m : Int) < l.length := by omega
            by_cases h3 : l[m].id < l[m + 1].id
            · have HS : Hid (AscAt l (m + 1 + 1)) := HA.out.step hlt HVO.out (by rw [hp]; exact h3)
              clear hp
              go_wp2
              go_quiet ((go_at_call 23; exact Calls.quiet_of_same (within_q _ _ _ _)))
              go_wp2
              go_roundw
              case rel => exact ⟨m + 1 + 1, by omega, by go_num, HS, below_drewN (hb.alloc hb.size _) nq⟩
              case measure => simp [intOf]; omega
            · have HV : Hid (valsOkB l = false) := by unfold Hid; rw [HV0.out, HA.out.bad hlt (.inr (by rw [hp]; exact h3)), Bool.and_false]
              clear hp
              go_wp2
              go_quiet ((go_at_call 23; exact Calls.quiet_of_same (within_q _ _ _ _)))
              go_wp2
              go_ret
              exact ⟨ret_bool HV.out.symm, below_drewN (hb.alloc hb.size _) nq⟩
    · have HF : Hid (ascOk 0 l = true) := HA.out.fin (by omega)
      cases hlen : inB (l.length : Int) 1 7
      · have HV : Hid (valsOkB l = false) := by unfold Hid; rw [HV0.out, hlen]; rfl
        go_wp2_with (go_at_call 23; refine (within_b _ _ _ _).mono ?_; rintro e w' ⟨rfl, rfl⟩)
        go_ret
        exact ⟨ret_bool HV.out.symm, hb⟩
      · have HV : Hid (valsOkB l = true) := by unfold Hid; rw [HV0.out, hlen, HF.out]; rfl
        go_wp2_with (go_at_call 23; refine (within_b _ _ _ _).mono ?_; rintro e w' ⟨rfl, rfl⟩)
        go_ret
        exact ⟨ret_bool HV.out.symm, hb⟩
end Go.Proofs.Ytnmgecaflildoaa
