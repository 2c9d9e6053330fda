/-
  Texts of this proof, laid into one: Val1, Pow1, Vote1, Head1.
-/
import Derived.Test.YtecimgkgdpnaeaaDoorGFnCommit6
import Derived.Test.YtecimgkgdpnaeaaDoorGFnCommit2
import Derived.Test.YtecimgkgdpnaeaaDoorGFnCommit5
/-
  ValsOk, both.
-/
namespace Go.Proofs.YtecimgkgdpnaeaaDoor
open Go.ChangeShapes Go.WideShapes Go.ChangeAt Go.RowKit
set_option linter.unusedVariables false
set_option linter.unusedSimpArgs false
set_option maxRecDepth 100000

theorem within_q (x lo hi : Int) (w : World) : Calls Tryd.prog 55 #[.int .i64 x, .int .i64 lo, .int .i64 hi] w fun e w' => e = .returned (.bool (inB x lo hi)) ∧ w' = w :=
  (within_b x lo hi w).mono fun e w' ⟨he, hw⟩ => ⟨he, hw.symm⟩
theorem l1In_q (x lo hi : Int) (w : World) : Calls Tryd.prog 58 #[.int .i64 x, .int .i64 lo, .int .i64 hi] w fun e w' => e = .returned (.bool (inB x lo hi)) ∧ w' = w :=
  (l1In_b x lo hi w).mono fun e w' ⟨he, hw⟩ => ⟨he, hw.symm⟩

set_option maxHeartbeats 1600000 in
theorem sValsOk_any (A : Option Addr) (c : Nat) (l : List ValT) (w : World) (hl : l.length ≤ 4194304) (hR : VReads w w.heap.size A l) :
    Calls Tryd.prog 76 #[.slice A l.length c] w fun e w' => e = .returned (.bool (valsOkB l)) ∧ Below w.heap.size w w' := by
  cases hlen : inB (l.length : Int) 1 7
  · have HV : Hid (valsOkB l = false) := by unfold Hid valsOkB; rw [hlen]; rfl
    go_enter Tryd.func76, Tryd.ntmps76
    go_wp2_with (go_at_call 58; refine (l1In_b _ _ _ _).mono ?_; rintro e w' ⟨rfl, rfl⟩)
    go_ret
    exact ⟨ret_bool HV.out.symm, Below.refl _ _⟩
  · have HV0 : Hid (valsOkB l = ascOk 0 l) := by unfold Hid valsOkB; rw [hlen]; rfl
    go_enter Tryd.func76, Tryd.ntmps76
    go_wp2_with (go_at_call 58; refine (l1In_b _ _ _ _).mono ?_; rintro e w' ⟨rfl, rfl⟩)
    clear hlen
    go_loopw [3] (fun i wr => ∃ k : Nat, k ≤ l.length ∧ i = .int .i64 k ∧ Hid (AscAt l k) ∧ Below w.heap.size w wr) (fun i _ => l.length - (intOf i).toNat)
    case atStart => exact ⟨0, by omega, rfl, AscAt.start l, Below.refl _ _⟩
    case round =>
      obtain ⟨k, hk, rfl, HA, hb⟩ := hrel
      by_cases hlt : k < l.length
      · obtain ⟨b, off, rfl, hbB, hc⟩ := ((hR.below hb (Nat.le_refl _)).more hb.size) (by omega)
        obtain ⟨c0, c1⟩ := hc k hlt
        have hki : 0 ≤ (k : Int) ∧ (k : Int) < l.length := by omega
        cases h1 : inB l[k].id 1 99
        · have HV : Hid (valsOkB l = false) := by unfold Hid; rw [HV0.out, HA.out.bad hlt (.inl (by rw [valOk1, h1]; rfl))]
          go_wp2
          go_quiet ((go_at_call 58; exact Calls.quiet_of_same (l1In_q _ _ _ _)))
          go_wp2
          go_ret
          exact ⟨ret_bool HV.out.symm, below_drewN hb nq⟩
        · cases h2 : inB l[k].power 1 1000
          · have HV : Hid (valsOkB l = false) := by unfold Hid; rw [HV0.out, HA.out.bad hlt (.inl (by rw [valOk1, h1, h2]; rfl))]
            go_wp2
            go_quiet ((go_at_call 58; exact Calls.quiet_of_same (l1In_q _ _ _ _)))
            go_wp2
            go_ret
            exact ⟨ret_bool HV.out.symm, below_drewN hb nq⟩
          · have hv : valOk1 l[k] = true := by rw [valOk1, h1, h2]; rfl
            have HVO := Lib.hid hv
            clear hv
            rcases Nat.eq_zero_or_pos k with hk0 | hk0
            · subst hk0
              have HS : Hid (AscAt l (0 + 1)) := HA.out.step hlt HVO.out (by rw [prevId_zero]; have := (inB_true h1).1; omega)
              rw [show (((0 : Nat) : Int)) = 0 from rfl]
              have c0' : _ = some (Value.int .i64 l[0].id) := c0
              have c1' : _ = some (Value.int .i64 l[0].power) := c1
              rw [Nat.zero_mul, Nat.add_zero] at c0' c1'
              have hki' : (0 : Int) < l.length := by omega
              clear c0 c1 hc hki
              go_wp2
              go_quiet ((go_at_call 58; exact Calls.quiet_of_same (l1In_q _ _ _ _)))
              go_wp2
              go_roundw
              case rel => exact ⟨0 + 1, by omega, by go_num, HS, below_drewN hb nq⟩
              case measure => simp [intOf]; omega
            · obtain ⟨m, rfl⟩ : ∃ m, k = m + 1 := ⟨k - 1, by omega⟩
              obtain ⟨p0, _⟩ := hc m (by omega)
              have hp := prevId_succ l m (by omega)
              have hpos : (0 : Int) < ((m + 1 : Nat) : Int) := by omega
              have hpos' : (0 : Int) < (m : Int) + 1 := by omega
              have e1 : IntKind.i64.wrap ((m : Int) + 1 - 1) = (m : Int) := by rw [IntKind.wrap_i64]; omega
              have hm1 : 0 ≤ (m : Int) ∧ (m : Int) < l.length := by omega
              by_cases h3 : l[m].id < l[m + 1].id
              · have HS : Hid (AscAt l (m + 1 + 1)) := HA.out.step hlt HVO.out (by rw [hp]; exact h3)
                clear hp
                go_wp2
                go_quiet ((go_at_call 58; exact Calls.quiet_of_same (l1In_q _ _ _ _)))
                go_wp2
                go_roundw
                case rel => exact ⟨m + 1 + 1, by omega, by go_num, HS, below_drewN hb nq⟩
                case measure => simp [intOf]; omega
              · have HV : Hid (valsOkB l = false) := by unfold Hid; rw [HV0.out, HA.out.bad hlt (.inr (by rw [hp]; exact h3))]
                clear hp
                go_wp2
                go_quiet ((go_at_call 58; exact Calls.quiet_of_same (l1In_q _ _ _ _)))
                go_wp2
                go_ret
                exact ⟨ret_bool HV.out.symm, below_drewN hb nq⟩
      · have HF : Hid (ascOk 0 l = true) := HA.out.fin (by omega)
        go_wp2
        go_ret
        exact ⟨ret_bool (by rw [HV0.out, HF.out]), hb⟩

set_option maxHeartbeats 1600000 in
theorem iValsOk_any (A : Option Addr) (c : Nat) (l : List ValT) (w : World) (hl : l.length ≤ 4194304) (hR : VReads w w.heap.size A l) :
    Calls Tryd.prog 73 #[.slice A l.length c] w fun e w' => e = .returned (.bool (valsOkB l)) ∧ Below w.heap.size w w' := by
  have HV0 : Hid (valsOkB l = (inB (l.length : Int) 1 7 && ascOk 0 l)) := rfl
  go_enter Tryd.func73, Tryd.ntmps73
  go_wp2
  go_loopw [3, 7] (fun _ i wr => ∃ k : Nat, k ≤ l.length ∧ i = .int .i64 k ∧ Hid (AscAt l k) ∧ Below w.heap.size w wr) (fun _ i _ => l.length - (intOf i).toNat)
  case atStart => exact ⟨0, by omega, rfl, AscAt.start l, Below.refl _ _⟩
  case round =>
    obtain ⟨k, hk, rfl, HA, hb⟩ := hrel
    by_cases hlt : k < l.length
    · obtain ⟨b, off, rfl, hbB, hc⟩ := ((hR.below hb (Nat.le_refl _)).more hb.size) (by omega)
      obtain ⟨c0, c1⟩ := hc k hlt
      have hki : 0 ≤ (k : Int) ∧ (k : Int) < l.length := by omega
      cases h1 : inB l[k].id 1 99
      · have HV : Hid (valsOkB l = false) := by unfold Hid; rw [HV0.out, HA.out.bad hlt (.inl (by rw [valOk1, h1]; rfl)), Bool.and_false]
        go_wp2
        go_quiet ((go_at_call 55; exact Calls.quiet_of_same (within_q _ _ _ _)))
        go_wp2
        go_ret
        exact ⟨ret_bool HV.out.symm, below_drewN (hb.alloc hb.size _) nq⟩
      · cases h2 : inB l[k].power 1 1000
        · have HV : Hid (valsOkB l = false) := by unfold Hid; rw [HV0.out, HA.out.bad hlt (.inl (by rw [valOk1, h1, h2]; rfl)), Bool.and_false]
          go_wp2
          go_quiet ((go_at_call 55; exact Calls.quiet_of_same (within_q _ _ _ _)))
          go_wp2
          go_ret
          exact ⟨ret_bool HV.out.symm, below_drewN (hb.alloc hb.size _) nq⟩
        · have hv : valOk1 l[k] = true := by rw [valOk1, h1, h2]; rfl
          have HVO := Lib.hid hv
          clear hv
          rcases Nat.eq_zero_or_pos k with hk0 | hk0
          · subst hk0
            have HS : Hid (AscAt l (0 + 1)) := HA.out.step hlt HVO.out (by rw [prevId_zero]; have := (inB_true h1).1; omega)
            rw [show (((0 : Nat) : Int)) = 0 from rfl]
            have c0' : _ = some (Value.int .i64 l[0].id) := c0
            have c1' : _ = some (Value.int .i64 l[0].power) := c1
            rw [Nat.zero_mul, Nat.add_zero] at c0' c1'
            have hki' : (0 : Int) < l.length := by omega
            clear c0 c1 hc hki
            go_wp2
            go_quiet ((go_at_call 55; exact Calls.quiet_of_same (within_q _ _ _ _)))
            go_wp2
            go_roundw
            case rel => exact ⟨0 + 1, by omega, by go_num, HS, below_drewN (hb.alloc hb.size _) nq⟩
            case measure => simp [intOf]; omega
          · obtain ⟨m, rfl⟩ : ∃ m, k = m + 1 := ⟨k - 1, by omega⟩
            obtain ⟨p0, _⟩ := hc m (by omega)
            have hp := prevId_succ l m (by omega)
            have hpos : (0 : Int) < ((m + 1 : Nat) : Int) := by omega
            have hpos' : (0 : Int) < (m : Int) + 1 := by omega
            have e1 : IntKind.i64.wrap ((m : Int) + 1 - 1) = (m : Int) := by rw [IntKind.wrap_i64]; omega
            have hm1 : 0 ≤ (m : Int) ∧ (m : Int) < l.length := by omega
            by_cases h3 : l[m].id < l[m + 1].id
            · have HS : Hid (AscAt l (m + 1 + 1)) := HA.out.step hlt HVO.out (by rw [hp]; exact h3)
              clear hp
              go_wp2
              go_quiet ((go_at_call 55; exact Calls.quiet_of_same (within_q _ _ _ _)))
              go_wp2
              go_roundw
              case rel => exact ⟨m + 1 + 1, by omega, by go_num, HS, below_drewN (hb.alloc hb.size _) nq⟩
              case measure => simp [intOf]; omega
            · have HV : Hid (valsOkB l = false) := by unfold Hid; rw [HV0.out, HA.out.bad hlt (.inr (by rw [hp]; exact h3)), Bool.and_false]
              clear hp
              go_wp2
              go_quiet ((go_at_call 55; exact Calls.quiet_of_same (within_q _ _ _ _)))
              go_wp2
              go_ret
              exact ⟨ret_bool HV.out.symm, below_drewN (hb.alloc hb.size _) nq⟩
    · have HF : Hid (ascOk 0 l = true) := HA.out.fin (by omega)
      cases hlen : inB (l.length : Int) 1 7
      · have HV : Hid (valsOkB l = false) := by unfold Hid; rw [HV0.out, hlen]; rfl
        go_wp2_with (go_at_call 55; refine (within_b _ _ _ _).mono ?_; rintro e w' ⟨rfl, rfl⟩)
        go_ret
        exact ⟨ret_bool HV.out.symm, hb⟩
      · have HV : Hid (valsOkB l = true) := by unfold Hid; rw [HV0.out, hlen, HF.out]; rfl
        go_wp2_with (go_at_call 55; refine (within_b _ _ _ _).mono ?_; rintro e w' ⟨rfl, rfl⟩)
        go_ret
        exact ⟨ret_bool HV.out.symm, hb⟩
end Go.Proofs.YtecimgkgdpnaeaaDoor

/-
  slices.Contains at ints; l6Has; PowerOf, Enough, both.
-/
namespace Go.Proofs.YtecimgkgdpnaeaaDoor
open Go.ChangeShapes Go.WideShapes Go.ChangeAt Go.RowKit
set_option linter.unusedVariables false
set_option linter.unusedSimpArgs false
set_option maxRecDepth 100000

/-- A place of x, or -1. -/
def SomeIdx (ids : List Int) (x : Int) (e : Ending) : Prop := ∃ r : Int, e = .returned (.int .i64 r) ∧ Hid (decide (0 ≤ r) = hasB ids x)
theorem has_no {ids : List Int} {x : Int} (h : ∀ j (hj : j < ids.length), ids[j] ≠ x) : hasB ids x = false := by
  unfold hasB
  rw [List.contains_eq_mem, decide_eq_false_iff_not]
  intro hm
  obtain ⟨j, hj, e⟩ := List.getElem_of_mem hm
  exact h j hj e
theorem has_yes {ids : List Int} {x : Int} {j : Nat} (hj : j < ids.length) (h : ids[j] = x) : hasB ids x = true := by
  unfold hasB
  rw [List.contains_eq_mem, decide_eq_true_eq, ← h]
  exact List.getElem_mem _

theorem index_any (A : Option Addr) (c : Nat) (ids : List Int) (x : Int) (w : World) (hl : ids.length ≤ 4194304) (hI : IReads w w.heap.size A ids) :
    Calls Tryd.prog 127 #[.slice A ids.length c, .int .i64 x] w fun e w' => SomeIdx ids x e ∧ w = w' := by
  go_enter Tryd.func127, Tryd.ntmps127
  go_wp2
  go_loop [5, 8] (fun _ i => ∃ k : Nat, k ≤ ids.length ∧ i = .int .i64 k ∧ Hid (∀ j (hj : j < ids.length), j < k → ids[j] ≠ x)) (fun _ i => ids.length - (intOf i).toNat)
  case atStart => exact ⟨0, by omega, rfl, fun j _ h => absurd h (by omega)⟩
  case round =>
    obtain ⟨k, hk, rfl, HN⟩ := hrel
    by_cases hlt : k < ids.length
    · obtain ⟨b, off, rfl, hbB, hc⟩ := hI (by omega)
      have c0 := hc k hlt
      have hki : 0 ≤ (k : Int) ∧ (k : Int) < ids.length := by omega
      by_cases he : ids[k] = x
      · have HY := Lib.hid (has_yes hlt he)
        have hte : (x == ids[k]) = true := by rw [he]; simp
        clear he hc
        go_wp2
        go_ret
        exact ⟨⟨k, rfl, by unfold Hid; rw [HY.out]; simp⟩, rfl⟩
      · have HN' : Hid (∀ j (hj : j < ids.length), j < k + 1 → ids[j] ≠ x) := fun j hj h => by
          rcases Nat.lt_or_ge j k with h' | h'
          · exact HN.out j hj h'
          · obtain rfl : j = k := by omega
            exact he
        have hte : (x == ids[k]) = false := by rw [beq_eq_false_iff_ne]; exact fun h => he h.symm
        clear he hc
        go_wp2
        go_round
        case rel => exact ⟨k + 1, by omega, by go_num, HN'⟩
        case measure => simp [intOf]; omega
    · have HF := Lib.hid (has_no (fun j hj => HN.out j hj (by omega)))
      go_wp2
      go_ret
      exact ⟨⟨-1, rfl, by unfold Hid; rw [HF.out]; rfl⟩, rfl⟩

theorem contains_any (A : Option Addr) (c : Nat) (ids : List Int) (x : Int) (w : World) (hl : ids.length ≤ 4194304) (hI : IReads w w.heap.size A ids) :
    Calls Tryd.prog 108 #[.slice A ids.length c, .int .i64 x] w fun e w' => e = .returned (.bool (hasB ids x)) ∧ w = w' := by
  go_enter Tryd.func108, Tryd.ntmps108
  go_wp2_with (go_at_call 127; refine (index_any _ _ _ _ _ hl hI).mono ?_; rintro e w' ⟨⟨r, rfl, hr⟩, rfl⟩)
  go_ret
  exact ⟨ret_bool hr.out, rfl⟩

theorem l6Has_any (A : Option Addr) (c : Nat) (ids : List Int) (x : Int) (w : World) (hl : ids.length ≤ 4194304) (hI : IReads w w.heap.size A ids) :
    Calls Tryd.prog 78 #[.slice A ids.length c, .int .i64 x] w fun e w' => e = .returned (.bool (hasB ids x)) ∧ w = w' := by
  go_enter Tryd.func78, Tryd.ntmps78
  go_wp2
  go_loop [5] (fun i => ∃ k : Nat, k ≤ ids.length ∧ i = .int .i64 k ∧ Hid (∀ j (hj : j < ids.length), j < k → ids[j] ≠ x)) (fun i => ids.length - (intOf i).toNat)
  case atStart => exact ⟨0, by omega, rfl, fun j _ h => absurd h (by omega)⟩
  case round =>
    obtain ⟨k, hk, rfl, HN⟩ := hrel
    by_cases hlt : k < ids.length
    · obtain ⟨b, off, rfl, hbB, hc⟩ := hI (by omega)
      have c0 := hc k hlt
      have hki : 0 ≤ (k : Int) ∧ (k : Int) < ids.length := by omega
      by_cases he : ids[k] = x
      · have HY := Lib.hid (has_yes hlt he)
        have hte : (ids[k] == x) = true := by rw [he]; simp
        clear he hc
        go_wp2
        go_ret
        exact ⟨ret_bool HY.out.symm, rfl⟩
      · have HN' : Hid (∀ j (hj : j < ids.length), j < k + 1 → ids[j] ≠ x) := fun j hj h => by
          rcases Nat.lt_or_ge j k with h' | h'
          · exact HN.out j hj h'
          · obtain rfl : j = k := by omega
            exact he
        have hte : (ids[k] == x) = false := by rw [beq_eq_false_iff_ne]; exact he
        clear he hc
        go_wp2
        go_round
        case rel => exact ⟨k + 1, by omega, by go_num, HN'⟩
        case measure => simp [intOf]; omega
    · have HF := Lib.hid (has_no (fun j hj => HN.out j hj (by omega)))
      go_wp2
      go_ret
      exact ⟨ret_bool HF.out.symm, rfl⟩

/-- What the loops over the power know at place k. -/
theorem pw_step (f : Int → Bool) (l : List ValT) (hok : valsOkB l = true) (k : Nat) (h : k < l.length) :
    0 ≤ pwOf f (l.take k) ∧ pwOf f (l.take k) ≤ 6000 ∧ 1 ≤ l[k].power ∧ l[k].power ≤ 1000 := by
  have h1 := pwOf_bound f l (valsOk_pos hok) k (by omega)
  have h2 := valsOk_len hok
  have h3 := valsOk_pos hok l[k] (List.getElem_mem _)
  omega

theorem powerOf_all (A : Option Addr) (c : Nat) (l : List ValT) (w : World) (hR : VReads w w.heap.size A l) (hok : valsOkB l = true) :
    Calls Tryd.prog 106 #[.slice A l.length c, .func (.func 128) #[] #[]] w fun e w' => e = .returned (.int .i64 (pwOf allIds l)) ∧ Below w.heap.size w w' := by
  have hlen := valsOk_len hok
  have HOK := Lib.hid hok
  clear hok
  go_enter Tryd.func106, Tryd.ntmps106
  go_wp2
  go_loopw [5, 10] (fun n i wr => ∃ k : Nat, k ≤ l.length ∧ i = .int .i64 k ∧ n = .int .i64 (pwOf allIds (l.take k)) ∧ Below w.heap.size w wr) (fun _ i _ => l.length - (intOf i).toNat)
  case atStart => exact ⟨0, by omega, rfl, rfl, Below.refl _ _⟩
  case round =>
    obtain ⟨k, hk, rfl, rfl, hb⟩ := hrel
    by_cases hlt : k < l.length
    · obtain ⟨b, off, rfl, hbB, hc⟩ := ((hR.below hb (Nat.le_refl _)).more hb.size) (by omega)
      obtain ⟨c0, c1⟩ := hc k hlt
      have hki : 0 ≤ (k : Int) ∧ (k : Int) < l.length := by omega
      obtain ⟨p0, p1, p2, p3⟩ := pw_step allIds l HOK.out k hlt
      have hs := Lib.hid (pwOf_take allIds l k hlt)
      generalize pwOf allIds (l.take k) = p at *
      go_wp2
      go_roundw
      case rel => exact ⟨k + 1, by omega, by go_num, by rw [hs.out]; rfl, hb.alloc hb.size _⟩
      case measure => simp [intOf]; omega
    · have hkl : Hid (k = l.length) := by unfold Hid; omega
      go_wp2
      go_ret
      exact ⟨ret_int (by rw [hkl.out, List.take_length]), hb⟩
theorem enough1_any (B : Nat) (Ai : Option Addr) (ci : Nat) (ids : List Int) (x : Int) (w : World) (hil : ids.length ≤ 4194304) (hBw : B < w.heap.size) (hcell : w.cell? ⟨B, 0, none⟩ = some (.slice Ai ids.length ci)) (hI : IReads w w.heap.size Ai ids) :
    Calls Tryd.prog 107 #[.int .i64 x, .pointer (some ⟨B, 0, none⟩)] w fun e w' => e = .returned (.bool (hasB ids x)) ∧ w = w' := by
  have HI := Lib.hid hI
  clear hI
  go_enter Tryd.func107, Tryd.ntmps107
  go_wp2_with (go_at_call 108; refine (contains_any _ _ _ _ _ hil HI.out).mono ?_; rintro e w' ⟨rfl, rfl⟩)
  go_ret
  exact ⟨rfl, rfl⟩

theorem powerOf_ids (A : Option Addr) (c : Nat) (l : List ValT) (w : World) (B : Nat) (Ai : Option Addr) (ci : Nat) (ids : List Int) (hil : ids.length ≤ 4194304) (hBw : B < w.heap.size) (hcell : w.cell? ⟨B, 0, none⟩ = some (.slice Ai ids.length ci)) (hI : IReads w w.heap.size Ai ids) (hR : VReads w w.heap.size A l) (hok : valsOkB l = true) :
    Calls Tryd.prog 106 #[.slice A l.length c, .func (.func 107) #[] #[.pointer (some ⟨B, 0, none⟩)]] w fun e w' => e = .returned (.int .i64 (pwOf (hasB ids) l)) ∧ Below w.heap.size w w' := by
  have hlen := valsOk_len hok
  have HOK := Lib.hid hok
  clear hok
  go_enter Tryd.func106, Tryd.ntmps106
  go_wp2
  go_loopw [5, 10] (fun n i wr => ∃ k : Nat, k ≤ l.length ∧ i = .int .i64 k ∧ n = .int .i64 (pwOf (hasB ids) (l.take k)) ∧ Below w.heap.size w wr) (fun _ i _ => l.length - (intOf i).toNat)
  case atStart => exact ⟨0, by omega, rfl, rfl, Below.refl _ _⟩
  case round =>
    obtain ⟨k, hk, rfl, rfl, hb⟩ := hrel
    by_cases hlt : k < l.length
    · obtain ⟨b, off, rfl, hbB, hc⟩ := ((hR.below hb (Nat.le_refl _)).more hb.size) (by omega)
      obtain ⟨c0, c1⟩ := hc k hlt
      have hki : 0 ≤ (k : Int) ∧ (k : Int) < l.length := by omega
      obtain ⟨p0, p1, p2, p3⟩ := pw_step (hasB ids) l HOK.out k hlt
      have hs := Lib.hid (pwOf_take (hasB ids) l k hlt)
      generalize pwOf (hasB ids) (l.take k) = p at *
      have hbz := hb.size
      have hcell' : wr.cell? ⟨B, 0, none⟩ = some (.slice Ai ids.length ci) := (hb.cell (p := ⟨B, 0, none⟩) hBw).trans hcell
      have hI' := Lib.hid ((hI.to hb).to (((Below.refl wr.heap.size wr).alloc (Nat.le_refl _) (.cells #[.int .i64 l[k].id, .int .i64 l[k].power] 101))))
      have hB2 : B < wr.heap.size := by omega
      have HC := Lib.hid ((World.cell?_alloc_lt wr (.cells #[.int .i64 l[k].id, .int .i64 l[k].power] 101) ⟨B, 0, none⟩ hB2).trans hcell')
      cases hh : hasB ids l[k].id
      all_goals
        rw [hh] at hs
        go_wp2_with (go_at_call 107; refine (enough1_any B Ai ci ids _ _ hil (by simp; omega) HC.out hI'.out).mono ?_; rintro e w' ⟨rfl, rfl⟩)
        go_roundw
        case rel => exact ⟨k + 1, by omega, by go_num, by rw [hs.out]; rfl, hb.alloc hb.size _⟩
        case measure => simp [intOf]; omega
    · have hkl : Hid (k = l.length) := by unfold Hid; omega
      go_wp2
      go_ret
      exact ⟨ret_int (by rw [hkl.out, List.take_length]), hb⟩
theorem iPowerOf_any (A : Option Addr) (c : Nat) (l : List ValT) (w : World) (hl : l.length ≤ 4194304) (hR : VReads w w.heap.size A l) :
    Calls Tryd.prog 109 #[.slice A l.length c] w fun e w' => e = .returned (.int .i64 (powerS l)) ∧ Below w.heap.size w w' := by
  have hb := Below.refl w.heap.size w
  have HR := Lib.hid hR
  clear hR
  cases hok : valsOkB l
  · have HV : Hid (powerS l = 0) := by unfold Hid powerS; rw [hok]; rfl
    go_enter Tryd.func109, Tryd.ntmps109
    go_wp2_with (go_at_call 73; refine (iValsOk_any _ _ _ _ hl HR.out).mono ?_; rintro e wn ⟨rfl, hbn⟩; have hb := Below.next (w := w) (by repeat (first | with_reducible exact hb | with_reducible exact Below.refl _ _ | refine Below.drew ?_ | refine Below.setCell ?_ (by simp <;> omega) _ | refine Below.alloc ?_ (by simp <;> omega) _)) hbn; clear hbn)
    go_ret
    exact ⟨ret_int HV.out.symm, hb⟩
  · have HV : Hid (powerS l = pwOf allIds l) := by unfold Hid powerS; rw [hok]; rfl
    have HOK := Lib.hid hok
    go_enter Tryd.func109, Tryd.ntmps109
    go_wp2_with (first | (go_at_call 73; refine (iValsOk_any _ _ _ _ hl HR.out).mono ?_; rintro e wn ⟨rfl, hbn⟩; have hb := Below.next (w := w) (by repeat (first | with_reducible exact hb | with_reducible exact Below.refl _ _ | refine Below.drew ?_ | refine Below.setCell ?_ (by simp <;> omega) _ | refine Below.alloc ?_ (by simp <;> omega) _)) hbn; clear hbn) | (go_at_call 106; refine (powerOf_all _ _ _ _ (HR.out.to hb) HOK.out).mono ?_; rintro e wn ⟨rfl, hbn⟩; have hb := Below.next (w := w) (by repeat (first | with_reducible exact hb | with_reducible exact Below.refl _ _ | refine Below.drew ?_ | refine Below.setCell ?_ (by simp <;> omega) _ | refine Below.alloc ?_ (by simp <;> omega) _)) hbn; clear hbn))
    go_ret
    exact ⟨ret_int HV.out.symm, hb⟩

theorem sPowerOf_any (A : Option Addr) (c : Nat) (l : List ValT) (w : World) (hl : l.length ≤ 4194304) (hR : VReads w w.heap.size A l) :
    Calls Tryd.prog 79 #[.slice A l.length c] w fun e w' => e = .returned (.int .i64 (powerS l)) ∧ Below w.heap.size w w' := by
  have HR := Lib.hid hR
  clear hR
  cases hok : valsOkB l
  · have HV : Hid (powerS l = 0) := by unfold Hid powerS; rw [hok]; rfl
    go_enter Tryd.func79, Tryd.ntmps79
    go_wp2
    go_loopw [3, 4] (fun n i wr => i = .int .i64 0 ∧ n = .int .i64 0 ∧ Below w.heap.size w wr) (fun _ _ _ => 0)
    case atStart => exact ⟨rfl, rfl, Below.refl _ _⟩
    case round =>
      obtain ⟨rfl, rfl, hb⟩ := hrel
      by_cases hl0 : (0 : Int) < l.length
      · go_wp2_with (go_at_call 76; refine (sValsOk_any _ _ _ _ hl (HR.out.to hb)).mono ?_; rintro e wn ⟨rfl, hbn⟩; have hb := Below.next (w := w) (by repeat (first | with_reducible exact hb | with_reducible exact Below.refl _ _ | refine Below.drew ?_ | refine Below.setCell ?_ (by simp <;> omega) _ | refine Below.alloc ?_ (by simp <;> omega) _)) hbn; clear hbn)
        go_ret
        exact ⟨ret_int HV.out.symm, hb⟩
      · go_wp2
        go_ret
        exact ⟨ret_int HV.out.symm, hb⟩
  · have HV : Hid (powerS l = pwOf allIds l) := by unfold Hid powerS; rw [hok]; rfl
    have HOK := Lib.hid hok
    have hlen := valsOk_len hok
    go_enter Tryd.func79, Tryd.ntmps79
    go_wp2
    go_loopw [3, 4] (fun n i wr => ∃ k : Nat, k ≤ l.length ∧ i = .int .i64 k ∧ n = .int .i64 (pwOf allIds (l.take k)) ∧ Below w.heap.size w wr) (fun _ i _ => l.length - (intOf i).toNat)
    case atStart => exact ⟨0, by omega, rfl, rfl, Below.refl _ _⟩
    case round =>
      obtain ⟨k, hk, rfl, rfl, hb⟩ := hrel
      by_cases hlt : k < l.length
      · obtain ⟨b, off, rfl, hbB, hc⟩ := HR.out (by omega)
        have HC : Hid (∀ W, Below w.heap.size w W → W.cell? ⟨b, off + k * 2 + 1, none⟩ = some (.int .i64 l[k].power)) := fun W hW => (hW.cell (p := ⟨b, _, none⟩) hbB).trans (hc k hlt).2
        clear hc
        have hki : 0 ≤ (k : Int) ∧ (k : Int) < l.length := by omega
        obtain ⟨p0, p1, p2, p3⟩ := pw_step allIds l HOK.out k hlt
        have hs := Lib.hid (pwOf_take allIds l k hlt)
        generalize pwOf allIds (l.take k) = p at *
        go_wp2_with ((go_at_call 76; refine (sValsOk_any _ _ _ _ hl (HR.out.to hb)).mono ?_; rintro e wn ⟨rfl, hbn⟩; have hb := Below.next (w := w) (by repeat (first | with_reducible exact hb | with_reducible exact Below.refl _ _ | refine Below.drew ?_ | refine Below.setCell ?_ (by simp <;> omega) _ | refine Below.alloc ?_ (by simp <;> omega) _)) hbn; clear hbn); have c1 := HC.out _ hb)
        go_roundw
        case rel => exact ⟨k + 1, by omega, by go_num, by rw [hs.out]; rfl, hb⟩
        case measure => simp [intOf]; omega
      · have hkl : Hid (k = l.length) := by unfold Hid; omega
        go_wp2
        go_ret
        exact ⟨ret_int (by rw [HV.out, hkl.out, List.take_length]), hb⟩

theorem iEnough_any (A : Option Addr) (c : Nat) (l : List ValT) (Ai : Option Addr) (ci : Nat) (ids : List Int) (w : World) (hl : l.length ≤ 4194304) (hil : ids.length ≤ 4194304) (hR : VReads w w.heap.size A l) (hI : IReads w w.heap.size Ai ids) :
    Calls Tryd.prog 75 #[.slice A l.length c, .slice Ai ids.length ci] w fun e w' => e = .returned (.bool (enoughB l ids)) ∧ Below w.heap.size w w' := by
  have HR := Lib.hid hR
  have HI := Lib.hid hI
  clear hR hI
  have hb := Below.refl w.heap.size w
  have hb0 := Lib.hid (hb.alloc (Nat.le_refl _) (.cells #[.slice Ai ids.length ci] 43))
  cases hok : valsOkB l
  · have HV : Hid (enoughB l ids = false) := by unfold Hid enoughB; rw [hok]; rfl
    go_enter Tryd.func75, Tryd.ntmps75
    go_wp2_with (go_at_call 73; refine (iValsOk_any _ _ _ _ hl (HR.out.to hb0.out)).mono ?_; rintro e wn ⟨rfl, hbn⟩; have hb := Below.next (w := w) (by repeat (first | with_reducible exact hb | with_reducible exact Below.refl _ _ | refine Below.drew ?_ | refine Below.setCell ?_ (by simp <;> omega) _ | refine Below.alloc ?_ (by simp <;> omega) _)) hbn; clear hbn)
    go_ret
    exact ⟨ret_bool HV.out.symm, hb⟩
  · have HV : Hid (enoughB l ids = decide (2 * pwOf allIds l < 3 * pwOf (hasB ids) l)) := by unfold Hid enoughB; rw [hok]; rfl
    have HOK := Lib.hid hok
    obtain ⟨p0, p1⟩ := valsOk_bound allIds hok
    obtain ⟨q0, q1⟩ := valsOk_bound (hasB ids) hok
    have HP : Hid (powerS l = pwOf allIds l) := by unfold Hid powerS; rw [hok]; rfl
    have hps : 0 ≤ powerS l ∧ powerS l ≤ 7000 := by rw [HP.out]; omega
    obtain ⟨r0, r1⟩ := hps
    go_enter Tryd.func75, Tryd.ntmps75
    go_wp2_with (first | (go_at_call 73; refine (iValsOk_any _ _ _ _ hl (HR.out.to hb0.out)).mono ?_; rintro e wn ⟨rfl, hbn⟩; have hb := Below.next (w := w) (by repeat (first | with_reducible exact hb | with_reducible exact Below.refl _ _ | refine Below.drew ?_ | refine Below.setCell ?_ (by simp <;> omega) _ | refine Below.alloc ?_ (by simp <;> omega) _)) hbn; obtain ⟨hc, hf⟩ := bcell hbn; have hz := hbn.size; (try simp at hz); (try have hz1 : w.heap.size < wn.heap.size := (by omega)); (try have hz2 : w.heap.size + 1 < wn.heap.size := (by omega)); (try have hz3 : w.heap.size + 1 + 1 < wn.heap.size := (by omega)); clear hbn) | (go_at_call 106; refine (powerOf_ids _ _ _ _ w.heap.size Ai ci ids hil (by omega) (by go_simp) (HI.out.to hb) (HR.out.to hb) HOK.out).mono ?_; rintro e wn ⟨rfl, hbn⟩; have hb := Below.next (w := w) (by repeat (first | with_reducible exact hb | with_reducible exact Below.refl _ _ | refine Below.drew ?_ | refine Below.setCell ?_ (by simp <;> omega) _ | refine Below.alloc ?_ (by simp <;> omega) _)) hbn; obtain ⟨hc, hf⟩ := bcell hbn; have hz := hbn.size; (try simp at hz); (try have hz1 : w.heap.size < wn.heap.size := (by omega)); (try have hz2 : w.heap.size + 1 < wn.heap.size := (by omega)); (try have hz3 : w.heap.size + 1 + 1 < wn.heap.size := (by omega)); clear hbn) | (go_at_call 109; refine (iPowerOf_any _ _ _ _ hl (HR.out.to hb)).mono ?_; rintro e wn ⟨rfl, hbn⟩; have hb := Below.next (w := w) (by repeat (first | with_reducible exact hb | with_reducible exact Below.refl _ _ | refine Below.drew ?_ | refine Below.setCell ?_ (by simp <;> omega) _ | refine Below.alloc ?_ (by simp <;> omega) _)) hbn; obtain ⟨hc, hf⟩ := bcell hbn; have hz := hbn.size; (try simp at hz); (try have hz1 : w.heap.size < wn.heap.size := (by omega)); (try have hz2 : w.heap.size + 1 < wn.heap.size := (by omega)); (try have hz3 : w.heap.size + 1 + 1 < wn.heap.size := (by omega)); clear hbn))
    go_ret
    exact ⟨ret_bool (by rw [HV.out, ← HP.out]), hb⟩

theorem sEnough_any (A : Option Addr) (c : Nat) (l : List ValT) (Ai : Option Addr) (ci : Nat) (ids : List Int) (w : World) (hl : l.length ≤ 4194304) (hil : ids.length ≤ 4194304) (hR : VReads w w.heap.size A l) (hI : IReads w w.heap.size Ai ids) :
    Calls Tryd.prog 35 #[.slice A l.length c, .slice Ai ids.length ci] w fun e w' => e = .returned (.bool (enoughB l ids)) ∧ Below w.heap.size w w' := by
  have HR := Lib.hid hR
  have HI := Lib.hid hI
  clear hR hI
  cases hok : valsOkB l
  · have HV : Hid (enoughB l ids = false) := by unfold Hid enoughB; rw [hok]; rfl
    go_enter Tryd.func35, Tryd.ntmps35
    go_wp2
    go_loopw [5, 6] (fun n i wr => i = .int .i64 0 ∧ n = .int .i64 0 ∧ Below w.heap.size w wr) (fun _ _ _ => 0)
    case atStart => exact ⟨rfl, rfl, Below.refl _ _⟩
    case round =>
      obtain ⟨rfl, rfl, hb⟩ := hrel
      by_cases hl0 : (0 : Int) < l.length
      · go_wp2_with (go_at_call 76; refine (sValsOk_any _ _ _ _ hl (HR.out.to hb)).mono ?_; rintro e wn ⟨rfl, hbn⟩; have hb := Below.next (w := w) (by repeat (first | with_reducible exact hb | with_reducible exact Below.refl _ _ | refine Below.drew ?_ | refine Below.setCell ?_ (by simp <;> omega) _ | refine Below.alloc ?_ (by simp <;> omega) _)) hbn; clear hbn)
        go_ret
        exact ⟨ret_bool HV.out.symm, hb⟩
      · go_wp2_with (go_at_call 76; refine (sValsOk_any _ _ _ _ hl (HR.out.to hb)).mono ?_; rintro e wn ⟨rfl, hbn⟩; have hb := Below.next (w := w) (by repeat (first | with_reducible exact hb | with_reducible exact Below.refl _ _ | refine Below.drew ?_ | refine Below.setCell ?_ (by simp <;> omega) _ | refine Below.alloc ?_ (by simp <;> omega) _)) hbn; clear hbn)
        go_ret
        exact ⟨ret_bool HV.out.symm, hb⟩
  · have HV : Hid (enoughB l ids = decide (2 * pwOf allIds l < 3 * pwOf (hasB ids) l)) := by unfold Hid enoughB; rw [hok]; rfl
    have HOK := Lib.hid hok
    have HP : Hid (powerS l = pwOf allIds l) := by unfold Hid powerS; rw [hok]; rfl
    obtain ⟨r0, r1⟩ : 0 ≤ powerS l ∧ powerS l ≤ 7000 := by have := valsOk_bound allIds hok; rw [HP.out]; omega
    obtain ⟨q0, q1⟩ := valsOk_bound (hasB ids) hok
    have hlen := valsOk_len hok
    go_enter Tryd.func35, Tryd.ntmps35
    go_wp2
    go_loopw [5, 6] (fun n i wr => ∃ k : Nat, k ≤ l.length ∧ i = .int .i64 k ∧ n = .int .i64 (pwOf (hasB ids) (l.take k)) ∧ Below w.heap.size w wr) (fun _ i _ => l.length - (intOf i).toNat)
    case atStart => exact ⟨0, by omega, rfl, rfl, Below.refl _ _⟩
    case round =>
      obtain ⟨k, hk, rfl, rfl, hb⟩ := hrel
      by_cases hlt : k < l.length
      · obtain ⟨b, off, rfl, hbB, hc⟩ := HR.out (by omega)
        have HC : Hid (∀ W, Below w.heap.size w W → W.cell? ⟨b, off + k * 2, none⟩ = some (.int .i64 l[k].id)) := fun W hW => (hW.cell (p := ⟨b, _, none⟩) hbB).trans (hc k hlt).1
        have HC1 : Hid (∀ W, Below w.heap.size w W → W.cell? ⟨b, off + k * 2 + 1, none⟩ = some (.int .i64 l[k].power)) := fun W hW => (hW.cell (p := ⟨b, _, none⟩) hbB).trans (hc k hlt).2
        clear hc
        have hki : 0 ≤ (k : Int) ∧ (k : Int) < l.length := by omega
        obtain ⟨p0, p1, p2, p3⟩ := pw_step (hasB ids) l HOK.out k hlt
        have hs := Lib.hid (pwOf_take (hasB ids) l k hlt)
        generalize pwOf (hasB ids) (l.take k) = p at *
        cases hh : hasB ids l[k].id
        all_goals
          rw [hh] at hs
          go_wp2_with (first | ((go_at_call 76; refine (sValsOk_any _ _ _ _ hl (HR.out.to hb)).mono ?_; rintro e wn ⟨rfl, hbn⟩; have hb := Below.next (w := w) (by repeat (first | with_reducible exact hb | with_reducible exact Below.refl _ _ | refine Below.drew ?_ | refine Below.setCell ?_ (by simp <;> omega) _ | refine Below.alloc ?_ (by simp <;> omega) _)) hbn; clear hbn); have c0 := HC.out _ hb; have c1 := HC1.out _ hb) | (go_at_call 78; refine (l6Has_any _ _ _ _ _ hil (HI.out.to hb)).mono ?_; rintro e w' ⟨rfl, rfl⟩))
          go_roundw
          case rel => exact ⟨k + 1, by omega, by go_num, by rw [hs.out]; rfl, hb⟩
          case measure => simp [intOf]; omega
      · have hkl : Hid (pwOf (hasB ids) (l.take k) = pwOf (hasB ids) l) := by unfold Hid; rw [List.take_of_length_le (by omega)]
        have hkl' := hkl.out
        rw [hkl']
        clear hkl'
        go_wp2_with (first | (go_at_call 76; refine (sValsOk_any _ _ _ _ hl (HR.out.to hb)).mono ?_; rintro e wn ⟨rfl, hbn⟩; have hb := Below.next (w := w) (by repeat (first | with_reducible exact hb | with_reducible exact Below.refl _ _ | refine Below.drew ?_ | refine Below.setCell ?_ (by simp <;> omega) _ | refine Below.alloc ?_ (by simp <;> omega) _)) hbn; clear hbn) | (go_at_call 79; refine (sPowerOf_any _ _ _ _ hl (HR.out.to hb)).mono ?_; rintro e wn ⟨rfl, hbn⟩; have hb := Below.next (w := w) (by repeat (first | with_reducible exact hb | with_reducible exact Below.refl _ _ | refine Below.drew ?_ | refine Below.setCell ?_ (by simp <;> omega) _ | refine Below.alloc ?_ (by simp <;> omega) _)) hbn; clear hbn))
        go_ret
        exact ⟨ret_bool (by rw [HV.out, ← HP.out]), hb⟩
end Go.Proofs.YtecimgkgdpnaeaaDoor

/-
  VoteOk, both; toVote, szVote.
-/
namespace Go.Proofs.YtecimgkgdpnaeaaDoor
open Go.ChangeShapes Go.WideShapes Go.ChangeAt Go.RowKit
set_option linter.unusedVariables false
set_option maxRecDepth 100000

theorem sVoteOk_any (x : VoteT) (w : World) (hl : x.id.length ≤ 9223372036854775807) :
    Calls Tryd.prog 59 #[x.val] w fun e w' => e = .returned (.bool (voteOkB x)) ∧ Below w.heap.size w w' := by
  obtain ⟨h, r, s, id, v⟩ := x
  simp only [VoteT.val] at hl ⊢
  cases h1 : inB h 1 1000000
  · skip
    go_enter Tryd.func59, Tryd.ntmps59
    go_wp2_with (go_at_call 58; refine (l1In_b _ _ _ _).mono ?_; rintro e w' ⟨rfl, rfl⟩)
    go_ret
    exact ⟨ret_bool (by simp [voteOkB, isIdB, *]), (Below.refl _ _).alloc (Nat.le_refl _) _⟩
  · cases h2 : inB r 0 1000
    · skip
      go_enter Tryd.func59, Tryd.ntmps59
      go_wp2_with (go_at_call 58; refine (l1In_b _ _ _ _).mono ?_; rintro e w' ⟨rfl, rfl⟩)
      go_ret
      exact ⟨ret_bool (by simp [voteOkB, isIdB, *]), (Below.refl _ _).alloc (Nat.le_refl _) _⟩
    · cases h3 : inB s 1 2
      · skip
        go_enter Tryd.func59, Tryd.ntmps59
        go_wp2_with (go_at_call 58; refine (l1In_b _ _ _ _).mono ?_; rintro e w' ⟨rfl, rfl⟩)
        go_ret
        exact ⟨ret_bool (by simp [voteOkB, isIdB, *]), (Below.refl _ _).alloc (Nat.le_refl _) _⟩
      · cases id with
        | nil =>
          cases h5 : inB v 1 99 <;> skip
          all_goals skip
          · skip
            go_enter Tryd.func59, Tryd.ntmps59
            go_wp2_with (go_at_call 58; refine (l1In_b _ _ _ _).mono ?_; rintro e w' ⟨rfl, rfl⟩)
            go_ret
            exact ⟨ret_bool (by simp [voteOkB, isIdB, *]), (Below.refl _ _).alloc (Nat.le_refl _) _⟩
          · skip
            go_enter Tryd.func59, Tryd.ntmps59
            go_wp2_with (go_at_call 58; refine (l1In_b _ _ _ _).mono ?_; rintro e w' ⟨rfl, rfl⟩)
            go_ret
            exact ⟨ret_bool (by simp [voteOkB, isIdB, *]), (Below.refl _ _).alloc (Nat.le_refl _) _⟩
        | cons b t =>
          simp only [List.length_cons] at hl
          rcases Nat.lt_trichotomy t.length 7 with h8 | h8 | h8
          · skip
            go_enter Tryd.func59, Tryd.ntmps59
            go_wp2_with (go_at_call 58; refine (l1In_b _ _ _ _).mono ?_; rintro e w' ⟨rfl, rfl⟩)
            go_ret
            exact ⟨ret_bool (by simp [voteOkB, isIdB, Nat.ne_of_lt h8, *]), (Below.refl _ _).alloc (Nat.le_refl _) _⟩
          · have h8' : 7 ≤ t.length ∧ t.length ≤ 7 := by omega
            have H8 := Lib.hid h8
            clear h8
            obtain ⟨h8a, h8b⟩ := h8'
            cases h5 : inB v 1 99
            · skip
              go_enter Tryd.func59, Tryd.ntmps59
              go_wp2_with (go_at_call 58; refine (l1In_b _ _ _ _).mono ?_; rintro e w' ⟨rfl, rfl⟩)
              go_ret
              exact ⟨ret_bool (by simp [voteOkB, isIdB, H8.out, *]), (Below.refl _ _).alloc (Nat.le_refl _) _⟩
            · skip
              go_enter Tryd.func59, Tryd.ntmps59
              go_wp2_with (go_at_call 58; refine (l1In_b _ _ _ _).mono ?_; rintro e w' ⟨rfl, rfl⟩)
              go_ret
              exact ⟨ret_bool (by simp [voteOkB, isIdB, H8.out, *]), (Below.refl _ _).alloc (Nat.le_refl _) _⟩
          · skip
            go_enter Tryd.func59, Tryd.ntmps59
            go_wp2_with (go_at_call 58; refine (l1In_b _ _ _ _).mono ?_; rintro e w' ⟨rfl, rfl⟩)
            go_ret
            exact ⟨ret_bool (by simp [voteOkB, isIdB, Nat.ne_of_gt h8, *]), (Below.refl _ _).alloc (Nat.le_refl _) _⟩
theorem isHeight_b (x : Int) (w : World) :
    Calls Tryd.prog 54 #[.int .i64 x] w fun e w' => e = .returned (.bool (inB x 1 1000000)) ∧ w = w' := by
  go_enter Tryd.func54, Tryd.ntmps54
  go_wp2_with (go_at_call 55; refine (within_b _ _ _ _).mono ?_; rintro e w' ⟨rfl, rfl⟩)
  go_ret
  exact ⟨rfl, rfl⟩
theorem isVal_b (x : Int) (w : World) :
    Calls Tryd.prog 57 #[.int .i64 x] w fun e w' => e = .returned (.bool (inB x 1 99)) ∧ w = w' := by
  go_enter Tryd.func57, Tryd.ntmps57
  go_wp2_with (go_at_call 55; refine (within_b _ _ _ _).mono ?_; rintro e w' ⟨rfl, rfl⟩)
  go_ret
  exact ⟨rfl, rfl⟩
theorem isId_b (id : List UInt8) (w : World) (hl : id.length ≤ 9223372036854775807) :
    Calls Tryd.prog 56 #[.string (S id)] w fun e w' => e = .returned (.bool (isIdB id)) ∧ w = w' := by
  cases id with
  | nil =>
    go_enter Tryd.func56, Tryd.ntmps56
    go_wp2
    go_ret
    exact ⟨rfl, rfl⟩
  | cons b t =>
    simp only [List.length_cons] at hl
    rcases Nat.lt_trichotomy t.length 7 with h8 | h8 | h8
    · go_enter Tryd.func56, Tryd.ntmps56
      go_wp2
      go_ret
      exact ⟨ret_bool (by simp [isIdB]; rw [Bool.eq_iff_iff]; simp; omega), rfl⟩
    · have h8' : 7 ≤ t.length ∧ t.length ≤ 7 := by omega
      have H8 := Lib.hid h8
      clear h8
      obtain ⟨h8a, h8b⟩ := h8'
      go_enter Tryd.func56, Tryd.ntmps56
      go_wp2
      go_ret
      exact ⟨ret_bool (by simp [isIdB, H8.out]), rfl⟩
    · go_enter Tryd.func56, Tryd.ntmps56
      go_wp2
      go_ret
      exact ⟨ret_bool (by simp [isIdB]; rw [Bool.eq_iff_iff]; simp; omega), rfl⟩
end Go.Proofs.YtecimgkgdpnaeaaDoor

/-
  HeaderOk, both; isTime; toHeader, szHeader.
-/
namespace Go.Proofs.YtecimgkgdpnaeaaDoor
open Go.ChangeShapes Go.WideShapes Go.ChangeAt Go.RowKit
set_option linter.unusedVariables false
set_option maxRecDepth 100000

theorem isTime_b (x : Int) (w : World) :
    Calls Tryd.prog 87 #[.int .i64 x] w fun e w' => e = .returned (.bool (inB x 0 1000000)) ∧ w = w' := by
  go_enter Tryd.func87, Tryd.ntmps87
  go_wp2_with (go_at_call 55; refine (within_b _ _ _ _).mono ?_; rintro e w' ⟨rfl, rfl⟩)
  go_ret
  exact ⟨rfl, rfl⟩
theorem beq_nat (a : Nat) (k : Nat) : ((a : Int) == (k : Int)) = (a == k) := by rw [Bool.eq_iff_iff, beq_iff_eq, beq_iff_eq]; omega
theorem beq_nat8 (a : Nat) : ((a : Int) == 8) = (a == 8) := beq_nat a 8
theorem beq_nat0 (a : Nat) : ((a : Int) == 0) = (a == 0) := beq_nat a 0
theorem inB_one : inB 1 1 1000000 = true := rfl

theorem sHeaderOk_any (x : HeadT) (w : World) (h1 : x.last.length ≤ 9223372036854775807) (h2 : x.vals.length ≤ 9223372036854775807) (h3 : x.next.length ≤ 9223372036854775807) (h4 : x.data.length ≤ 9223372036854775807) :
    Calls Tryd.prog 18 #[x.val] w fun e w' => e = .returned (.bool (headOkB x)) ∧ Below w.heap.size w w' := by
  obtain ⟨h, t, last, vals, next, data⟩ := x
  simp only [HeadT.val] at h1 h2 h3 h4 ⊢
  have b3 := Lib.hid (beq_nat8 vals.length)
  have b4 := Lib.hid (beq_nat8 next.length)
  by_cases e1 : h = 1
  · subst e1
    have b5 := Lib.hid (beq_nat0 last.length)
    have hin := inB_one
    cases c2 : inB t 0 1000000
    · skip
      have HV : Hid (headOkB ⟨1, t, last, vals, next, data⟩ = false) := by
        unfold Hid headOkB
        simp only [if_true, inB_one, c2]
        first | rfl | simp | (simp; omega)
      go_enter Tryd.func18, Tryd.ntmps18
      go_wp2_with (go_at_call 58; refine (l1In_b _ _ _ _).mono ?_; rintro e w' ⟨rfl, rfl⟩)
      go_ret
      exact ⟨ret_bool (by rw [HV.out]; first | done | rfl | (simp; omega) | simp), (Below.refl _ _).alloc (Nat.le_refl _) _⟩
    · skip
      cases c3 : ((vals.length : Int) == 8)
      · skip
        have HV : Hid (headOkB ⟨1, t, last, vals, next, data⟩ = false) := by
          have c3' := c3
          rw [b3.out] at c3'
          unfold Hid headOkB
          simp only [if_true, inB_one, c2, c3']
          first | rfl | simp | (simp; omega)
        go_enter Tryd.func18, Tryd.ntmps18
        go_wp2_with (go_at_call 58; refine (l1In_b _ _ _ _).mono ?_; rintro e w' ⟨rfl, rfl⟩)
        go_ret
        exact ⟨ret_bool (by rw [HV.out]; first | done | rfl | (simp; omega) | simp), (Below.refl _ _).alloc (Nat.le_refl _) _⟩
      · skip
        cases c4 : ((next.length : Int) == 8)
        · skip
          have HV : Hid (headOkB ⟨1, t, last, vals, next, data⟩ = false) := by
            have c3' := c3
            rw [b3.out] at c3'
            have c4' := c4
            rw [b4.out] at c4'
            unfold Hid headOkB
            simp only [if_true, inB_one, c2, c3', c4']
            first | rfl | simp | (simp; omega)
          go_enter Tryd.func18, Tryd.ntmps18
          go_wp2_with (go_at_call 58; refine (l1In_b _ _ _ _).mono ?_; rintro e w' ⟨rfl, rfl⟩)
          go_ret
          exact ⟨ret_bool (by rw [HV.out]; first | done | rfl | (simp; omega) | simp), (Below.refl _ _).alloc (Nat.le_refl _) _⟩
        · skip
          cases c5 : ((last.length : Int) == 0)
          · skip
            have HV : Hid (headOkB ⟨1, t, last, vals, next, data⟩ = false) := by
              have c3' := c3
              rw [b3.out] at c3'
              have c4' := c4
              rw [b4.out] at c4'
              have c5' := c5
              rw [b5.out] at c5'
              unfold Hid headOkB
              simp only [if_true, inB_one, c2, c3', c4', c5']
              first | rfl | simp | (simp; omega)
            go_enter Tryd.func18, Tryd.ntmps18
            go_wp2_with (go_at_call 58; refine (l1In_b _ _ _ _).mono ?_; rintro e w' ⟨rfl, rfl⟩)
            go_ret
            exact ⟨ret_bool (by rw [HV.out]; first | done | rfl | (simp; omega) | simp), (Below.refl _ _).alloc (Nat.le_refl _) _⟩
          · skip
            by_cases c6 : data.length ≤ 20
            · skip
              have HV : Hid (headOkB ⟨1, t, last, vals, next, data⟩ = true) := by
                have c3' := c3
                rw [b3.out] at c3'
                have c4' := c4
                rw [b4.out] at c4'
                have c5' := c5
                rw [b5.out] at c5'
                unfold Hid headOkB
                simp only [if_true, inB_one, c2, c3', c4', c5', c6]
                first | rfl | simp | (simp; omega)
              go_enter Tryd.func18, Tryd.ntmps18
              go_wp2_with (go_at_call 58; refine (l1In_b _ _ _ _).mono ?_; rintro e w' ⟨rfl, rfl⟩)
              go_ret
              exact ⟨ret_bool (by rw [HV.out]; first | done | rfl | (simp; omega) | simp), (Below.refl _ _).alloc (Nat.le_refl _) _⟩
            · skip
              have HV : Hid (headOkB ⟨1, t, last, vals, next, data⟩ = false) := by
                have c3' := c3
                rw [b3.out] at c3'
                have c4' := c4
                rw [b4.out] at c4'
                have c5' := c5
                rw [b5.out] at c5'
                unfold Hid headOkB
                simp only [if_true, inB_one, c2, c3', c4', c5', c6]
                first | rfl | simp | (simp; omega)
              go_enter Tryd.func18, Tryd.ntmps18
              go_wp2_with (go_at_call 58; refine (l1In_b _ _ _ _).mono ?_; rintro e w' ⟨rfl, rfl⟩)
              go_ret
              exact ⟨ret_bool (by rw [HV.out]; first | done | rfl | (simp; omega) | simp), (Below.refl _ _).alloc (Nat.le_refl _) _⟩
  · have hne : (h == 1) = false := by simpa using e1
    have b5 := Lib.hid (beq_nat8 last.length)
    have HNE := Lib.hid e1
    clear e1
    cases c1 : inB h 1 1000000
    · skip
      have HV : Hid (headOkB ⟨h, t, last, vals, next, data⟩ = false) := by
        unfold Hid headOkB
        simp only [if_neg HNE.out, c1]
        first | rfl | simp | (simp; omega)
      go_enter Tryd.func18, Tryd.ntmps18
      go_wp2_with (go_at_call 58; refine (l1In_b _ _ _ _).mono ?_; rintro e w' ⟨rfl, rfl⟩)
      go_ret
      exact ⟨ret_bool (by rw [HV.out]; first | done | rfl | (simp; omega) | simp), (Below.refl _ _).alloc (Nat.le_refl _) _⟩
    · skip
      cases c2 : inB t 0 1000000
      · skip
        have HV : Hid (headOkB ⟨h, t, last, vals, next, data⟩ = false) := by
          unfold Hid headOkB
          simp only [if_neg HNE.out, c1, c2]
          first | rfl | simp | (simp; omega)
        go_enter Tryd.func18, Tryd.ntmps18
        go_wp2_with (go_at_call 58; refine (l1In_b _ _ _ _).mono ?_; rintro e w' ⟨rfl, rfl⟩)
        go_ret
        exact ⟨ret_bool (by rw [HV.out]; first | done | rfl | (simp; omega) | simp), (Below.refl _ _).alloc (Nat.le_refl _) _⟩
      · skip
        cases c3 : ((vals.length : Int) == 8)
        · skip
          have HV : Hid (headOkB ⟨h, t, last, vals, next, data⟩ = false) := by
            have c3' := c3
            rw [b3.out] at c3'
            unfold Hid headOkB
            simp only [if_neg HNE.out, c1, c2, c3']
            first | rfl | simp | (simp; omega)
          go_enter Tryd.func18, Tryd.ntmps18
          go_wp2_with (go_at_call 58; refine (l1In_b _ _ _ _).mono ?_; rintro e w' ⟨rfl, rfl⟩)
          go_ret
          exact ⟨ret_bool (by rw [HV.out]; first | done | rfl | (simp; omega) | simp), (Below.refl _ _).alloc (Nat.le_refl _) _⟩
        · skip
          cases c4 : ((next.length : Int) == 8)
          · skip
            have HV : Hid (headOkB ⟨h, t, last, vals, next, data⟩ = false) := by
              have c3' := c3
              rw [b3.out] at c3'
              have c4' := c4
              rw [b4.out] at c4'
              unfold Hid headOkB
              simp only [if_neg HNE.out, c1, c2, c3', c4']
              first | rfl | simp | (simp; omega)
            go_enter Tryd.func18, Tryd.ntmps18
            go_wp2_with (go_at_call 58; refine (l1In_b _ _ _ _).mono ?_; rintro e w' ⟨rfl, rfl⟩)
            go_ret
            exact ⟨ret_bool (by rw [HV.out]; first | done | rfl | (simp; omega) | simp), (Below.refl _ _).alloc (Nat.le_refl _) _⟩
          · skip
            cases c5 : ((last.length : Int) == 8)
            · skip
              have HV : Hid (headOkB ⟨h, t, last, vals, next, data⟩ = false) := by
                have c3' := c3
                rw [b3.out] at c3'
                have c4' := c4
                rw [b4.out] at c4'
                have c5' := c5
                rw [b5.out] at c5'
                unfold Hid headOkB
                simp only [if_neg HNE.out, c1, c2, c3', c4', c5']
                first | rfl | simp | (simp; omega)
              go_enter Tryd.func18, Tryd.ntmps18
              go_wp2_with (go_at_call 58; refine (l1In_b _ _ _ _).mono ?_; rintro e w' ⟨rfl, rfl⟩)
              go_ret
              exact ⟨ret_bool (by rw [HV.out]; first | done | rfl | (simp; omega) | simp), (Below.refl _ _).alloc (Nat.le_refl _) _⟩
            · skip
              by_cases c6 : data.length ≤ 20
              · skip
                have HV : Hid (headOkB ⟨h, t, last, vals, next, data⟩ = true) := by
                  have c3' := c3
                  rw [b3.out] at c3'
                  have c4' := c4
                  rw [b4.out] at c4'
                  have c5' := c5
                  rw [b5.out] at c5'
                  unfold Hid headOkB
                  simp only [if_neg HNE.out, c1, c2, c3', c4', c5', c6]
                  first | rfl | simp | (simp; omega)
                go_enter Tryd.func18, Tryd.ntmps18
                go_wp2_with (go_at_call 58; refine (l1In_b _ _ _ _).mono ?_; rintro e w' ⟨rfl, rfl⟩)
                go_ret
                exact ⟨ret_bool (by rw [HV.out]; first | done | rfl | (simp; omega) | simp), (Below.refl _ _).alloc (Nat.le_refl _) _⟩
              · skip
                have HV : Hid (headOkB ⟨h, t, last, vals, next, data⟩ = false) := by
                  have c3' := c3
                  rw [b3.out] at c3'
                  have c4' := c4
                  rw [b4.out] at c4'
                  have c5' := c5
                  rw [b5.out] at c5'
                  unfold Hid headOkB
                  simp only [if_neg HNE.out, c1, c2, c3', c4', c5', c6]
                  first | rfl | simp | (simp; omega)
                go_enter Tryd.func18, Tryd.ntmps18
                go_wp2_with (go_at_call 58; refine (l1In_b _ _ _ _).mono ?_; rintro e w' ⟨rfl, rfl⟩)
                go_ret
                exact ⟨ret_bool (by rw [HV.out]; first | done | rfl | (simp; omega) | simp), (Below.refl _ _).alloc (Nat.le_refl _) _⟩

theorem iHeaderOk_any (x : HeadT) (w : World) (h1 : x.last.length ≤ 9223372036854775807) (h2 : x.vals.length ≤ 9223372036854775807) (h3 : x.next.length ≤ 9223372036854775807) (h4 : x.data.length ≤ 9223372036854775807) :
    Calls Tryd.prog 45 #[x.val] w fun e w' => e = .returned (.bool (headOkB x)) ∧ Below w.heap.size w w' := by
  obtain ⟨h, t, last, vals, next, data⟩ := x
  simp only [HeadT.val] at h1 h2 h3 h4 ⊢
  have b3 := Lib.hid (beq_nat8 vals.length)
  have b4 := Lib.hid (beq_nat8 next.length)
  by_cases e1 : h = 1
  · subst e1
    have b5 := Lib.hid (beq_nat0 last.length)
    have hin := inB_one
    cases c2 : inB t 0 1000000
    · skip
      have HV : Hid (headOkB ⟨1, t, last, vals, next, data⟩ = false) := by
        unfold Hid headOkB
        simp only [if_true, inB_one, c2]
        first | rfl | simp | (simp; omega)
      go_enter Tryd.func45, Tryd.ntmps45
      go_wp2_with (first | (go_at_call 54; refine (isHeight_b _ _).mono ?_; rintro e w' ⟨rfl, rfl⟩) | (go_at_call 87; refine (isTime_b _ _).mono ?_; rintro e w' ⟨rfl, rfl⟩))
      go_ret
      exact ⟨ret_bool (by rw [HV.out]; first | done | rfl | (simp; omega) | simp), (Below.refl _ _).alloc (Nat.le_refl _) _⟩
    · skip
      cases c3 : ((vals.length : Int) == 8)
      · skip
        have HV : Hid (headOkB ⟨1, t, last, vals, next, data⟩ = false) := by
          have c3' := c3
          rw [b3.out] at c3'
          unfold Hid headOkB
          simp only [if_true, inB_one, c2, c3']
          first | rfl | simp | (simp; omega)
        go_enter Tryd.func45, Tryd.ntmps45
        go_wp2_with (first | (go_at_call 54; refine (isHeight_b _ _).mono ?_; rintro e w' ⟨rfl, rfl⟩) | (go_at_call 87; refine (isTime_b _ _).mono ?_; rintro e w' ⟨rfl, rfl⟩))
        go_ret
        exact ⟨ret_bool (by rw [HV.out]; first | done | rfl | (simp; omega) | simp), (Below.refl _ _).alloc (Nat.le_refl _) _⟩
      · skip
        cases c4 : ((next.length : Int) == 8)
        · skip
          have HV : Hid (headOkB ⟨1, t, last, vals, next, data⟩ = false) := by
            have c3' := c3
            rw [b3.out] at c3'
            have c4' := c4
            rw [b4.out] at c4'
            unfold Hid headOkB
            simp only [if_true, inB_one, c2, c3', c4']
            first | rfl | simp | (simp; omega)
          go_enter Tryd.func45, Tryd.ntmps45
          go_wp2_with (first | (go_at_call 54; refine (isHeight_b _ _).mono ?_; rintro e w' ⟨rfl, rfl⟩) | (go_at_call 87; refine (isTime_b _ _).mono ?_; rintro e w' ⟨rfl, rfl⟩))
          go_ret
          exact ⟨ret_bool (by rw [HV.out]; first | done | rfl | (simp; omega) | simp), (Below.refl _ _).alloc (Nat.le_refl _) _⟩
        · skip
          cases c5 : ((last.length : Int) == 0)
          · skip
            have HV : Hid (headOkB ⟨1, t, last, vals, next, data⟩ = false) := by
              have c3' := c3
              rw [b3.out] at c3'
              have c4' := c4
              rw [b4.out] at c4'
              have c5' := c5
              rw [b5.out] at c5'
              unfold Hid headOkB
              simp only [if_true, inB_one, c2, c3', c4', c5']
              first | rfl | simp | (simp; omega)
            go_enter Tryd.func45, Tryd.ntmps45
            go_wp2_with (first | (go_at_call 54; refine (isHeight_b _ _).mono ?_; rintro e w' ⟨rfl, rfl⟩) | (go_at_call 87; refine (isTime_b _ _).mono ?_; rintro e w' ⟨rfl, rfl⟩))
            go_ret
            exact ⟨ret_bool (by rw [HV.out]; first | done | rfl | (simp; omega) | simp), (Below.refl _ _).alloc (Nat.le_refl _) _⟩
          · skip
            by_cases c6 : data.length ≤ 20
            · skip
              have HV : Hid (headOkB ⟨1, t, last, vals, next, data⟩ = true) := by
                have c3' := c3
                rw [b3.out] at c3'
                have c4' := c4
                rw [b4.out] at c4'
                have c5' := c5
                rw [b5.out] at c5'
                unfold Hid headOkB
                simp only [if_true, inB_one, c2, c3', c4', c5', c6]
                first | rfl | simp | (simp; omega)
              go_enter Tryd.func45, Tryd.ntmps45
              go_wp2_with (first | (go_at_call 54; refine (isHeight_b _ _).mono ?_; rintro e w' ⟨rfl, rfl⟩) | (go_at_call 87; refine (isTime_b _ _).mono ?_; rintro e w' ⟨rfl, rfl⟩))
              go_ret
              exact ⟨ret_bool (by rw [HV.out]; first | done | rfl | (simp; omega) | simp), (Below.refl _ _).alloc (Nat.le_refl _) _⟩
            · skip
              have HV : Hid (headOkB ⟨1, t, last, vals, next, data⟩ = false) := by
                have c3' := c3
                rw [b3.out] at c3'
                have c4' := c4
                rw [b4.out] at c4'
                have c5' := c5
                rw [b5.out] at c5'
                unfold Hid headOkB
                simp only [if_true, inB_one, c2, c3', c4', c5', c6]
                first | rfl | simp | (simp; omega)
              go_enter Tryd.func45, Tryd.ntmps45
              go_wp2_with (first | (go_at_call 54; refine (isHeight_b _ _).mono ?_; rintro e w' ⟨rfl, rfl⟩) | (go_at_call 87; refine (isTime_b _ _).mono ?_; rintro e w' ⟨rfl, rfl⟩))
              go_ret
              exact ⟨ret_bool (by rw [HV.out]; first | done | rfl | (simp; omega) | simp), (Below.refl _ _).alloc (Nat.le_refl _) _⟩
  · have hne : (h == 1) = false := by simpa using e1
    have b5 := Lib.hid (beq_nat8 last.length)
    have HNE := Lib.hid e1
    clear e1
    cases c1 : inB h 1 1000000
    · skip
      have HV : Hid (headOkB ⟨h, t, last, vals, next, data⟩ = false) := by
        unfold Hid headOkB
        simp only [if_neg HNE.out, c1]
        first | rfl | simp | (simp; omega)
      go_enter Tryd.func45, Tryd.ntmps45
      go_wp2_with (first | (go_at_call 54; refine (isHeight_b _ _).mono ?_; rintro e w' ⟨rfl, rfl⟩) | (go_at_call 87; refine (isTime_b _ _).mono ?_; rintro e w' ⟨rfl, rfl⟩))
      go_ret
      exact ⟨ret_bool (by rw [HV.out]; first | done | rfl | (simp; omega) | simp), (Below.refl _ _).alloc (Nat.le_refl _) _⟩
    · skip
      cases c2 : inB t 0 1000000
      · skip
        have HV : Hid (headOkB ⟨h, t, last, vals, next, data⟩ = false) := by
          unfold Hid headOkB
          simp only [if_neg HNE.out, c1, c2]
          first | rfl | simp | (simp; omega)
        go_enter Tryd.func45, Tryd.ntmps45
        go_wp2_with (first | (go_at_call 54; refine (isHeight_b _ _).mono ?_; rintro e w' ⟨rfl, rfl⟩) | (go_at_call 87; refine (isTime_b _ _).mono ?_; rintro e w' ⟨rfl, rfl⟩))
        go_ret
        exact ⟨ret_bool (by rw [HV.out]; first | done | rfl | (simp; omega) | simp), (Below.refl _ _).alloc (Nat.le_refl _) _⟩
      · skip
        cases c3 : ((vals.length : Int) == 8)
        · skip
          have HV : Hid (headOkB ⟨h, t, last, vals, next, data⟩ = false) := by
            have c3' := c3
            rw [b3.out] at c3'
            unfold Hid headOkB
            simp only [if_neg HNE.out, c1, c2, c3']
            first | rfl | simp | (simp; omega)
          go_enter Tryd.func45, Tryd.ntmps45
          go_wp2_with (first | (go_at_call 54; refine (isHeight_b _ _).mono ?_; rintro e w' ⟨rfl, rfl⟩) | (go_at_call 87; refine (isTime_b _ _).mono ?_; rintro e w' ⟨rfl, rfl⟩))
          go_ret
          exact ⟨ret_bool (by rw [HV.out]; first | done | rfl | (simp; omega) | simp), (Below.refl _ _).alloc (Nat.le_refl _) _⟩
        · skip
          cases c4 : ((next.length : Int) == 8)
          · skip
            have HV : Hid (headOkB ⟨h, t, last, vals, next, data⟩ = false) := by
              have c3' := c3
              rw [b3.out] at c3'
              have c4' := c4
              rw [b4.out] at c4'
              unfold Hid headOkB
              simp only [if_neg HNE.out, c1, c2, c3', c4']
              first | rfl | simp | (simp; omega)
            go_enter Tryd.func45, Tryd.ntmps45
            go_wp2_with (first | (go_at_call 54; refine (isHeight_b _ _).mono ?_; rintro e w' ⟨rfl, rfl⟩) | (go_at_call 87; refine (isTime_b _ _).mono ?_; rintro e w' ⟨rfl, rfl⟩))
            go_ret
            exact ⟨ret_bool (by rw [HV.out]; first | done | rfl | (simp; omega) | simp), (Below.refl _ _).alloc (Nat.le_refl _) _⟩
          · skip
            cases c5 : ((last.length : Int) == 8)
            · skip
              have HV : Hid (headOkB ⟨h, t, last, vals, next, data⟩ = false) := by
                have c3' := c3
                rw [b3.out] at c3'
                have c4' := c4
                rw [b4.out] at c4'
                have c5' := c5
                rw [b5.out] at c5'
                unfold Hid headOkB
                simp only [if_neg HNE.out, c1, c2, c3', c4', c5']
                first | rfl | simp | (simp; omega)
              go_enter Tryd.func45, Tryd.ntmps45
              go_wp2_with (first | (go_at_call 54; refine (isHeight_b _ _).mono ?_; rintro e w' ⟨rfl, rfl⟩) | (go_at_call 87; refine (isTime_b _ _).mono ?_; rintro e w' ⟨rfl, rfl⟩))
              go_ret
              exact ⟨ret_bool (by rw [HV.out]; first | done | rfl | (simp; omega) | simp), (Below.refl _ _).alloc (Nat.le_refl _) _⟩
            · skip
              by_cases c6 : data.length ≤ 20
              · skip
                have HV : Hid (headOkB ⟨h, t, last, vals, next, data⟩ = true) := by
                  have c3' := c3
                  rw [b3.out] at c3'
                  have c4' := c4
                  rw [b4.out] at c4'
                  have c5' := c5
                  rw [b5.out] at c5'
                  unfold Hid headOkB
                  simp only [if_neg HNE.out, c1, c2, c3', c4', c5', c6]
                  first | rfl | simp | (simp; omega)
                go_enter Tryd.func45, Tryd.ntmps45
                go_wp2_with (first | (go_at_call 54; refine (isHeight_b _ _).mono ?_; rintro e w' ⟨rfl, rfl⟩) | (go_at_call 87; refine (isTime_b _ _).mono ?_; rintro e w' ⟨rfl, rfl⟩))
                go_ret
                exact ⟨ret_bool (by rw [HV.out]; first | done | rfl | (simp; omega) | simp), (Below.refl _ _).alloc (Nat.le_refl _) _⟩
              · skip
                have HV : Hid (headOkB ⟨h, t, last, vals, next, data⟩ = false) := by
                  have c3' := c3
                  rw [b3.out] at c3'
                  have c4' := c4
                  rw [b4.out] at c4'
                  have c5' := c5
                  rw [b5.out] at c5'
                  unfold Hid headOkB
                  simp only [if_neg HNE.out, c1, c2, c3', c4', c5', c6]
                  first | rfl | simp | (simp; omega)
                go_enter Tryd.func45, Tryd.ntmps45
                go_wp2_with (first | (go_at_call 54; refine (isHeight_b _ _).mono ?_; rintro e w' ⟨rfl, rfl⟩) | (go_at_call 87; refine (isTime_b _ _).mono ?_; rintro e w' ⟨rfl, rfl⟩))
                go_ret
                exact ⟨ret_bool (by rw [HV.out]; first | done | rfl | (simp; omega) | simp), (Below.refl _ _).alloc (Nat.le_refl _) _⟩
end Go.Proofs.YtecimgkgdpnaeaaDoor
