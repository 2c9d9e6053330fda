/-
  slices.Contains at ints; l6Has; PowerOf, Enough, both.
-/
import Derived.Test.YtgabmlpbedbdlaaVal1
import Derived.Test.YtgabmlpbedbdlaaPow0
import Derived.Test.YtgabmlpbedbdlaaInts0
namespace Go.Proofs.Ytgabmlpbedbdlaa
open Go.ChangeShapes Go.WideShapes Go.ChangeAt Go.RowKit
set_option linter.unusedVariables false
set_option linter.unusedSimpArgs false
set_option maxRecDepth 100000

/-- A place of x, or -1. -/
def SomeIdx (ids : List Int) (x : Int) (e : Ending) : Prop := ∃ r : Int, e = .returned (.int .i64 r) ∧ Hid (decide (0 ≤ r) = hasB ids x)
theorem has_no {ids : List Int} {x : Int} (h : ∀ j (hj : j < ids.length), ids[j] ≠ x) : hasB ids x = false := by
  unfold hasB
  rw [List.contains_eq_mem, decide_eq_false_iff_not]
  intro hm
  obtain ⟨j, hj, e⟩ := List.getElem_of_mem hm
  exact h j hj e
theorem has_yes {ids : List Int} {x : Int} {j : Nat} (hj : j < ids.length) (h : ids[j] = x) : hasB ids x = true := by
  unfold hasB
  rw [List.contains_eq_mem, decide_eq_true_eq, ← h]
  exact List.getElem_mem _

theorem index_any (A : Option Addr) (c : Nat) (ids : List Int) (x : Int) (w : World) (hl : ids.length ≤ 4194304) (hI : IReads w w.heap.size A ids) :
    Calls Try.prog 61 #[.slice A ids.length c, .int .i64 x] w fun e w' => SomeIdx ids x e ∧ w = w' := by
  go_enter Try.func61, Try.ntmps61
  go_wp2
  go_loop [5, 8] (fun _ i => ∃ k : Nat, k ≤ ids.length ∧ i = .int .i64 k ∧ Hid (∀ j (hj : j < ids.length), j < k → ids[j] ≠ x)) (fun _ i => ids.length - (intOf i).toNat)
  case atStart => exact ⟨0, by omega, rfl, fun j _ h => absurd h (by omega)⟩
  case round =>
    obtain ⟨k, hk, rfl, HN⟩ := hrel
    by_cases hlt : k < ids.length
    · obtain ⟨b, off, rfl, hbB, hc⟩ := hI (by omega)
      have c0 := hc k hlt
      have hki : 0 ≤ (k : Int) ∧ (k : Int) < ids.length := by omega
      by_cases he : ids[k] = x
      · have HY := Lib.hid (has_yes hlt he)
        have hte : (x == ids[k]) = true := by rw [he]; simp
        clear he hc
        go_wp2
        go_ret
        exact ⟨⟨k, rfl, by unfold Hid; rw [HY.out]; simp⟩, rfl⟩
      · have HN' : Hid (∀ j (hj : j < ids.length), j < k + 1 → ids[j] ≠ x) := fun j hj h => by
          rcases Nat.lt_or_ge j k with h' | h'
          · exact HN.out j hj h'
          · obtain rfl : j = k := by omega
            exact he
        have hte : (x == ids[k]) = false := by rw [beq_eq_false_iff_ne]; exact fun h => he h.symm
        clear he hc
        go_wp2
        go_round
        case rel => exact ⟨k + 1, by omega, by go_num, HN'⟩
        case measure => simp [intOf]; omega
    · have HF := Lib.hid (has_no (fun j hj => HN.out j hj (by omega)))
      go_wp2
      go_ret
      exact ⟨⟨-1, rfl, by unfold Hid; rw [HF.out]; rfl⟩, rfl⟩

theorem contains_any (A : Option Addr) (c : Nat) (ids : List Int) (x : Int) (w : World) (hl : ids.length ≤ 4194304) (hI : IReads w w.heap.size A ids) :
    Calls Try.prog 49 #[.slice A ids.length c, .int .i64 x] w fun e w' => e = .returned (.bool (hasB ids x)) ∧ w = w' := by
  go_enter Try.func49, Try.ntmps49
  go_wp2_with (go_at_call 61; refine (index_any _ _ _ _ _ hl hI).mono ?_; rintro e w' ⟨⟨r, rfl, hr⟩, rfl⟩)
  go_ret
  exact ⟨ret_bool hr.out, rfl⟩

theorem l6Has_any (A : Option Addr) (c : Nat) (ids : List Int) (x : Int) (w : World) (hl : ids.length ≤ 4194304) (hI : IReads w w.heap.size A ids) :
    Calls Try.prog 51 #[.slice A ids.length c, .int .i64 x] w fun e w' => e = .returned (.bool (hasB ids x)) ∧ w = w' := by
  go_enter Try.func51, Try.ntmps51
  go_wp2
  go_loop [5] (fun i => ∃ k : Nat, k ≤ ids.length ∧ i = .int .i64 k ∧ Hid (∀ j (hj : j < ids.length), j < k → ids[j] ≠ x)) (fun i => ids.length - (intOf i).toNat)
  case atStart => exact ⟨0, by omega, rfl, fun j _ h => absurd h (by omega)⟩
  case round =>
    obtain ⟨k, hk, rfl, HN⟩ := hrel
    by_cases hlt : k < ids.length
    · obtain ⟨b, off, rfl, hbB, hc⟩ := hI (by omega)
      have c0 := hc k hlt
      have hki : 0 ≤ (k : Int) ∧ (k : Int) < ids.length := by omega
      by_cases he : ids[k] = x
      · have HY := Lib.hid (has_yes hlt he)
        have hte : (ids[k] == x) = true := by rw [he]; simp
        clear he hc
        go_wp2
        go_ret
        exact ⟨ret_bool HY.out.symm, rfl⟩
      · have HN' : Hid (∀ j (hj : j < ids.length), j < k + 1 → ids[j] ≠ x) := fun j hj h => by
          rcases Nat.lt_or_ge j k with h' | h'
          · exact HN.out j hj h'
          · obtain rfl : j = k := by omega
            exact he
        have hte : (ids[k] == x) = false := by rw [beq_eq_false_iff_ne]; exact he
        clear he hc
        go_wp2
        go_round
        case rel => exact ⟨k + 1, by omega, by go_num, HN'⟩
        case measure => simp [intOf]; omega
    · have HF := Lib.hid (has_no (fun j hj => HN.out j hj (by omega)))
      go_wp2
      go_ret
      exact ⟨ret_bool HF.out.symm, rfl⟩

/-- What the loops over the power know at place k. -/
theorem pw_step (f : Int → Bool) (l : List ValT) (hok : valsOkB l = true) (k : Nat) (h : k < l.length) :
    0 ≤ pwOf f (l.take k) ∧ pwOf f (l.take k) ≤ 6000 ∧ 1 ≤ l[k].power ∧ l[k].power ≤ 1000 := by
  have h1 := pwOf_bound f l (valsOk_pos hok) k (by omega)
  have h2 := valsOk_len hok
  have h3 := valsOk_pos hok l[k] (List.getElem_mem _)
  omega

theorem powerOf_all (A : Option Addr) (c : Nat) (l : List ValT) (w : World) (hR : VReads w w.heap.size A l) (hok : valsOkB l = true) :
    Calls Try.prog 47 #[.slice A l.length c, .func (.func 52) #[] #[]] w fun e w' => e = .returned (.int .i64 (pwOf allIds l)) ∧ Below w.heap.size w w' := by
  have hlen := valsOk_len hok
  have HOK := Lib.hid hok
  clear hok
  go_enter Try.func47, Try.ntmps47
  go_wp2
  go_loopw [5, 10] (fun n i wr => ∃ k : Nat, k ≤ l.length ∧ i = .int .i64 k ∧ n = .int .i64 (pwOf allIds (l.take k)) ∧ Below w.heap.size w wr) (fun _ i _ => l.length - (intOf i).toNat)
  case atStart => exact ⟨0, by omega, rfl, rfl, Below.refl _ _⟩
  case round =>
    obtain ⟨k, hk, rfl, rfl, hb⟩ := hrel
    by_cases hlt : k < l.length
    · obtain ⟨b, off, rfl, hbB, hc⟩ := ((hR.below hb (Nat.le_refl _)).more hb.size) (by omega)
      obtain ⟨c0, c1⟩ := hc k hlt
      have hki : 0 ≤ (k : Int) ∧ (k : Int) < l.length := by omega
      obtain ⟨p0, p1, p2, p3⟩ := pw_step allIds l HOK.out k hlt
      have hs := Lib.hid (pwOf_take allIds l k hlt)
      generalize pwOf allIds (l.take k) = p at *
      go_wp2
      go_roundw
      case rel => exact ⟨k + 1, by omega, by go_num, by rw [hs.out]; rfl, hb.alloc hb.size _⟩
      case measure => simp [intOf]; omega
    · have hkl : Hid (k = l.length) := by unfold Hid; omega
      go_wp2
      go_ret
      exact ⟨ret_int (by rw [hkl.out, List.take_length]), hb⟩
theorem enough1_any (B : Nat) (Ai : Option Addr) (ci : Nat) (ids : List Int) (x : Int) (w : World) (hil : ids.length ≤ 4194304) (hBw : B < w.heap.size) (hcell : w.cell? ⟨B, 0, none⟩ = some (.slice Ai ids.length ci)) (hI : IReads w w.heap.size Ai ids) :
    Calls Try.prog 48 #[.int .i64 x, .pointer (some ⟨B, 0, none⟩)] w fun e w' => e = .returned (.bool (hasB ids x)) ∧ w = w' := by
  have HI := Lib.hid hI
  clear hI
  go_enter Try.func48, Try.ntmps48
  go_wp2_with (go_at_call 49; refine (contains_any _ _ _ _ _ hil HI.out).mono ?_; rintro e w' ⟨rfl, rfl⟩)
  go_ret
  exact ⟨rfl, rfl⟩

theorem powerOf_ids (A : Option Addr) (c : Nat) (l : List ValT) (w : World) (B : Nat) (Ai : Option Addr) (ci : Nat) (ids : List Int) (hil : ids.length ≤ 4194304) (hBw : B < w.heap.size) (hcell : w.cell? ⟨B, 0, none⟩ = some (.slice Ai ids.length ci)) (hI : IReads w w.heap.size Ai ids) (hR : VReads w w.heap.size A l) (hok : valsOkB l = true) :
    Calls Try.prog 47 #[.slice A l.length c, .func (.func 48) #[] #[.pointer (some ⟨B, 0, none⟩)]] w fun e w' => e = .returned (.int .i64 (pwOf (hasB ids) l)) ∧ Below w.heap.size w w' := by
  have hlen := valsOk_len hok
  have HOK := Lib.hid hok
  clear hok
  go_enter Try.func47, Try.ntmps47
  go_wp2
  go_loopw [5, 10] (fun n i wr => ∃ k : Nat, k ≤ l.length ∧ i = .int .i64 k ∧ n = .int .i64 (pwOf (hasB ids) (l.take k)) ∧ Below w.heap.size w wr) (fun _ i _ => l.length - (intOf i).toNat)
  case atStart => exact ⟨0, by omega, rfl, rfl, Below.refl _ _⟩
  case round =>
    obtain ⟨k, hk, rfl, rfl, hb⟩ := hrel
    by_cases hlt : k < l.length
    · obtain ⟨b, off, rfl, hbB, hc⟩ := ((hR.below hb (Nat.le_refl _)).more hb.size) (by omega)
      obtain ⟨c0, c1⟩ := hc k hlt
      have hki : 0 ≤ (k : Int) ∧ (k : Int) < l.length := by omega
      obtain ⟨p0, p1, p2, p3⟩ := pw_step (hasB ids) l HOK.out k hlt
      have hs := Lib.hid (pwOf_take (hasB ids) l k hlt)
      generalize pwOf (hasB ids) (l.take k) = p at *
      have hbz := hb.size
      have hcell' : wr.cell? ⟨B, 0, none⟩ = some (.slice Ai ids.length ci) := (hb.cell (p := ⟨B, 0, none⟩) hBw).trans hcell
      have hI' := Lib.hid ((hI.to hb).to (((Below.refl wr.heap.size wr).alloc (Nat.le_refl _) (.cells #[.int .i64 l[k].id, .int .i64 l[k].power] 42))))
      have hB2 : B < wr.heap.size := by omega
      have HC := Lib.hid ((World.cell?_alloc_lt wr (.cells #[.int .i64 l[k].id, .int .i64 l[k].power] 42) ⟨B, 0, none⟩ hB2).trans hcell')
      cases hh : hasB ids l[k].id
      all_goals
        rw [hh] at hs
        go_wp2_with (go_at_call 48; refine (enough1_any B Ai ci ids _ _ hil (by simp; omega) HC.out hI'.out).mono ?_; rintro e w' ⟨rfl, rfl⟩)
        go_roundw
        case rel => exact ⟨k + 1, by omega, by go_num, by rw [hs.out]; rfl, hb.alloc hb.size _⟩
        case measure => simp [intOf]; omega
    · have hkl : Hid (k = l.length) := by unfold Hid; omega
      go_wp2
      go_ret
      exact ⟨ret_int (by rw [hkl.out, List.take_length]), hb⟩
theorem iPowerOf_any (A : Option Addr) (c : Nat) (l : List ValT) (w : World) (hl : l.length ≤ 4194304) (hR : VReads w w.heap.size A l) :
    Calls Try.prog 26 #[.slice A l.length c] w fun e w' => e = .returned (.int .i64 (powerS l)) ∧ Below w.heap.size w w' := by
  have hb := Below.refl w.heap.size w
  have HR := Lib.hid hR
  clear hR
  cases hok : valsOkB l
  · have HV : Hid (powerS l = 0) := by unfold Hid powerS; rw [hok]; rfl
    go_enter Try.func26, Try.ntmps26
    go_wp2_with (go_at_call 46; refine (iValsOk_any _ _ _ _ hl HR.out).mono ?_; rintro e wn ⟨rfl, hbn⟩; have hb := Below.next (w := w) (by repeat (first | with_reducible exact hb | with_reducible exact Below.refl _ _ | refine Below.drew ?_ | refine Below.setCell ?_ (by simp <;> omega) _ | refine Below.alloc ?_ (by simp <;> omega) _)) hbn; clear hbn)
    go_ret
    exact ⟨ret_int HV.out.symm, hb⟩
  · have HV : Hid (powerS l = pwOf allIds l) := by unfold Hid powerS; rw [hok]; rfl
    have HOK := Lib.hid hok
    go_enter Try.func26, Try.ntmps26
    go_wp2_with (first | (go_at_call 46; refine (iValsOk_any _ _ _ _ hl HR.out).mono ?_; rintro e wn ⟨rfl, hbn⟩; have hb := Below.next (w := w) (by repeat (first | with_reducible exact hb | with_reducible exact Below.refl _ _ | refine Below.drew ?_ | refine Below.setCell ?_ (by simp <;> omega) _ | refine Below.alloc ?_ (by simp <;> omega) _)) hbn; clear hbn) | (go_at_call 47; refine (powerOf_all _ _ _ _ (HR.out.to hb) HOK.out).mono ?_; rintro e wn ⟨rfl, hbn⟩; have hb := Below.next (w := w) (by repeat (first | with_reducible exact hb | with_reducible exact Below.refl _ _ | refine Below.drew ?_ | refine Below.setCell ?_ (by simp <;> omega) _ | refine Below.alloc ?_ (by simp <;> omega) _)) hbn; clear hbn))
    go_ret
    exact ⟨ret_int HV.out.symm, hb⟩

theorem sPowerOf_any (A : Option Addr) (c : Nat) (l : List ValT) (w : World) (hl : l.length ≤ 4194304) (hR : VReads w w.heap.size A l) :
    Calls Try.prog 27 #[.slice A l.length c] w fun e w' => e = .returned (.int .i64 (powerS l)) ∧ Below w.heap.size w w' := by
  have HR := Lib.hid hR
  clear hR
  cases hok : valsOkB l
  · have HV : Hid (powerS l = 0) := by unfold Hid powerS; rw [hok]; rfl
    go_enter Try.func27, Try.ntmps27
    go_wp2
    go_loopw [3, 4] (fun n i wr => i = .int .i64 0 ∧ n = .int .i64 0 ∧ Below w.heap.size w wr) (fun _ _ _ => 0)
    case atStart => exact ⟨rfl, rfl, Below.refl _ _⟩
    case round =>
      obtain ⟨rfl, rfl, hb⟩ := hrel
      by_cases hl0 : (0 : Int) < l.length
      · go_wp2_with (go_at_call 50; refine (sValsOk_any _ _ _ _ hl (HR.out.to hb)).mono ?_; rintro e wn ⟨rfl, hbn⟩; have hb := Below.next (w := w) (by repeat (first | with_reducible exact hb | with_reducible exact Below.refl _ _ | refine Below.drew ?_ | refine Below.setCell ?_ (by simp <;> omega) _ | refine Below.alloc ?_ (by simp <;> omega) _)) hbn; clear hbn)
        go_ret
        exact ⟨ret_int HV.out.symm, hb⟩
      · go_wp2
        go_ret
        exact ⟨ret_int HV.out.symm, hb⟩
  · have HV : Hid (powerS l = pwOf allIds l) := by unfold Hid powerS; rw [hok]; rfl
    have HOK := Lib.hid hok
    have hlen := valsOk_len hok
    go_enter Try.func27, Try.ntmps27
    go_wp2
    go_loopw [3, 4] (fun n i wr => ∃ k : Nat, k ≤ l.length ∧ i = .int .i64 k ∧ n = .int .i64 (pwOf allIds (l.take k)) ∧ Below w.heap.size w wr) (fun _ i _ => l.length - (intOf i).toNat)
    case atStart => exact ⟨0, by omega, rfl, rfl, Below.refl _ _⟩
    case round =>
      obtain ⟨k, hk, rfl, rfl, hb⟩ := hrel
      by_cases hlt : k < l.length
      · obtain ⟨b, off, rfl, hbB, hc⟩ := HR.out (by omega)
        have HC : Hid (∀ W, Below w.heap.size w W → W.cell? ⟨b, off + k * 2 + 1, none⟩ = some (.int .i64 l[k].power)) := fun W hW => (hW.cell (p := ⟨b, _, none⟩) hbB).trans (hc k hlt).2
        clear hc
        have hki : 0 ≤ (k : Int) ∧ (k : Int) < l.length := by omega
        obtain ⟨p0, p1, p2, p3⟩ := pw_step allIds l HOK.out k hlt
        have hs := Lib.hid (pwOf_take allIds l k hlt)
        generalize pwOf allIds (l.take k) = p at *
        go_wp2_with ((go_at_call 50; refine (sValsOk_any _ _ _ _ hl (HR.out.to hb)).mono ?_; rintro e wn ⟨rfl, hbn⟩; have hb := Below.next (w := w) (by repeat (first | with_reducible exact hb | with_reducible exact Below.refl _ _ | refine Below.drew ?_ | refine Below.setCell ?_ (by simp <;> omega) _ | refine Below.alloc ?_ (by simp <;> omega) _)) hbn; clear hbn); have c1 := HC.out _ hb)
        go_roundw
        case rel => exact ⟨k + 1, by omega, by go_num, by rw [hs.out]; rfl, hb⟩
        case measure => simp [intOf]; omega
      · have hkl : Hid (k = l.length) := by unfold Hid; omega
        go_wp2
        go_ret
        exact ⟨ret_int (by rw [HV.out, hkl.out, List.take_length]), hb⟩

theorem iEnough_any (A : Option Addr) (c : Nat) (l : List ValT) (Ai : Option Addr) (ci : Nat) (ids : List Int) (w : World) (hl : l.length ≤ 4194304) (hil : ids.length ≤ 4194304) (hR : VReads w w.heap.size A l) (hI : IReads w w.heap.size Ai ids) :
    Calls Try.prog 24 #[.slice A l.length c, .slice Ai ids.length ci] w fun e w' => e = .returned (.bool (enoughB l ids)) ∧ Below w.heap.size w w' := by
  have HR := Lib.hid hR
  have HI := Lib.hid hI
  clear hR hI
  have hb := Below.refl w.heap.size w
  have hb0 := Lib.hid (hb.alloc (Nat.le_refl _) (.cells #[.slice Ai ids.length ci] 34))
  cases hok : valsOkB l
  · have HV : Hid (enoughB l ids = false) := by unfold Hid enoughB; rw [hok]; rfl
    go_enter Try.func24, Try.ntmps24
    go_wp2_with (go_at_call 46; refine (iValsOk_any _ _ _ _ hl (HR.out.to hb0.out)).mono ?_; rintro e wn ⟨rfl, hbn⟩; have hb := Below.next (w := w) (by repeat (first | with_reducible exact hb | with_reducible exact Below.refl _ _ | refine Below.drew ?_ | refine Below.setCell ?_ (by simp <;> omega) _ | refine Below.alloc ?_ (by simp <;> omega) _)) hbn; clear hbn)
    go_ret
    exact ⟨ret_bool HV.out.symm, hb⟩
  · have HV : Hid (enoughB l ids = decide (2 * pwOf allIds l < 3 * pwOf (hasB ids) l)) := by unfold Hid enoughB; rw [hok]; rfl
    have HOK := Lib.hid hok
    obtain ⟨p0, p1⟩ := valsOk_bound allIds hok
    obtain ⟨q0, q1⟩ := valsOk_bound (hasB ids) hok
    have HP : Hid (powerS l = pwOf allIds l) := by unfold Hid powerS; rw [hok]; rfl
    have hps : 0 ≤ powerS l ∧ powerS l ≤ 7000 := by rw [HP.out]; omega
    obtain ⟨r0, r1⟩ := hps
    go_enter Try.func24, Try.ntmps24
    go_wp2_with (first | (go_at_call 46; refine (iValsOk_any _ _ _ _ hl (HR.out.to hb0.out)).mono ?_; rintro e wn ⟨rfl, hbn⟩; have hb := Below.next (w := w) (by repeat (first | with_reducible exact hb | with_reducible exact Below.refl _ _ | refine Below.drew ?_ | refine Below.setCell ?_ (by simp <;> omega) _ | refine Below.alloc ?_ (by simp <;> omega) _)) hbn; obtain ⟨hc, hf⟩ := bcell hbn; have hz := hbn.size; (try simp at hz); (try have hz1 : w.heap.size < wn.heap.size := (by omega)); (try have hz2 : w.heap.size + 1 < wn.heap.size := (by omega)); (try have hz3 : w.heap.size + 1 + 1 < wn.heap.size := (by omega)); clear hbn) | (go_at_call 47; refine (powerOf_ids _ _ _ _ w.heap.size Ai ci ids hil (by omega) (by go_simp) (HI.out.to hb) (HR.out.to hb) HOK.out).mono ?_; rintro e wn ⟨rfl, hbn⟩; have hb := Below.next (w := w) (by repeat (first | with_reducible exact hb | with_reducible exact Below.refl _ _ | refine Below.drew ?_ | refine Below.setCell ?_ (by simp <;> omega) _ | refine Below.alloc ?_ (by simp <;> omega) _)) hbn; obtain ⟨hc, hf⟩ := bcell hbn; have hz := hbn.size; (try simp at hz); (try have hz1 : w.heap.size < wn.heap.size := (by omega)); (try have hz2 : w.heap.size + 1 < wn.heap.size := (by omega)); (try have hz3 : w.heap.size + 1 + 1 < wn.heap.size := (by omega)); clear hbn) | (go_at_call 26; refine (iPowerOf_any _ _ _ _ hl (HR.out.to hb)).mono ?_; rintro e wn ⟨rfl, hbn⟩; have hb := Below.next (w := w) (by repeat (first | with_reducible exact hb | with_reducible exact Below.refl _ _ | refine Below.drew ?_ | refine Below.setCell ?_ (by simp <;> omega) _ | refine Below.alloc ?_ (by simp <;> omega) _)) hbn; obtain ⟨hc, hf⟩ := bcell hbn; have hz := hbn.size; (try simp at hz); (try have hz1 : w.heap.size < wn.heap.size := (by omega)); (try have hz2 : w.heap.size + 1 < wn.heap.size := (by omega)); (try have hz3 : w.heap.size + 1 + 1 < wn.heap.size := (by omega)); clear hbn))
    go_ret
    exact ⟨ret_bool (by rw [HV.out, ← HP.out]), hb⟩

theorem sEnough_any (A : Option Addr) (c : Nat) (l : List ValT) (Ai : Option Addr) (ci : Nat) (ids : List Int) (w : World) (hl : l.length ≤ 4194304) (hil : ids.length ≤ 4194304) (hR : VReads w w.heap.size A l) (hI : IReads w w.heap.size Ai ids) :
    Calls Try.prog 25 #[.slice A l.length c, .slice Ai ids.length ci] w fun e w' => e = .returned (.bool (enoughB l ids)) ∧ Below w.heap.size w w' := by
  have HR := Lib.hid hR
  have HI := Lib.hid hI
  clear hR hI
  cases hok : valsOkB l
  · have HV : Hid (enoughB l ids = false) := by unfold Hid enoughB; rw [hok]; rfl
    go_enter Try.func25, Try.ntmps25
    go_wp2
    go_loopw [5, 6] (fun n i wr => i = .int .i64 0 ∧ n = .int .i64 0 ∧ Below w.heap.size w wr) (fun _ _ _ => 0)
    case atStart => exact ⟨rfl, rfl, Below.refl _ _⟩
    case round =>
      obtain ⟨rfl, rfl, hb⟩ := hrel
      by_cases hl0 : (0 : Int) < l.length
      · go_wp2_with (go_at_call 50; refine (sValsOk_any _ _ _ _ hl (HR.out.to hb)).mono ?_; rintro e wn ⟨rfl, hbn⟩; have hb := Below.next (w := w) (by repeat (first | with_reducible exact hb | with_reducible exact Below.refl _ _ | refine Below.drew ?_ | refine Below.setCell ?_ (by simp <;> omega) _ | refine Below.alloc ?_ (by simp <;> omega) _)) hbn; clear hbn)
        go_ret
        exact ⟨ret_bool HV.out.symm, hb⟩
      · go_wp2_with (go_at_call 50; refine (sValsOk_any _ _ _ _ hl (HR.out.to hb)).mono ?_; rintro e wn ⟨rfl, hbn⟩; have hb := Below.next (w := w) (by repeat (first | with_reducible exact hb | with_reducible exact Below.refl _ _ | refine Below.drew ?_ | refine Below.setCell ?_ (by simp <;> omega) _ | refine Below.alloc ?_ (by simp <;> omega) _)) hbn; clear hbn)
        go_ret
        exact ⟨ret_bool HV.out.symm, hb⟩
  · have HV : Hid (enoughB l ids = decide (2 * pwOf allIds l < 3 * pwOf (hasB ids) l)) := by unfold Hid enoughB; rw [hok]; rfl
    have HOK := Lib.hid hok
    have HP : Hid (powerS l = pwOf allIds l) := by unfold Hid powerS; rw [hok]; rfl
    obtain ⟨r0, r1⟩ : 0 ≤ powerS l ∧ powerS l ≤ 7000 := by have := valsOk_bound allIds hok; rw [HP.out]; omega
    obtain ⟨q0, q1⟩ := valsOk_bound (hasB ids) hok
    have hlen := valsOk_len hok
    go_enter Try.func25, Try.ntmps25
    go_wp2
    go_loopw [5, 6] (fun n i wr => ∃ k : Nat, k ≤ l.length ∧ i = .int .i64 k ∧ n = .int .i64 (pwOf (hasB ids) (l.take k)) ∧ Below w.heap.size w wr) (fun _ i _ => l.length - (intOf i).toNat)
    case atStart => exact ⟨0, by omega, rfl, rfl, Below.refl _ _⟩
    case round =>
      obtain ⟨k, hk, rfl, rfl, hb⟩ := hrel
      by_cases hlt : k < l.length
      · obtain ⟨b, off, rfl, hbB, hc⟩ := HR.out (by omega)
        have HC : Hid (∀ W, Below w.heap.size w W → W.cell? ⟨b, off + k * 2, none⟩ = some (.int .i64 l[k].id)) := fun W hW => (hW.cell (p := ⟨b, _, none⟩) hbB).trans (hc k hlt).1
        have HC1 : Hid (∀ W, Below w.heap.size w W → W.cell? ⟨b, off + k * 2 + 1, none⟩ = some (.int .i64 l[k].power)) := fun W hW => (hW.cell (p := ⟨b, _, none⟩) hbB).trans (hc k hlt).2
        clear hc
        have hki : 0 ≤ (k : Int) ∧ (k : Int) < l.length := by omega
        obtain ⟨p0, p1, p2, p3⟩ := pw_step (hasB ids) l HOK.out k hlt
        have hs := Lib.hid (pwOf_take (hasB ids) l k hlt)
        generalize pwOf (hasB ids) (l.take k) = p at *
        cases hh : hasB ids l[k].id
        all_goals
          rw [hh] at hs
          go_wp2_with (first | ((go_at_call 50; refine (sValsOk_any _ _ _ _ hl (HR.out.to hb)).mono ?_; rintro e wn ⟨rfl, hbn⟩; have hb := Below.next (w := w) (by repeat (first | with_reducible exact hb | with_reducible exact Below.refl _ _ | refine Below.drew ?_ | refine Below.setCell ?_ (by simp <;> omega) _ | refine Below.alloc ?_ (by simp <;> omega) _)) hbn; clear hbn); have c0 := HC.out _ hb; have c1 := HC1.out _ hb) | (go_at_call 51; refine (l6Has_any _ _ _ _ _ hil (HI.out.to hb)).mono ?_; rintro e w' ⟨rfl, rfl⟩))
          go_roundw
          case rel => exact ⟨k + 1, by omega, by go_num, by rw [hs.out]; rfl, hb⟩
          case measure => simp [intOf]; omega
      · have hkl : Hid (pwOf (hasB ids) (l.take k) = pwOf (hasB ids) l) := by unfold Hid; rw [List.take_of_length_le (by omega)]
        have hkl' := hkl.out
        rw [hkl']
        clear hkl'
        go_wp2_with (first | (go_at_call 50; refine (sValsOk_any _ _ _ _ hl (HR.out.to hb)).mono ?_; rintro e wn ⟨rfl, hbn⟩; have hb := Below.next (w := w) (by repeat (first | with_reducible exact hb | with_reducible exact Below.refl _ _ | refine Below.drew ?_ | refine Below.setCell ?_ (by simp <;> omega) _ | refine Below.alloc ?_ (by simp <;> omega) _)) hbn; clear hbn) | (go_at_call 27; refine (sPowerOf_any _ _ _ _ hl (HR.out.to hb)).mono ?_; rintro e wn ⟨rfl, hbn⟩; have hb := Below.next (w := w) (by repeat (first | with_reducible exact hb | with_reducible exact Below.refl _ _ | refine Below.drew ?_ | refine Below.setCell ?_ (by simp <;> omega) _ | refine Below.alloc ?_ (by simp <;> omega) _)) hbn; clear hbn))
        go_ret
        exact ⟨ret_bool (by rw [HV.out, ← HP.out]), hb⟩
end Go.Proofs.Ytgabmlpbedbdlaa
