/-
  ReadVar, both.
-/
import Derived.Test.YtgabmlpbedbdlaaNum5
import Derived.Test.YtgabmlpbedbdlaaMath9
import Derived.RegionTactic
import Derived.BigRegion
import Derived.Deep.RegionWith
namespace Go.Proofs.Ytgabmlpbedbdlaa
open Go.ChangeShapes Go.WideShapes Go.ChangeAt Go.RowKit
set_option linter.unusedVariables false
set_option linter.unusedSimpArgs false
set_option maxRecDepth 100000

theorem iReadVar_any (l : List UInt8) (w : World) (hl : l.length ≤ 1048576) :
    Calls Try.prog 34 #[.string (S l)] w fun e w' => e = .returned (.tuple #[.int .i64 (readVarS l).1, .int .i64 (readVarS l).2]) ∧ Below w.heap.size w w' := by
  go_enter Try.func34, Try.ntmps34
  go_wp2
  go_loopw [4, 5] (fun n i wr => ∃ (k q : Nat), k ≤ l.length ∧ k ≤ 7 ∧ i = .int .i64 k ∧ n = .int .i64 q ∧ Hid (q = le7 (l.take k)) ∧ Hid (readVarS l = rvF (7 - k) l k) ∧ Below w.heap.size w wr) (fun _ i _ => 7 - (intOf i).toNat)
  case atStart => exact ⟨0, 0, by omega, by omega, rfl, rfl, rfl, rfl, Below.refl _ _⟩
  case round =>
    obtain ⟨k, q, hk, hk7, rfl, rfl, HQ, HR, hb⟩ := hrel
    by_cases hlt : k < l.length
    · by_cases h7 : k < 7
      · have hby := l[k].toNat_lt
        have han := and127u l[k].toNat hby
        have hsh := le7_shift l k q hlt h7 HQ.out
        have hpl := le7_take_lt l (k + 1) (by omega)
        by_cases hlow : l[k].toNat < 128
        · have HE : Hid (readVarS l = if varL (le7 (l.take (k + 1))) = l.take (k + 1) then (le7 (l.take (k + 1)), k + 1) else (0, 0)) := by
            unfold Hid; rw [HR.out, show 7 - k = (6 - k) + 1 from by omega]; exact rvF_end hlt hlow
          have hex := S_extract l (k + 1)
          have hVy := fun (W : World) => iVar_any (le7 (l.take (k + 1)) : Nat) W
          rw [varS_yes (by omega)] at hVy
          generalize le7 (l.take (k + 1)) = p at *
          generalize l.take (k + 1) = tk at *
          generalize varL p = V at *
          have hVy' := Lib.hid hVy
          clear hVy
          have e1 : IntKind.i64.wrap ((k : Int) + 1) = (k : Int) + 1 := by rw [IntKind.wrap_i64]; omega
          have e2 : ((k : Int) + 1).toNat = k + 1 := by omega
          have e3 : 0 ≤ (k : Int) + 1 := by omega
          have e4 : (k : Int) + 1 ≤ l.length := by omega
          by_cases hT : V = tk
          · subst hT
            rw [if_pos rfl] at HE
            go_wp2_with fail
            go_region_with (go_at_call 18; refine (hVy'.out _).mono ?_; rintro e wn ⟨rfl, hbn⟩; have hb := Below.next (w := w) (hb.drew) hbn)
            go_wp2
            go_ret2
            exact ⟨by rw [HE.out]; rfl, hb⟩
          · rw [if_neg hT] at HE
            have hne : (V == tk) = false := by simpa using hT
            clear hT
            go_wp2_with fail
            go_region_with (go_at_call 18; refine (hVy'.out _).mono ?_; rintro e wn ⟨rfl, hbn⟩; have hb := Below.next (w := w) (hb.drew) hbn)
            go_wp2
            go_ret2
            exact ⟨by rw [HE.out]; rfl, hb⟩
        · have HE : Hid (readVarS l = rvF (7 - (k + 1)) l (k + 1)) := by
            unfold Hid; rw [HR.out, show 7 - k = (6 - k) + 1 from by omega, rvF_more hlt hlow, show 7 - (k + 1) = 6 - k from by omega]
          go_wp2
          go_roundw
          case rel => exact ⟨k + 1, le7 (l.take (k + 1)), by omega, by omega, by go_num, rfl, rfl, HE, hb⟩
          case measure => simp [intOf]; omega
      · have HV : Hid (readVarS l = (0, 0)) := by unfold Hid; rw [HR.out]; exact rvF_none (by omega)
        go_wp2
        go_ret2
        exact ⟨by rw [HV.out]; rfl, hb⟩
    · have HV : Hid (readVarS l = (0, 0)) := by unfold Hid; rw [HR.out]; exact rvF_none (by omega)
      go_wp2
      go_ret2
      exact ⟨by rw [HV.out]; rfl, hb⟩

theorem sReadVar_any (l : List UInt8) (w : World) (hl : l.length ≤ 1048576) :
    Calls Try.prog 33 #[.string (S l)] w fun e w' => e = .returned (.tuple #[.int .i64 (readVarS l).1, .int .i64 (readVarS l).2]) ∧ Below w.heap.size w w' := by
  go_enter Try.func33, Try.ntmps33
  go_wp2
  go_loopw [4, 5, 6] (fun i n _ wr => ∃ (k : Nat), 1 ≤ k ∧ k ≤ 8 ∧ i = .int .i64 k ∧ Hid (RvAt l k) ∧ Below w.heap.size w wr) (fun i _ _ _ => 8 - (intOf i).toNat)
  case atStart => exact ⟨1, by omega, by omega, rfl, RvAt.start l, Below.refl _ _⟩
  case round =>
    obtain ⟨k, hk1, hk8, rfl, HR, hb⟩ := hrel
    by_cases h7 : k ≤ 7
    · by_cases hlt : k ≤ l.length
      · go_wp2
        go_loop [5, 6] (fun n i => ∃ j q : Nat, j ≤ k ∧ q < 562949953421312 ∧ i = .int .i64 ((j : Int) - 1) ∧ n = .int .i64 q ∧ Hid (q = le7 ((l.take k).drop j))) (fun _ i => (intOf i + 1).toNat)
        case atStart => exact ⟨k, 0, by omega, by omega, rfl, rfl, by unfold Hid; rw [List.drop_of_length_le (by simp; omega)]; rfl⟩
        case round =>
          obtain ⟨j, q, hj, hq, rfl, rfl, HQ⟩ := hrel
          by_cases hj0 : 1 ≤ j
          · obtain ⟨t, rfl⟩ : ∃ t, j = t + 1 := ⟨j - 1, by omega⟩
            rw [show (((t + 1 : Nat) : Int) - 1) = (t : Int) from by omega]
            have hby := l[t].toNat_lt
            have htl : t < l.length := by omega
            have hd := Lib.hid (le7_drop l k t (by omega) hlt)
            have hq2 : l[t].toNat % 128 + 128 * q < 562949953421312 := by rw [HQ.out, ← hd.out]; exact le7_drop_lt l k t h7
            go_wp2
            go_round
            case rel => exact ⟨t, l[t].toNat % 128 + 128 * q, by omega, hq2, by go_num, by go_num, by rw [Hid, hd.out, HQ.out]⟩
            case measure => simp [intOf]
          · obtain rfl : j = 0 := by omega
            rw [Hid, List.drop_zero] at HQ
            have HT0 := fun hT => HR.out.hit hk1 h7 hlt hT
            have HM0 := fun hT => HR.out.miss hk1 h7 hlt hT
            rw [← HQ] at HT0 HM0
            have hex := S_extract l k
            have hVy := fun (W : World) => sVar_any (q : Nat) W
            rw [varS_yes (by omega)] at hVy
            generalize l.take k = tk at *
            generalize varL q = V at *
            have hVy' := Lib.hid hVy
            have HT' := Lib.hid HT0
            have HM' := Lib.hid HM0
            clear hVy HT0 HM0 HQ
            have e2 : ((k : Int)).toNat = k := by omega
            have e3 : 0 ≤ (k : Int) := by omega
            have e4 : (k : Int) ≤ l.length := by omega
            by_cases hT : V = tk
            · have HV := Lib.hid (HT'.out hT)
              subst hT
              go_wp2_with fail
              go_region_with (go_at_call 17; refine (hVy'.out _).mono ?_; rintro e wn ⟨rfl, hbn⟩; have hb := Below.next (w := w) (hb.drew) hbn)
              go_wp2
              go_ret2
              exact ⟨by rw [HV.out]; rfl, hb⟩
            · have HM := Lib.hid (HM'.out hT)
              have hne : (V == tk) = false := by simpa using hT
              clear hT
              go_wp2_with fail
              go_region_with (go_at_call 17; refine (hVy'.out _).mono ?_; rintro e wn ⟨rfl, hbn⟩; have hb := Below.next (w := w) (hb.drew) hbn)
              go_wp2
              go_roundw
              case rel => exact ⟨k + 1, by omega, by omega, by go_num, HM.out, hb⟩
              case measure => simp [intOf]; omega
      · have HV : Hid (readVarS l = (0, 0)) := HR.out.fin (by omega)
        go_wp2
        go_ret2
        exact ⟨by rw [HV.out]; rfl, hb⟩
    · have HV : Hid (readVarS l = (0, 0)) := HR.out.fin (by omega)
      go_wp2
      go_ret2
      exact ⟨by rw [HV.out]; rfl, hb⟩
end Go.Proofs.Ytgabmlpbedbdlaa
