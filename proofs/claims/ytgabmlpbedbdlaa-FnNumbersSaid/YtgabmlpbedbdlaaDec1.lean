/-
  ReadDec, both.
-/
import Derived.Test.YtgabmlpbedbdlaaNum7
import Derived.Test.YtgabmlpbedbdlaaNum8
import Derived.Test.YtgabmlpbedbdlaaMath10
namespace Go.Proofs.Ytgabmlpbedbdlaa
open Go.ChangeShapes Go.WideShapes Go.ChangeAt Go.RowKit
set_option linter.unusedVariables false
set_option linter.unusedSimpArgs false
set_option maxRecDepth 100000

theorem ret_pair {k : IntKind} {a : Int} {b : Bool} {p : Int × Bool} (h : p = (a, b)) : Ending.returned (.tuple #[.int k a, .bool b]) = .returned (.tuple #[.int k p.1, .bool p.2]) := by rw [h]
theorem iReadDec_nil (w : World) :
    Calls Try.prog 36 #[.string (S [])] w fun e w' => e = .returned (.tuple #[.int .i64 (readDecS []).1, .bool (readDecS []).2]) ∧ Below w.heap.size w w' := by
  have HV : Hid (readDecS [] = (0, false)) := readDec_len (.inl rfl)
  go_enter Try.func36, Try.ntmps36
  go_wp2_with (go_at_call 42; refine (within_not _ _ _ _ (by simp)).mono ?_; rintro e w' ⟨rfl, rfl⟩)
  go_ret2
  exact ⟨ret_pair HV.out, Below.refl _ _⟩

set_option maxHeartbeats 1600000 in
theorem iReadDec_minus (l : List UInt8) (w : World) (hl : l.length ≤ 1048576) (h0 : 0 < l.length) (hd : l[0] = 45) :
    Calls Try.prog 36 #[.string (S l)] w fun e w' => e = .returned (.tuple #[.int .i64 (readDecS l).1, .bool (readDecS l).2]) ∧ Below w.heap.size w w' := by
  obtain ⟨hat, hneg⟩ := atD_yes h0 hd
  have h0' : (0 : Int) < l.length := by omega
  have hd0 : (((l[0].toNat : Int)) == 45) = true := by
    rw [hd]; rfl
  by_cases h9 : (l.length : Int) - 1 < 1 ∨ 9 < (l.length : Int) - 1
  · have HV := Lib.hid (readDec_lenAt hat h9)
    clear hd
    go_enter Try.func36, Try.ntmps36
    go_wp2_with (go_at_call 42; refine (within_not _ _ _ _ (by omega)).mono ?_; rintro e w' ⟨rfl, rfl⟩)
    go_ret2
    exact ⟨ret_pair HV.out, Below.refl _ _⟩
  · have HF := Lib.hid (readDec_finAt hat (by omega))
    have HAT := Lib.hid hat
    have HL9 : l.length - 1 ≤ 9 := by omega
    have hin : 1 ≤ (l.length : Int) - 1 ∧ (l.length : Int) - 1 ≤ 9 := by omega
    clear hd hat h9
    go_enter Try.func36, Try.ntmps36
    go_wp2_with (go_at_call 42; refine (within_yes _ _ _ _ (by omega) (by omega)).mono ?_; rintro e w' ⟨rfl, rfl⟩)
    go_loopw [5, 6] (fun n i wr => ∃ k : Nat, 1 ≤ k ∧ k ≤ l.length ∧ i = .int .i64 k ∧ n = .int .i64 (dvAt l 1 k) ∧ Below w.heap.size w wr) (fun _ i _ => l.length - (intOf i).toNat)
    case atStart => exact ⟨1, by omega, by omega, rfl, by rw [dvAt_start]; rfl, Below.refl _ _⟩
    case round =>
      obtain ⟨k, hk0, hk, rfl, rfl, hb⟩ := hrel
      by_cases hlt : k < l.length
      · have hki : 0 ≤ (k : Int) ∧ (k : Int) < l.length := by omega
        have hs := Lib.hid (dvAt_step l 1 k hk0 hlt)
        have hdl := dvAt_lt l 1 k hk HL9
        by_cases hdg : 48 ≤ l[k].toNat ∧ l[k].toNat ≤ 57
        · obtain ⟨g1, g2⟩ := hdg
          generalize dvAt l 1 k = q at *
          go_wp2
          go_roundw
          case rel => exact ⟨k + 1, by omega, by omega, by go_num, by rw [hs.out]; go_num, hb⟩
          case measure => simp [intOf]; omega
        · have HV := Lib.hid (readDec_badAt HAT.out hk0 hlt (by unfold isDig; simp; omega))
          by_cases g1 : 48 ≤ l[k].toNat
          · have g2 : 57 < l[k].toNat := by omega
            go_wp2
            go_ret2
            exact ⟨ret_pair HV.out, hb⟩
          · go_wp2
            go_ret2
            exact ⟨ret_pair HV.out, hb⟩
      · obtain rfl : k = l.length := by omega
        have hq := Lib.hid (dvAt_fin l 1)
        have hdl := dvAt_lt l 1 l.length hk HL9
        rw [hneg, ← hq.out] at HF
        generalize dvAt l 1 l.length = q at *
        have hD := fun W : World => iDec_any (-(q : Int)) W (by omega) (by omega)
        have hsg : sgnD true q = (-(q : Int)) := rfl
        rw [hsg] at HF
        generalize decS (-(q : Int)) = V at *
        have hD' := Lib.hid hD
        clear hD hsg hneg
        by_cases he : V = l
        · have HV : Hid (readDecS l = ((-(q : Int)), true)) := by unfold Hid; rw [HF.out, if_pos he]
          have hbe : (V == l) = true := by rw [he]; simp
          clear he
          go_wp2_with (go_at_call 30; refine (hD'.out _).mono ?_; rintro e wn ⟨rfl, hbn⟩; have hb := Below.next (w := w) (by repeat (first | with_reducible exact hb | with_reducible exact Below.refl _ _ | refine Below.drew ?_ | refine Below.setCell ?_ (by simp <;> omega) _ | refine Below.alloc ?_ (by simp <;> omega) _)) hbn; clear hbn)
          go_ret2
          exact ⟨ret_pair HV.out, hb⟩
        · have HV : Hid (readDecS l = (0, false)) := by unfold Hid; rw [HF.out, if_neg he]
          have hbe : (V == l) = false := by simpa using he
          clear he
          go_wp2_with (go_at_call 30; refine (hD'.out _).mono ?_; rintro e wn ⟨rfl, hbn⟩; have hb := Below.next (w := w) (by repeat (first | with_reducible exact hb | with_reducible exact Below.refl _ _ | refine Below.drew ?_ | refine Below.setCell ?_ (by simp <;> omega) _ | refine Below.alloc ?_ (by simp <;> omega) _)) hbn; clear hbn)
          go_ret2
          exact ⟨ret_pair HV.out, hb⟩

set_option maxHeartbeats 1600000 in
theorem iReadDec_plain (l : List UInt8) (w : World) (hl : l.length ≤ 1048576) (h0 : 0 < l.length) (hd : l[0] ≠ 45) :
    Calls Try.prog 36 #[.string (S l)] w fun e w' => e = .returned (.tuple #[.int .i64 (readDecS l).1, .bool (readDecS l).2]) ∧ Below w.heap.size w w' := by
  obtain ⟨hat, hneg⟩ := atD_no h0 hd
  have h0' : (0 : Int) < l.length := by omega
  have hd0 : (((l[0].toNat : Int)) == 45) = false := by
    rw [beq_eq_false_iff_ne]; intro e; exact hd (UInt8.toNat.inj (by simpa using (show l[0].toNat = 45 by omega)))
  by_cases h9 : (l.length : Int) - 0 < 1 ∨ 9 < (l.length : Int) - 0
  · have HV := Lib.hid (readDec_lenAt hat h9)
    clear hd
    go_enter Try.func36, Try.ntmps36
    go_wp2_with (go_at_call 42; refine (within_not _ _ _ _ (by omega)).mono ?_; rintro e w' ⟨rfl, rfl⟩)
    go_ret2
    exact ⟨ret_pair HV.out, Below.refl _ _⟩
  · have HF := Lib.hid (readDec_finAt hat (by omega))
    have HAT := Lib.hid hat
    have HL9 : l.length - 0 ≤ 9 := by omega
    have hin : 1 ≤ (l.length : Int) - 0 ∧ (l.length : Int) - 0 ≤ 9 := by omega
    clear hd hat h9
    go_enter Try.func36, Try.ntmps36
    go_wp2_with (go_at_call 42; refine (within_yes _ _ _ _ (by omega) (by omega)).mono ?_; rintro e w' ⟨rfl, rfl⟩)
    go_loopw [5, 6] (fun n i wr => ∃ k : Nat, 0 ≤ k ∧ k ≤ l.length ∧ i = .int .i64 k ∧ n = .int .i64 (dvAt l 0 k) ∧ Below w.heap.size w wr) (fun _ i _ => l.length - (intOf i).toNat)
    case atStart => exact ⟨0, by omega, by omega, rfl, by rw [dvAt_start]; rfl, Below.refl _ _⟩
    case round =>
      obtain ⟨k, hk0, hk, rfl, rfl, hb⟩ := hrel
      by_cases hlt : k < l.length
      · have hki : 0 ≤ (k : Int) ∧ (k : Int) < l.length := by omega
        have hs := Lib.hid (dvAt_step l 0 k hk0 hlt)
        have hdl := dvAt_lt l 0 k hk HL9
        by_cases hdg : 48 ≤ l[k].toNat ∧ l[k].toNat ≤ 57
        · obtain ⟨g1, g2⟩ := hdg
          generalize dvAt l 0 k = q at *
          go_wp2
          go_roundw
          case rel => exact ⟨k + 1, by omega, by omega, by go_num, by rw [hs.out]; go_num, hb⟩
          case measure => simp [intOf]; omega
        · have HV := Lib.hid (readDec_badAt HAT.out hk0 hlt (by unfold isDig; simp; omega))
          by_cases g1 : 48 ≤ l[k].toNat
          · have g2 : 57 < l[k].toNat := by omega
            go_wp2
            go_ret2
            exact ⟨ret_pair HV.out, hb⟩
          · go_wp2
            go_ret2
            exact ⟨ret_pair HV.out, hb⟩
      · obtain rfl : k = l.length := by omega
        have hq := Lib.hid (dvAt_fin l 0)
        have hdl := dvAt_lt l 0 l.length hk HL9
        rw [hneg, ← hq.out] at HF
        generalize dvAt l 0 l.length = q at *
        have hD := fun W : World => iDec_any (q : Int) W (by omega) (by omega)
        have hsg : sgnD false q = (q : Int) := rfl
        rw [hsg] at HF
        generalize decS (q : Int) = V at *
        have hD' := Lib.hid hD
        clear hD hsg hneg
        by_cases he : V = l
        · have HV : Hid (readDecS l = ((q : Int), true)) := by unfold Hid; rw [HF.out, if_pos he]
          have hbe : (V == l) = true := by rw [he]; simp
          clear he
          go_wp2_with (go_at_call 30; refine (hD'.out _).mono ?_; rintro e wn ⟨rfl, hbn⟩; have hb := Below.next (w := w) (by repeat (first | with_reducible exact hb | with_reducible exact Below.refl _ _ | refine Below.drew ?_ | refine Below.setCell ?_ (by simp <;> omega) _ | refine Below.alloc ?_ (by simp <;> omega) _)) hbn; clear hbn)
          go_ret2
          exact ⟨ret_pair HV.out, hb⟩
        · have HV : Hid (readDecS l = (0, false)) := by unfold Hid; rw [HF.out, if_neg he]
          have hbe : (V == l) = false := by simpa using he
          clear he
          go_wp2_with (go_at_call 30; refine (hD'.out _).mono ?_; rintro e wn ⟨rfl, hbn⟩; have hb := Below.next (w := w) (by repeat (first | with_reducible exact hb | with_reducible exact Below.refl _ _ | refine Below.drew ?_ | refine Below.setCell ?_ (by simp <;> omega) _ | refine Below.alloc ?_ (by simp <;> omega) _)) hbn; clear hbn)
          go_ret2
          exact ⟨ret_pair HV.out, hb⟩

theorem iReadDec_any (l : List UInt8) (w : World) (hl : l.length ≤ 1048576) :
    Calls Try.prog 36 #[.string (S l)] w fun e w' => e = .returned (.tuple #[.int .i64 (readDecS l).1, .bool (readDecS l).2]) ∧ Below w.heap.size w w' := by
  by_cases h0 : 0 < l.length
  · by_cases hd : l[0] = 45
    · exact iReadDec_minus l w hl h0 hd
    · exact iReadDec_plain l w hl h0 hd
  · obtain rfl : l = [] := List.eq_nil_of_length_eq_zero (by omega)
    exact iReadDec_nil w

set_option maxHeartbeats 3200000 in
theorem sReadDec_any (l : List UInt8) (w : World) (hl : l.length ≤ 1048576) :
    Calls Try.prog 35 #[.string (S l)] w fun e w' => e = .returned (.tuple #[.int .i64 (readDecS l).1, .bool (readDecS l).2]) ∧ Below w.heap.size w w' := by
  go_enter Try.func35, Try.ntmps35
  go_wp2
  go_loopw [4, 5, 6] (fun n c i wr => ∃ k : Nat, k ≤ l.length ∧ k ≤ 11 ∧ i = .int .i64 k ∧ n = .int .i64 (dval (digsD l k)) ∧ c = .int .i64 ((digsD l k).length) ∧ Below w.heap.size w wr) (fun _ _ i _ => 11 - (intOf i).toNat)
  case atStart => exact ⟨0, by omega, by omega, rfl, rfl, rfl, Below.refl _ _⟩
  case round =>
    obtain ⟨k, hk, hk11, rfl, rfl, rfl, hb⟩ := hrel
    have hlt10 := digsD_lt l k
    have hpw : 10 ^ k ≤ 10 ^ 11 := Nat.pow_le_pow_right (by omega) hk11
    have hdl := digsD_len l k
    by_cases hlt : k < l.length ∧ k < 11
    · obtain ⟨hlt, h11⟩ := hlt
      have hki : 0 ≤ (k : Int) ∧ (k : Int) < l.length := by omega
      have hn : dval (digsD l k) ≤ 100000000000 := by omega
      by_cases hdg : 48 ≤ l[k].toNat ∧ l[k].toNat ≤ 57
      · obtain ⟨g1, g2⟩ := hdg
        have hs : Hid (digsD l (k + 1) = digsD l k ++ [l[k]]) := digsD_yes hlt ((isDig_iff _).2 ⟨g1, g2⟩)
        have hs1 : Hid (dval (digsD l (k + 1)) = 10 * dval (digsD l k) + (l[k].toNat - 48)) := by unfold Hid; rw [hs.out, dval_snoc]
        have hs2 : Hid ((digsD l (k + 1)).length = (digsD l k).length + 1) := by unfold Hid; rw [hs.out]; simp
        clear hpw hlt10
        generalize dval (digsD l k) = q at *
        generalize (digsD l k).length = c at *
        go_wp2
        go_roundw
        case rel => exact ⟨k + 1, by omega, by omega, by go_num, by rw [hs1.out]; go_num, by rw [hs2.out]; go_num, hb⟩
        case measure => simp [intOf]; omega
      · have hs : Hid (digsD l (k + 1) = digsD l k) := digsD_no hlt (by unfold isDig; simp; omega)
        clear hpw hlt10
        by_cases g1 : 48 ≤ l[k].toNat
        · have g2 : 57 < l[k].toNat := by omega
          go_wp2
          go_roundw
          case rel => exact ⟨k + 1, by omega, by omega, by go_num, by rw [hs.out], by rw [hs.out], hb⟩
          case measure => simp [intOf]; omega
        · go_wp2
          go_roundw
          case rel => exact ⟨k + 1, by omega, by omega, by go_num, by rw [hs.out], by rw [hs.out], hb⟩
          case measure => simp [intOf]; omega
    · have HS := Lib.hid (readDec_spec l k (by omega))
      have hn : dval (digsD l k) ≤ 100000000000 := by omega
      have hex : (l.length : Int) ≤ k ∨ ((k : Int) < l.length ∧ (11 : Int) ≤ k) := by omega
      have hl0 : (digsD l k).length ≤ 11 := by omega
      clear hlt hpw hlt10
      by_cases h0 : 0 < l.length
      · have h0' : (0 : Int) < l.length := by omega
        by_cases hd : l[0] = 45
        · have hd0 : (((l[0].toNat : Int)) == 45) = true := by
            rw [hd]; rfl
          have hsp : specD l k = (-(dval (digsD l k) : Int)) := by unfold specD; rw [(atD_yes h0 hd).2]; rfl
          rw [Hid, hsp] at HS
          have HS' := Lib.hid HS
          clear HS hsp hd
          generalize dval (digsD l k) = q at *
          generalize (digsD l k).length = c at *
          by_cases hc : c ≤ 9
          · by_cases h10 : l.length ≤ 10
            · have hD := fun W : World => sDec_any (-(q : Int)) W (by omega) (by omega)
              generalize decS (-(q : Int)) = V at *
              have hD' := Lib.hid hD
              clear hD
              by_cases he : V = l
              · have HV : Hid (readDecS l = ((-(q : Int)), true)) := by unfold Hid; rw [HS'.out, if_pos ⟨hc, h10, he⟩]
                have hbe : (V == l) = true := by rw [he]; simp
                clear he
                rcases hex with hex | ⟨hex1, hex2⟩
                all_goals
                  go_wp2_with (go_at_call 29; refine (hD'.out _).mono ?_; rintro e wn ⟨rfl, hbn⟩; have hb := Below.next (w := w) (by repeat (first | with_reducible exact hb | with_reducible exact Below.refl _ _ | refine Below.drew ?_ | refine Below.setCell ?_ (by simp <;> omega) _ | refine Below.alloc ?_ (by simp <;> omega) _)) hbn; clear hbn)
                  try (go_ret2; exact ⟨ret_pair HV.out, hb⟩)
              · have HV : Hid (readDecS l = (0, false)) := by unfold Hid; rw [HS'.out, if_neg (fun h => he h.2.2)]
                have hbe : (V == l) = false := by simpa using he
                clear he
                rcases hex with hex | ⟨hex1, hex2⟩
                all_goals
                  go_wp2_with (go_at_call 29; refine (hD'.out _).mono ?_; rintro e wn ⟨rfl, hbn⟩; have hb := Below.next (w := w) (by repeat (first | with_reducible exact hb | with_reducible exact Below.refl _ _ | refine Below.drew ?_ | refine Below.setCell ?_ (by simp <;> omega) _ | refine Below.alloc ?_ (by simp <;> omega) _)) hbn; clear hbn)
                  try (go_ret2; exact ⟨ret_pair HV.out, hb⟩)
            · have HV : Hid (readDecS l = (0, false)) := by unfold Hid; rw [HS'.out, if_neg (fun h => h10 h.2.1)]
              rcases hex with hex | ⟨hex1, hex2⟩
              all_goals
                go_wp2
                try (go_ret2; exact ⟨ret_pair HV.out, hb⟩)
          · have HV : Hid (readDecS l = (0, false)) := by unfold Hid; rw [HS'.out, if_neg (fun h => hc h.1)]
            rcases hex with hex | ⟨hex1, hex2⟩
            all_goals
              go_wp2
              try (go_ret2; exact ⟨ret_pair HV.out, hb⟩)
        · have hd0 : (((l[0].toNat : Int)) == 45) = false := by
            rw [beq_eq_false_iff_ne]; intro e; exact hd (UInt8.toNat.inj (by simpa using (show l[0].toNat = 45 by omega)))
          have hsp : specD l k = (dval (digsD l k) : Int) := by unfold specD; rw [(atD_no h0 hd).2]; rfl
          rw [Hid, hsp] at HS
          have HS' := Lib.hid HS
          clear HS hsp hd
          generalize dval (digsD l k) = q at *
          generalize (digsD l k).length = c at *
          by_cases hc : c ≤ 9
          · by_cases h10 : l.length ≤ 10
            · have hD := fun W : World => sDec_any (q : Int) W (by omega) (by omega)
              generalize decS (q : Int) = V at *
              have hD' := Lib.hid hD
              clear hD
              by_cases he : V = l
              · have HV : Hid (readDecS l = ((q : Int), true)) := by unfold Hid; rw [HS'.out, if_pos ⟨hc, h10, he⟩]
                have hbe : (V == l) = true := by rw [he]; simp
                clear he
                rcases hex with hex | ⟨hex1, hex2⟩
                all_goals
                  go_wp2_with (go_at_call 29; refine (hD'.out _).mono ?_; rintro e wn ⟨rfl, hbn⟩; have hb := Below.next (w := w) (by repeat (first | with_reducible exact hb | with_reducible exact Below.refl _ _ | refine Below.drew ?_ | refine Below.setCell ?_ (by simp <;> omega) _ | refine Below.alloc ?_ (by simp <;> omega) _)) hbn; clear hbn)
                  try (go_ret2; exact ⟨ret_pair HV.out, hb⟩)
              · have HV : Hid (readDecS l = (0, false)) := by unfold Hid; rw [HS'.out, if_neg (fun h => he h.2.2)]
                have hbe : (V == l) = false := by simpa using he
                clear he
                rcases hex with hex | ⟨hex1, hex2⟩
                all_goals
                  go_wp2_with (go_at_call 29; refine (hD'.out _).mono ?_; rintro e wn ⟨rfl, hbn⟩; have hb := Below.next (w := w) (by repeat (first | with_reducible exact hb | with_reducible exact Below.refl _ _ | refine Below.drew ?_ | refine Below.setCell ?_ (by simp <;> omega) _ | refine Below.alloc ?_ (by simp <;> omega) _)) hbn; clear hbn)
                  try (go_ret2; exact ⟨ret_pair HV.out, hb⟩)
            · have HV : Hid (readDecS l = (0, false)) := by unfold Hid; rw [HS'.out, if_neg (fun h => h10 h.2.1)]
              rcases hex with hex | ⟨hex1, hex2⟩
              all_goals
                go_wp2
                try (go_ret2; exact ⟨ret_pair HV.out, hb⟩)
          · have HV : Hid (readDecS l = (0, false)) := by unfold Hid; rw [HS'.out, if_neg (fun h => hc h.1)]
            rcases hex with hex | ⟨hex1, hex2⟩
            all_goals
              go_wp2
              try (go_ret2; exact ⟨ret_pair HV.out, hb⟩)
      · have hsp : specD l k = (dval (digsD l k) : Int) := by unfold specD; rw [show negD l = false by rw [List.eq_nil_of_length_eq_zero (show l.length = 0 by omega)]; rfl]; rfl
        rw [Hid, hsp] at HS
        have HS' := Lib.hid HS
        clear HS hsp
        generalize dval (digsD l k) = q at *
        generalize (digsD l k).length = c at *
        by_cases hc : c ≤ 9
        · by_cases h10 : l.length ≤ 10
          · have hD := fun W : World => sDec_any (q : Int) W (by omega) (by omega)
            generalize decS (q : Int) = V at *
            have hD' := Lib.hid hD
            clear hD
            by_cases he : V = l
            · have HV : Hid (readDecS l = ((q : Int), true)) := by unfold Hid; rw [HS'.out, if_pos ⟨hc, h10, he⟩]
              have hbe : (V == l) = true := by rw [he]; simp
              clear he
              rcases hex with hex | ⟨hex1, hex2⟩
              all_goals
                go_wp2_with (go_at_call 29; refine (hD'.out _).mono ?_; rintro e wn ⟨rfl, hbn⟩; have hb := Below.next (w := w) (by repeat (first | with_reducible exact hb | with_reducible exact Below.refl _ _ | refine Below.drew ?_ | refine Below.setCell ?_ (by simp <;> omega) _ | refine Below.alloc ?_ (by simp <;> omega) _)) hbn; clear hbn)
                try (go_ret2; exact ⟨ret_pair HV.out, hb⟩)
            · have HV : Hid (readDecS l = (0, false)) := by unfold Hid; rw [HS'.out, if_neg (fun h => he h.2.2)]
              have hbe : (V == l) = false := by simpa using he
              clear he
              rcases hex with hex | ⟨hex1, hex2⟩
              all_goals
                go_wp2_with (go_at_call 29; refine (hD'.out _).mono ?_; rintro e wn ⟨rfl, hbn⟩; have hb := Below.next (w := w) (by repeat (first | with_reducible exact hb | with_reducible exact Below.refl _ _ | refine Below.drew ?_ | refine Below.setCell ?_ (by simp <;> omega) _ | refine Below.alloc ?_ (by simp <;> omega) _)) hbn; clear hbn)
                try (go_ret2; exact ⟨ret_pair HV.out, hb⟩)
          · have HV : Hid (readDecS l = (0, false)) := by unfold Hid; rw [HS'.out, if_neg (fun h => h10 h.2.1)]
            rcases hex with hex | ⟨hex1, hex2⟩
            all_goals
              go_wp2
              try (go_ret2; exact ⟨ret_pair HV.out, hb⟩)
        · have HV : Hid (readDecS l = (0, false)) := by unfold Hid; rw [HS'.out, if_neg (fun h => hc h.1)]
          rcases hex with hex | ⟨hex1, hex2⟩
          all_goals
            go_wp2
            try (go_ret2; exact ⟨ret_pair HV.out, hb⟩)
end Go.Proofs.Ytgabmlpbedbdlaa
