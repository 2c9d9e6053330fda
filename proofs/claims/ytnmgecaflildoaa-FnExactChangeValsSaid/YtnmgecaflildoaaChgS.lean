/-
  spec.l6Change, spec.ChangeVals.
-/
import Derived.Test.YtnmgecaflildoaaChg0
import Derived.Test.YtnmgecaflildoaaApV
import Derived.Test.YtnmgecaflildoaaVal1
import Derived.Test.YtnmgecaflildoaaBut0
import Derived.RegionTactic
import Derived.BigRegion
import Derived.Deep.QuietTactic
import Derived.Deep.Cut
import Derived.Deep.CutRange
namespace Go.Proofs.Ytnmgecaflildoaa
open Go.ChangeShapes Go.WideShapes Go.ChangeAt Go.RowKit
set_option linter.unusedVariables false
set_option linter.unusedSimpArgs false
set_option maxRecDepth 100000

theorem info_valC : (Try.prog.info? 34).map (fun i => (i.zero, i.size, i.bytes)) = some (some (.agg #[.int .i64 0, .int .i64 0]), 2, 16) := by kernel_rfl
theorem vreads_own {w : World} {base : Nat} {e : TypeId} {A : Option Addr} {n c : Nat} {l : List ValT} (hn : l.length = n) (h : w.ownsRow base e 2 (.slice A n c) n (vcells l)) : VReads w w.heap.size A l := by subst hn; exact VReads.of_own h
theorem own_noneV {w : World} {base : Nat} {e : TypeId} {size n cap : Nat} {A : Option Addr} {xs : List Value} (h : w.ownsRow base e size (.slice A n cap) n xs) : A = none → cap = 0 := by
  rintro rfl
  rcases h.2 with ⟨h1, h2⟩ | ⟨g', cap', cur, h1, _⟩
  · simp only [Value.slice.injEq] at h1; exact h1.2.2
  · simp at h1
theorem own_drewN {w : World} {base : Nat} {e : TypeId} {size n m : Nat} {v : Value} {xs : List Value} (h : w.ownsRow base e size v n xs) : (w.drewN m).ownsRow base e size v n xs := h
theorem chStep_C {xi xp vi vp : Int} {O : List ValT} {q : Bool} (h1 : ¬ xi ≤ vi) : chStep ⟨xi, xp⟩ (O, false, q) ⟨vi, vp⟩ = (O ++ [⟨vi, vp⟩], false, q) := by
  have h : ¬ vi = xi := by omega
  simp [chStep, h, h1]
theorem chRun_take_none {l : List ValT} : ∀ {cs : List ValT}, cs.foldl (fun o c => o.bind fun b => if (chS b c).2 then some (chS b c).1 else none) none = (none : Option (List ValT)) := by
  intro cs
  induction cs with
  | nil => rfl
  | cons c t ih => rw [List.foldl_cons]; exact ih
theorem chRun_take {l cs : List ValT} {k : Nat} (h : chRun l (cs.take k) = none) : chRun l cs = none := by
  conv => lhs; rw [← List.take_append_drop k cs]
  unfold chRun at h ⊢
  rw [List.foldl_append, h]
  exact chRun_take_none (l := l)
theorem changeS_none {l cs : List ValT} (hok : valsOkB l = true) {k : Nat} (hk : k ≤ cs.length) (h : chRun l (cs.take k) = none) : changeS l cs = (l, false) := by
  unfold changeS
  rw [hok, chRun_take h]
  rfl
theorem changeS_some {l cs b : List ValT} (hok : valsOkB l = true) (h : chRun l cs = some b) : changeS l cs = if valsOkB b then (b, true) else (l, false) := by
  unfold changeS
  rw [hok, h]
  rfl
theorem chRun_succ {l cs b : List ValT} {k : Nat} (hk : k < cs.length) (h : chRun l (cs.take k) = some b) : chRun l (cs.take (k + 1)) = if (chS b cs[k]).2 then some (chS b cs[k]).1 else none := by
  unfold chRun at h ⊢
  rw [List.take_succ_eq_append_getElem hk, List.foldl_append, h]
  rfl
theorem vcells_two (a b : ValT) : vcells [a, b] = [.int .i64 a.id, .int .i64 a.power, .int .i64 b.id, .int .i64 b.power] := rfl
theorem below_tr {k m : Nat} {a w w' : World} (h : Below k a w) (h2 : Below k (w.drewN m) w') : Below k a w' := (below_drewN h m).trans h2
theorem below_dN {k m : Nat} {a w : World} (h : Below k a w) : Below k a (w.drewN m) := below_drewN h m

set_option maxHeartbeats 4000000 in
theorem l6Change_any (l : List ValT) (A : Option Addr) (c : Nat) (xi xp : Int) (w : World) (hl : l.length ≤ 2000000) (hR : VReads w w.heap.size A l) :
    Calls Try.prog 12 #[.slice A l.length c, .agg #[.int .i64 xi, .int .i64 xp]] w fun e w' => ∃ (A' : Option Addr) (c' : Nat), e = .returned (.tuple #[.slice A' (chS l ⟨xi, xp⟩).1.length c', .bool (chS l ⟨xi, xp⟩).2]) ∧ w'.ownsRow w.heap.size 34 2 (.slice A' (chS l ⟨xi, xp⟩).1.length c') (chS l ⟨xi, xp⟩).1.length (vcells (chS l ⟨xi, xp⟩).1) ∧ Below w.heap.size w w' := by
  obtain ⟨i0, hi, hz0, hz1, hz2⟩ := info_parts info_valC
  have HR := Lib.hid hR
  have hbW := (Below.refl w.heap.size w).alloc (Nat.le_refl _) (.cells #[.int .i64 xi, .int .i64 xp] 34)
  have hzW : (w.alloc (.cells #[.int .i64 xi, .int .i64 xp] 34)).heap.size = w.heap.size + 1 := by simp
  have e0 : (w.alloc (.cells #[.int .i64 xi, .int .i64 xp] 34)).cell? ⟨w.heap.size, 0, none⟩ = some (.int .i64 xi) := by go_simp
  have e1 : (w.alloc (.cells #[.int .i64 xi, .int .i64 xp] 34)).cell? ⟨w.heap.size, 1, none⟩ = some (.int .i64 xp) := by go_simp
  clear hR
  go_enter Try.func12, Try.ntmps12
  go_wp2_with fail
  generalize w.alloc (.cells #[.int .i64 xi, .int .i64 xp] 34) = W0 at *
  have hJ := World.ownsRow_lit (e := 34) (size := 2) (base := w.heap.size + 1) W0 #[] 0 (by omega) (by simp [maxLen]) rfl
  have hb0 := (Below.refl (w.heap.size + 1) W0).alloc (by omega) (.cells #[] 34)
  have HFIN := Lib.hid (fun (k : Nat) (O : List ValT) (p q : Bool) (hk : k = l.length) (h : chAt l ⟨xi, xp⟩ k = (O, p, q)) => (by subst hk; unfold chS; rw [h] : chS l ⟨xi, xp⟩ = ((chFin ⟨xi, xp⟩ (O, p, q)).1, (chFin ⟨xi, xp⟩ (O, p, q)).2 || decide (xp ≠ 0))))
  have hW01 : w.heap.size < W0.heap.size := by omega
  go_loopw [6, 7, 8, 9] (fun out put was i wr => ∃ (k : Nat) (O : List ValT) (p q : Bool), k ≤ l.length ∧ i = .int .i64 (k : Int) ∧ put = .bool p ∧ was = .bool q ∧ Hid (chAt l ⟨xi, xp⟩ k = (O, p, q) ∧ wr.ownsRow (w.heap.size + 1) 34 2 out O.length (vcells O) ∧ Below (w.heap.size + 1) W0 wr)) (fun _ _ _ i _ => l.length - (intOf i).toNat)
  case atStart => exact ⟨0, [], decide (xp = 0), false, by omega, rfl, by first | rfl | (simp; done) | (congr 1; rw [Bool.eq_iff_iff]; simp), rfl, chAt_zero _ _, by first | exact hJ | (rw [← hzW]; exact hJ) | (rw [hzW] at hJ; exact hJ), hb0⟩
  case round =>
    obtain ⟨k, O, p, q, hk, rfl, rfl, rfl, HX⟩ := hrel
    obtain ⟨hch, ho, hbr⟩ := HX.out
    have hOl : O.length ≤ 2 * k := by have := chAt_len l ⟨xi, xp⟩ k hk; rw [hch] at this; exact this
    have hki : 0 ≤ (k : Int) ∧ (k : Int) ≤ l.length := by omega
    have hwr := hbr.size
    have hwr1 : w.heap.size + 1 ≤ wr.heap.size := by omega
    have hbw : Below w.heap.size w wr := hbW.trans (hbr.mono (by omega))
    have x0 := (hbr.cell (p := ⟨w.heap.size, 0, none⟩) (by show w.heap.size < w.heap.size + 1; omega)).trans e0
    have x1 := (hbr.cell (p := ⟨w.heap.size, 1, none⟩) (by show w.heap.size < w.heap.size + 1; omega)).trans e1
    obtain ⟨Ao, co, rfl⟩ := own_slice ho
    by_cases hlt : k < l.length
    · obtain ⟨b, off, rfl, hbB, hcl⟩ := ((HR.out.below hbw (Nat.le_refl _))) (by omega)
      obtain ⟨k0, k1⟩ := hcl k hlt
      clear hcl
      have hstep := chAt_succ l ⟨xi, xp⟩ k hlt
      rw [hch] at hstep
      generalize l[k] = v at *
      obtain ⟨vi, vp⟩ := v
      simp only at k0 k1
      have HST := Lib.hid hstep
      clear hstep hch HX hJ hb0
      have hlti : (k : Int) < l.length := by omega
      cases p
      · by_cases hge : xi ≤ vi
        · by_cases he : vi = xi
          · go_wp2_with fail
            go_quiet (fail)
            go_wp2_with (at_builtin; refine app_low rfl _ _ 24 rfl Try.underlying24 hi hz0 hz1 hz2 rfl (by decide) rfl (own_drewN ho) hwr1 rfl rfl rfl (one_cell_ii _ _) (by unfold maxLen; omega) (by omega) ?_; intro va wa oa la)
            have za : wr.heap.size ≤ wa.heap.size := la.size
            have hwa1 : w.heap.size + 1 ≤ wa.heap.size := by omega
            have x0 := (la.cell (p := ⟨w.heap.size, 0, none⟩) (by show w.heap.size < w.heap.size + 1; omega)).trans x0
            have x1 := (la.cell (p := ⟨w.heap.size, 1, none⟩) (by show w.heap.size < w.heap.size + 1; omega)).trans x1
            have k0 := (la.cell (p := ⟨b, off + k * 2, none⟩) (by show b < w.heap.size + 1; omega)).trans k0
            have k1 := (la.cell (p := ⟨b, off + k * 2 + 1, none⟩) (by show b < w.heap.size + 1; omega)).trans k1
            obtain ⟨Aa, ca, rfl⟩ := own_slice oa
            have ba : Below (w.heap.size + 1) W0 wa := by first | exact hbr.trans la | exact below_tr hbr la
            clear ho hbr hbw la
            skip
            skip
            go_quiet (fail)
            go_wp2
            go_roundw
            case rel => exact ⟨k + 1, O ++ [⟨xi, xp⟩], true, true, by omega, by go_num, rfl, rfl, by (first | exact HST.out.trans (chStep_C (by omega)) | exact HST.out | (rw [HST.out]; simp [chStep, *]; done) | (rw [HST.out]; simp [chStep]; omega)), by (first | exact oa | (simpa [vcells_append, vcells_one, vcells_two, Nat.add_assoc] using oa) | (refine own_drewN ?_; simpa [vcells_append, vcells_one, vcells_two, Nat.add_assoc] using oa)), by (first | exact ba | exact below_dN ba | exact below_dN (below_dN ba))⟩
            case measure => simp [intOf]; omega
          · go_wp2_with fail
            go_quiet (fail)
            go_wp2_with (at_builtin; refine app_low rfl _ _ 24 rfl Try.underlying24 hi hz0 hz1 hz2 rfl (by decide) rfl (own_drewN ho) hwr1 rfl rfl rfl (one_cell_ii _ _) (by unfold maxLen; omega) (by omega) ?_; intro va wa oa la)
            have za : wr.heap.size ≤ wa.heap.size := la.size
            have hwa1 : w.heap.size + 1 ≤ wa.heap.size := by omega
            have x0 := (la.cell (p := ⟨w.heap.size, 0, none⟩) (by show w.heap.size < w.heap.size + 1; omega)).trans x0
            have x1 := (la.cell (p := ⟨w.heap.size, 1, none⟩) (by show w.heap.size < w.heap.size + 1; omega)).trans x1
            have k0 := (la.cell (p := ⟨b, off + k * 2, none⟩) (by show b < w.heap.size + 1; omega)).trans k0
            have k1 := (la.cell (p := ⟨b, off + k * 2 + 1, none⟩) (by show b < w.heap.size + 1; omega)).trans k1
            obtain ⟨Aa, ca, rfl⟩ := own_slice oa
            have ba : Below (w.heap.size + 1) W0 wa := by first | exact hbr.trans la | exact below_tr hbr la
            clear ho hbr hbw la
            skip
            skip
            go_quiet (fail)
            go_wp2_with (at_builtin; refine app_low rfl _ _ 24 rfl Try.underlying24 hi hz0 hz1 hz2 rfl (by decide) rfl (own_drewN oa) hwa1 rfl rfl rfl (one_cell_ii _ _) (by unfold maxLen; omega) (by omega) ?_; intro vb wb ob lb)
            have bb : Below (w.heap.size + 1) W0 wb := by first | exact ba.trans lb | exact below_tr ba lb
            go_roundw
            case rel => exact ⟨k + 1, O ++ [⟨xi, xp⟩] ++ [⟨vi, vp⟩], true, q, by omega, by go_num, rfl, rfl, by (first | exact HST.out.trans (chStep_C (by omega)) | exact HST.out | (rw [HST.out]; simp [chStep, *]; done) | (rw [HST.out]; simp [chStep]; omega)), by (first | exact ob | (simpa [vcells_append, vcells_one, vcells_two, Nat.add_assoc] using ob) | (refine own_drewN ?_; simpa [vcells_append, vcells_one, vcells_two, Nat.add_assoc] using ob)), by (first | exact bb | exact below_dN bb | exact below_dN (below_dN bb))⟩
            case measure => simp [intOf]; omega
        · have he : ¬ vi = xi := by omega
          go_wp2_with fail
          go_quiet (fail)
          go_wp2_with fail
          go_quiet (fail)
          go_wp2_with (at_builtin; refine app_low rfl _ _ 24 rfl Try.underlying24 hi hz0 hz1 hz2 rfl (by decide) rfl (own_drewN ho) hwr1 rfl rfl rfl (one_cell_ii _ _) (by unfold maxLen; omega) (by omega) ?_; intro vb wb ob lb)
          have bb : Below (w.heap.size + 1) W0 wb := by first | exact hbr.trans lb | exact below_tr hbr lb
          go_roundw
          case rel => exact ⟨k + 1, O ++ [⟨vi, vp⟩], false, q, by omega, by go_num, rfl, rfl, by (first | exact HST.out.trans (chStep_C (by omega)) | exact HST.out | (rw [HST.out]; simp [chStep, *]; done) | (rw [HST.out]; simp [chStep]; omega)), by (first | exact ob | (simpa [vcells_append, vcells_one, vcells_two, Nat.add_assoc] using ob) | (refine own_drewN ?_; simpa [vcells_append, vcells_one, vcells_two, Nat.add_assoc] using ob)), by (first | exact bb | exact below_dN bb | exact below_dN (below_dN bb))⟩
          case measure => simp [intOf]; omega
      · by_cases he : vi = xi
        · go_wp2_with fail
          go_quiet (fail)
          go_wp2_with fail
          go_quiet (fail)
          go_wp2
          go_roundw
          case rel => exact ⟨k + 1, O, true, true, by omega, by go_num, rfl, rfl, by (first | exact HST.out.trans (chStep_C (by omega)) | exact HST.out | (rw [HST.out]; simp [chStep, *]; done) | (rw [HST.out]; simp [chStep]; omega)), by (first | exact ho | (simpa [vcells_append, vcells_one, vcells_two, Nat.add_assoc] using ho) | (refine own_drewN ?_; simpa [vcells_append, vcells_one, vcells_two, Nat.add_assoc] using ho)), by (first | exact hbr | exact below_dN hbr | exact below_dN (below_dN hbr))⟩
          case measure => simp [intOf]; omega
        · go_wp2_with fail
          go_quiet (fail)
          go_wp2_with fail
          go_quiet (fail)
          go_wp2_with (at_builtin; refine app_low rfl _ _ 24 rfl Try.underlying24 hi hz0 hz1 hz2 rfl (by decide) rfl (own_drewN ho) hwr1 rfl rfl rfl (one_cell_ii _ _) (by unfold maxLen; omega) (by omega) ?_; intro vb wb ob lb)
          have bb : Below (w.heap.size + 1) W0 wb := by first | exact hbr.trans lb | exact below_tr hbr lb
          go_roundw
          case rel => exact ⟨k + 1, O ++ [⟨vi, vp⟩], true, q, by omega, by go_num, rfl, rfl, by (first | exact HST.out.trans (chStep_C (by omega)) | exact HST.out | (rw [HST.out]; simp [chStep, *]; done) | (rw [HST.out]; simp [chStep]; omega)), by (first | exact ob | (simpa [vcells_append, vcells_one, vcells_two, Nat.add_assoc] using ob) | (refine own_drewN ?_; simpa [vcells_append, vcells_one, vcells_two, Nat.add_assoc] using ob)), by (first | exact bb | exact below_dN bb | exact below_dN (below_dN bb))⟩
          case measure => simp [intOf]; omega
    · have hkl : k = l.length := by omega
      have hfin := HFIN.out k O p q hkl hch
      have hnl : ¬ (k : Int) < l.length := by omega
      have hbo := Lib.hid hbw
      clear hbw HX hJ hb0 hch HFIN HR
      cases p
      · cases q
        · by_cases hz : xp = 0
          · have hRR : chS l ⟨xi, xp⟩ = (O ++ [(⟨xi, xp⟩ : ValT)], false) := by rw [hfin]; simp [chFin, hz]
            go_wp2_with (at_builtin; refine app_low rfl _ _ 24 rfl Try.underlying24 hi hz0 hz1 hz2 rfl (by decide) rfl ho hwr1 rfl rfl rfl (one_cell_ii _ _) (by unfold maxLen; omega) (by omega) ?_; intro va wa oa la)
            have za : wr.heap.size ≤ wa.heap.size := la.size
            have x0 := (la.cell (p := ⟨w.heap.size, 0, none⟩) (by show w.heap.size < w.heap.size + 1; omega)).trans x0
            have x1 := (la.cell (p := ⟨w.heap.size, 1, none⟩) (by show w.heap.size < w.heap.size + 1; omega)).trans x1
            obtain ⟨Aa, ca, rfl⟩ := own_slice oa
            have ba : Below (w.heap.size + 1) W0 wa := by first | exact hbr.trans la | exact below_tr hbr la
            clear ho hbr la
            have hbf : Below w.heap.size w _ := hbW.trans (ba.mono (by omega))
            go_quiet (fail)
            go_wp2_with fail
            refine bodyPost_ret (v := .tuple #[.slice Aa (O ++ [(⟨xi, xp⟩ : ValT)]).length ca, .bool false]) (by simp [results, Try.results12, go_sem, *]) rfl ⟨Aa, ca, ?_, ?_, ?_⟩
            · rw [hRR]
            · rw [hRR]; refine own_drewN (own_base (base := w.heap.size + 1) (base' := w.heap.size) ?_ (by omega)); simpa [vcells_append, vcells_one, hz] using oa
            · exact below_dN hbf
          · have hRR : chS l ⟨xi, xp⟩ = (O ++ [(⟨xi, xp⟩ : ValT)], true) := by rw [hfin]; simp [chFin, hz]
            go_wp2_with (at_builtin; refine app_low rfl _ _ 24 rfl Try.underlying24 hi hz0 hz1 hz2 rfl (by decide) rfl ho hwr1 rfl rfl rfl (one_cell_ii _ _) (by unfold maxLen; omega) (by omega) ?_; intro va wa oa la)
            have za : wr.heap.size ≤ wa.heap.size := la.size
            have x0 := (la.cell (p := ⟨w.heap.size, 0, none⟩) (by show w.heap.size < w.heap.size + 1; omega)).trans x0
            have x1 := (la.cell (p := ⟨w.heap.size, 1, none⟩) (by show w.heap.size < w.heap.size + 1; omega)).trans x1
            obtain ⟨Aa, ca, rfl⟩ := own_slice oa
            have ba : Below (w.heap.size + 1) W0 wa := by first | exact hbr.trans la | exact below_tr hbr la
            clear ho hbr la
            have hbf : Below w.heap.size w _ := hbW.trans (ba.mono (by omega))
            go_quiet (fail)
            go_wp2_with fail
            refine bodyPost_ret (v := .tuple #[.slice Aa (O ++ [(⟨xi, xp⟩ : ValT)]).length ca, .bool true]) (by simp [results, Try.results12, go_sem, *]) rfl ⟨Aa, ca, ?_, ?_, ?_⟩
            · rw [hRR]
            · rw [hRR]; refine own_drewN (own_base (base := w.heap.size + 1) (base' := w.heap.size) ?_ (by omega)); simpa [vcells_append, vcells_one] using oa
            · exact below_dN hbf
        · have hRR : chS l ⟨xi, xp⟩ = (O ++ [(⟨xi, xp⟩ : ValT)], true) := by rw [hfin]; simp [chFin]
          go_wp2_with (at_builtin; refine app_low rfl _ _ 24 rfl Try.underlying24 hi hz0 hz1 hz2 rfl (by decide) rfl ho hwr1 rfl rfl rfl (one_cell_ii _ _) (by unfold maxLen; omega) (by omega) ?_; intro va wa oa la)
          have za : wr.heap.size ≤ wa.heap.size := la.size
          have x0 := (la.cell (p := ⟨w.heap.size, 0, none⟩) (by show w.heap.size < w.heap.size + 1; omega)).trans x0
          have x1 := (la.cell (p := ⟨w.heap.size, 1, none⟩) (by show w.heap.size < w.heap.size + 1; omega)).trans x1
          obtain ⟨Aa, ca, rfl⟩ := own_slice oa
          have ba : Below (w.heap.size + 1) W0 wa := by first | exact hbr.trans la | exact below_tr hbr la
          clear ho hbr la
          have hbf : Below w.heap.size w _ := hbW.trans (ba.mono (by omega))
          go_quiet (fail)
          go_wp2_with fail
          refine bodyPost_ret (v := .tuple #[.slice Aa (O ++ [(⟨xi, xp⟩ : ValT)]).length ca, .bool true]) (by simp [results, Try.results12, go_sem, *]) rfl ⟨Aa, ca, ?_, ?_, ?_⟩
          · rw [hRR]
          · rw [hRR]; refine own_drewN (own_base (base := w.heap.size + 1) (base' := w.heap.size) ?_ (by omega)); simpa [vcells_append, vcells_one] using oa
          · exact below_dN hbf
      · cases q
        · by_cases hz : xp = 0
          · have hRR : chS l ⟨xi, xp⟩ = (O, false) := by rw [hfin]; simp [chFin, hz]
            go_wp2_with fail
            have hbf : Below w.heap.size w _ := hbW.trans (hbr.mono (by omega))
            go_quiet (fail)
            go_wp2_with fail
            refine bodyPost_ret (v := .tuple #[.slice Ao (O).length co, .bool false]) (by simp [results, Try.results12, go_sem, *]) rfl ⟨Ao, co, ?_, ?_, ?_⟩
            · rw [hRR]
            · rw [hRR]; refine own_drewN (own_base (base := w.heap.size + 1) (base' := w.heap.size) ?_ (by omega)); exact ho
            · exact below_dN hbf
          · have hRR : chS l ⟨xi, xp⟩ = (O, true) := by rw [hfin]; simp [chFin, hz]
            go_wp2_with fail
            have hbf : Below w.heap.size w _ := hbW.trans (hbr.mono (by omega))
            go_quiet (fail)
            go_wp2_with fail
            refine bodyPost_ret (v := .tuple #[.slice Ao (O).length co, .bool true]) (by simp [results, Try.results12, go_sem, *]) rfl ⟨Ao, co, ?_, ?_, ?_⟩
            · rw [hRR]
            · rw [hRR]; refine own_drewN (own_base (base := w.heap.size + 1) (base' := w.heap.size) ?_ (by omega)); exact ho
            · exact below_dN hbf
        · have hRR : chS l ⟨xi, xp⟩ = (O, true) := by rw [hfin]; simp [chFin]
          go_wp2_with fail
          have hbf : Below w.heap.size w _ := hbW.trans (hbr.mono (by omega))
          go_quiet (fail)
          go_wp2_with fail
          refine bodyPost_ret (v := .tuple #[.slice Ao (O).length co, .bool true]) (by simp [results, Try.results12, go_sem, *]) rfl ⟨Ao, co, ?_, ?_, ?_⟩
          · rw [hRR]
          · rw [hRR]; refine own_drewN (own_base (base := w.heap.size + 1) (base' := w.heap.size) ?_ (by omega)); exact ho
          · exact below_dN hbf

set_option maxHeartbeats 4000000 in
theorem sChangeVals_any (l cs : List ValT) (A B : Option Addr) (c d : Nat) (w : World) (hl : l.length ≤ 1048576) (hcl : cs.length ≤ 1048576) (hR : VReads w w.heap.size A l) (hA : A = none → c = 0) (hS : VReads w w.heap.size B cs) :
    Calls Try.prog 5 #[.slice A l.length c, .slice B cs.length d] w fun e w' => ∃ (A' : Option Addr) (c' : Nat), e = .returned (.tuple #[.slice A' (changeS l cs).1.length c', .bool (changeS l cs).2]) ∧ w'.ownsRow w.heap.size 34 2 (.slice A' (changeS l cs).1.length c') (changeS l cs).1.length (vcells (changeS l cs).1) ∧ Below w.heap.size w w' := by
  obtain ⟨i0, hi, hz0, hz1, hz2⟩ := info_parts info_valC
  have HR := Lib.hid hR
  have HS := Lib.hid hS
  have HV := Lib.hid fun (W : World) (A' : Option Addr) (c' : Nat) (L : List ValT) (hL : L.length ≤ 4194304) (q : VReads W W.heap.size A' L) => sValsOk_any A' c' L W hL q
  have HC := Lib.hid fun (W : World) (A' : Option Addr) (c' : Nat) (L : List ValT) (xi xp : Int) (hL : L.length ≤ 2000000) (q : VReads W W.heap.size A' L) => l6Change_any L A' c' xi xp W hL q
  clear hR hS
  have hJ := World.ownsRow_lit (e := 34) (size := 2) (base := w.heap.size) w #[] 0 (Nat.le_refl _) (by simp [maxLen]) rfl
  have hbJ := (Below.refl w.heap.size w).alloc (Nat.le_refl _) (.cells #[] 34)
  have HRJ := Lib.hid (HR.out.to hbJ)
  go_enter Try.func5, Try.ntmps5
  go_wp2_with (at_builtin; refine app_vals (n := 0) (xs := []) rfl _ _ 24 rfl Try.underlying24 hi hz0 hz1 hz2 rfl hJ (by simp) rfl HRJ.out hA (by omega) ?_; intro v1 wa oa la ga _; simp only [Nat.zero_add, List.nil_append] at oa; obtain ⟨Aa, ca, rfl⟩ := own_slice oa)
  have hba := Below.trans hbJ la
  clear hJ hbJ la ga
  go_wp2_with fail
  refine (HV.out _ _ _ _ (by omega) (HR.out.to hba)).mono ?_
  rintro e w1 ⟨rfl, b1⟩
  have hb1 := Below.next hba b1
  have o1 := own_below oa b1
  clear oa b1 hba
  cases hok : valsOkB l
  · have hRR : changeS l cs = (l, false) := by unfold changeS; rw [hok]; rfl
    go_wp2_with fail
    refine bodyPost_ret (v := .tuple #[.slice Aa l.length ca, .bool false]) (by simp [results, Try.results5, go_sem, *]) rfl ⟨Aa, ca, by rw [hRR], by rw [hRR]; exact o1, hb1⟩
  · have hl7 : l.length ≤ 7 := by have := valsOk_len hok; omega
    have HNO := Lib.hid (fun (k : Nat) (hk : k ≤ cs.length) (h : chRun l (cs.take k) = none) => changeS_none hok hk h)
    have HYES := Lib.hid (fun (b : List ValT) (h : chRun l cs = some b) => changeS_some hok h)
    have HJ := Lib.hid fun (W : World) (q : w.heap.size ≤ W.heap.size) => World.ownsRow_lit (e := 34) (size := 2) (base := w.heap.size) W #[] 0 q (by simp [maxLen]) rfl
    go_wp2_with fail
    go_loopw [7, 8] (fun out i wr => ∃ (k : Nat) (b : List ValT), k ≤ cs.length ∧ i = .int .i64 (k : Int) ∧ Hid (b.length ≤ 7 + k ∧ chRun l (cs.take k) = some b ∧ wr.ownsRow w.heap.size 34 2 out b.length (vcells b) ∧ Below w.heap.size w wr)) (fun _ i _ => cs.length - (intOf i).toNat)
    case atStart => exact ⟨0, l, by omega, rfl, by omega, rfl, o1, hb1⟩
    case round =>
      obtain ⟨k, b, hk, rfl, HX⟩ := hrel
      obtain ⟨hbl, hrun, ho, hbr⟩ := HX.out
      have hki : 0 ≤ (k : Int) ∧ (k : Int) ≤ cs.length := by omega
      obtain ⟨Ao, co, rfl⟩ := own_slice ho
      have zr := hbr.size
      by_cases hlt : k < cs.length
      · obtain ⟨bs, off, rfl, hbB, hcl⟩ := ((HS.out.below hbr (Nat.le_refl _))) (by omega)
        obtain ⟨k0, k1⟩ := hcl k hlt
        clear hcl o1 hb1
        have hlti : (k : Int) < cs.length := by omega
        have hnext := chRun_succ (l := l) hlt hrun
        have hcl2 := chS_len b cs[k]
        generalize cs[k] = x at *
        obtain ⟨xi, xp⟩ := x
        simp only at k0 k1
        have HN := Lib.hid hnext
        have HRB := Lib.hid hrun
        clear hnext hrun HX
        have hvr := Lib.hid (VReads.of_own ho)
        go_wp2_with fail
        refine (HC.out _ _ _ b xi xp (by omega) hvr.out).mono ?_
        rintro e w2 ⟨A2, c2, rfl, o2, b2⟩
        have hb2 := Below.next hbr b2
        have z2 := b2.size
        cases his : (chS b ⟨xi, xp⟩).2
        · rw [his] at HN
          have hRR := HNO.out (k + 1) (by omega) HN.out
          have hJ2 := HJ.out w2 (by omega)
          have hR2 := Lib.hid (HR.out.to (hb2.alloc (by omega) (.cells #[] 34)))
          have hB2 := hb2.alloc (by omega) (.cells #[] 34)
          clear ho hbr hvr o2
          go_wp2_with (at_builtin; refine app_vals rfl _ _ 24 rfl Try.underlying24 hi hz0 hz1 hz2 rfl hJ2 (by simp; omega) rfl hR2.out hA (by omega) ?_; intro v3 w3 o3 l3 _ _; simp only [Nat.zero_add, List.nil_append, Array.toList_empty] at o3; obtain ⟨A3, c3, rfl⟩ := own_slice o3)
          refine bodyPost_ret (v := .tuple #[.slice A3 l.length c3, .bool false]) (by simp [results, Try.results5, go_sem, *]) rfl ⟨A3, c3, by rw [hRR], by rw [hRR]; exact o3, hB2.trans l3⟩
        · rw [his] at HN
          have o2' := Lib.hid (own_base o2 (base' := w.heap.size) (by omega))
          have HN' := Lib.hid HN.out
          clear o2 ho hvr hbr
          go_wp2_with fail
          go_roundw
          case rel => exact ⟨k + 1, (chS b ⟨xi, xp⟩).1, by omega, by go_num, by omega, HN'.out, o2'.out, hb2⟩
          case measure => simp [intOf]; omega
      · have hkl : k = cs.length := by omega
        have hfull : chRun l cs = some b := by rw [hkl, List.take_length] at hrun; exact hrun
        have HF := Lib.hid (HYES.out b hfull)
        have hnl : ¬ (k : Int) < cs.length := by omega
        clear o1 hb1 HX hrun hfull
        have hvr := Lib.hid (VReads.of_own ho)
        go_wp2_with fail
        refine (HV.out _ _ _ b (by omega) hvr.out).mono ?_
        rintro e w2 ⟨rfl, b2⟩
        have hb2 := Below.next hbr b2
        have o2 := own_below ho b2
        have z2 := b2.size
        cases hov : valsOkB b
        · have hRR := HF.out
          rw [hov] at hRR
          have hJ2 := HJ.out w2 (by omega)
          have hR2 := Lib.hid (HR.out.to (hb2.alloc (by omega) (.cells #[] 34)))
          have hB2 := hb2.alloc (by omega) (.cells #[] 34)
          clear ho hbr hvr o2 b2
          go_wp2_with (at_builtin; refine app_vals rfl _ _ 24 rfl Try.underlying24 hi hz0 hz1 hz2 rfl hJ2 (by simp; omega) rfl hR2.out hA (by omega) ?_; intro v3 w3 o3 l3 _ _; simp only [Nat.zero_add, List.nil_append, Array.toList_empty] at o3; obtain ⟨A3, c3, rfl⟩ := own_slice o3)
          refine bodyPost_ret (v := .tuple #[.slice A3 l.length c3, .bool false]) (by simp [results, Try.results5, go_sem, *]) rfl ⟨A3, c3, by rw [hRR]; rfl, by rw [hRR]; exact o3, hB2.trans l3⟩
        · have hRR := HF.out
          rw [hov] at hRR
          go_wp2_with fail
          refine bodyPost_ret (v := .tuple #[.slice Ao b.length co, .bool true]) (by simp [results, Try.results5, go_sem, *]) rfl ⟨Ao, co, by rw [hRR]; rfl, by rw [hRR]; exact o2, hb2⟩
end Go.Proofs.Ytnmgecaflildoaa
