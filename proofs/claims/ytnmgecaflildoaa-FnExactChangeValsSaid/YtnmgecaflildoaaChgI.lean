/-
  impl.ChangeVals.
-/
import Derived.Test.YtnmgecaflildoaaChgS
import Derived.Test.YtnmgecaflildoaaChgI1
import Derived.Test.YtnmgecaflildoaaChgD
namespace Go.Proofs.Ytnmgecaflildoaa
open Go.ChangeShapes Go.WideShapes Go.ChangeAt Go.RowKit
set_option linter.unusedVariables false
set_option linter.unusedSimpArgs false
set_option maxRecDepth 100000

theorem vset_pw' (x : Int) : ∀ (L : List ValT) (k : Nat) (h : k < L.length), (vcells L).set (k * 2 + 1) (.int .i64 x) = vcells (L.set k ⟨L[k].id, x⟩) := by
  intro L
  induction L with
  | nil => intro k h; simp at h
  | cons v L ih =>
    intro k h
    match k, h with
    | 0, _ => rfl
    | k + 1, h =>
      rw [vcells_cons, show (k + 1) * 2 + 1 = k * 2 + 1 + 1 + 1 from by omega]
      simp only [List.set_cons_succ, List.getElem_cons_succ]
      rw [vcells_cons, ih k (by simpa using h)]
theorem own_caps {w : World} {base g n cap size : Nat} {e : TypeId} {xs : List Value} (h : w.ownsRow base e size (.slice (some ⟨g, 0, none⟩) n cap) n xs) : n ≤ cap ∧ cap ≤ 9223372036854775807 ∧ base ≤ g ∧ g < w.heap.size := by
  have hl := h.lt g rfl
  rcases h.2 with ⟨h0, _⟩ | ⟨g', cap', cur, hv, _, _, h1, h2, _⟩
  · simp at h0
  · simp only [Value.slice.injEq, Option.some.injEq, Addr.mk.injEq, and_true, true_and] at hv
    obtain ⟨rfl, rfl⟩ := hv
    exact ⟨h1, by unfold maxLen at h2; omega, hl.1, hl.2⟩
theorem copyVals_any (l : List ValT) (A : Option Addr) (c : Nat) (w : World) (hl : l.length ≤ 1048576) (hR : VReads w w.heap.size A l) (hA : A = none → c = 0) :
    Calls Try.prog 15 #[.slice A l.length c] w fun e w' => ∃ (A' : Option Addr) (c' : Nat), e = .returned (.slice A' l.length c') ∧ w'.ownsRow w.heap.size 34 2 (.slice A' l.length c') l.length (vcells l) ∧ Below w.heap.size w w' := by
  obtain ⟨i0, hi, hz0, hz1, hz2⟩ := info_parts info_valC
  have hN := Lib.hid (World.ownsRow_nil w w.heap.size 34 2)
  have HR := Lib.hid hR
  clear hR
  go_enter Try.func15, Try.ntmps15
  go_wp2_with (at_builtin; refine app_vals (n := 0) (xs := []) rfl _ _ 24 rfl Try.underlying24 hi hz0 hz1 hz2 rfl hN.out (Nat.le_refl _) rfl HR.out hA (by omega) ?_; intro v1 wa oa la ga _; simp only [Nat.zero_add, List.nil_append] at oa; obtain ⟨Aa, ca, rfl⟩ := own_slice oa)
  go_ret
  exact ⟨Aa, ca, rfl, oa, la⟩

set_option maxHeartbeats 4000000 in
theorem iChangeVals_any (l cs : List ValT) (A B : Option Addr) (c d : Nat) (w : World) (hl : l.length ≤ 1048576) (hcl : cs.length ≤ 1048576) (hR : VReads w w.heap.size A l) (hA : A = none → c = 0) (hS : VReads w w.heap.size B cs) :
    Calls Try.prog 7 #[.slice A l.length c, .slice B cs.length d] w fun e w' => ∃ (A' : Option Addr) (c' : Nat), e = .returned (.tuple #[.slice A' (changeS l cs).1.length c', .bool (changeS l cs).2]) ∧ w'.ownsRow w.heap.size 34 2 (.slice A' (changeS l cs).1.length c') (changeS l cs).1.length (vcells (changeS l cs).1) ∧ Below w.heap.size w w' := by
  obtain ⟨i0, hi, hz0, hz1, hz2⟩ := info_parts info_valC
  have HR := Lib.hid hR
  have HS := Lib.hid hS
  have HV := Lib.hid fun (W : World) (A' : Option Addr) (c' : Nat) (L : List ValT) (hL : L.length ≤ 4194304) (q : VReads W W.heap.size A' L) => iValsOk_any A' c' L W hL q
  have HCP := Lib.hid fun (W : World) (q : Below w.heap.size w W) => copyVals_any l A c W hl (HR.out.to q) hA
  clear hS
  go_enter Try.func7, Try.ntmps7
  go_wp2_with fail
  refine (HV.out _ _ _ _ (by omega) hR).mono ?_
  rintro e w1 ⟨rfl, b1⟩
  clear hR
  cases hok : valsOkB l
  · have hRR : changeS l cs = (l, false) := by unfold changeS; rw [hok]; rfl
    go_wp2_with fail
    refine (HCP.out _ b1).mono ?_
    rintro e w2 ⟨A2, c2, rfl, o2, b2⟩
    have hb2 := Below.next b1 b2
    have o2 := own_base o2 (base' := w.heap.size) b1.size
    go_wp2_with fail
    refine bodyPost_ret (v := .tuple #[.slice A2 l.length c2, .bool false]) (by simp [results, Try.results7, go_sem, *]) rfl ⟨A2, c2, by rw [hRR], by rw [hRR]; exact o2, hb2⟩
  · have hl7 : 1 ≤ l.length ∧ l.length ≤ 7 := by have := valsOk_len hok; omega
    have hasc := asc_of_ok hok
    have HNO := Lib.hid (fun (k : Nat) (hk : k ≤ cs.length) (h : chRun l (cs.take k) = none) => changeS_none hok hk h)
    have HYES := Lib.hid (fun (b : List ValT) (h : chRun l cs = some b) => changeS_some hok h)
    go_wp2_with fail
    refine (HCP.out _ b1).mono ?_
    rintro e w2 ⟨A2, c2, rfl, o2, b2⟩
    have hb2 := Lib.hid (Below.next b1 b2)
    have o2 := own_base o2 (base' := w.heap.size) b1.size
    obtain ⟨g, cap, hv, hg0, hgl⟩ := o2.form (by omega)
    simp only [Value.slice.injEq, true_and] at hv
    obtain ⟨rfl, rfl⟩ := hv
    have HO2 := Lib.hid o2
    clear o2 b1 b2
    go_wp2_with fail
    go_loopw [6, 19] (fun out i wr => ∃ (k : Nat) (a b : List ValT) (g cap : Nat), k ≤ cs.length ∧ i = .int .i64 (k : Int) ∧ out = .slice (some ⟨g, 0, none⟩) a.length cap ∧ Hid (a.length ≤ 7 + k ∧ chRun l (cs.take k) = some b ∧ Rel a b ∧ wr.ownsRow w.heap.size 34 2 (.slice (some ⟨g, 0, none⟩) a.length cap) a.length (vcells a) ∧ Below w.heap.size w wr)) (fun _ i _ => cs.length - (intOf i).toNat)
    case atStart => exact ⟨0, l, l, g, _, by omega, rfl, rfl, by omega, rfl, ⟨hasc, List.Perm.refl _⟩, HO2.out, hb2.out⟩
    case round =>
      obtain ⟨k, a, b, g1, cap1, hk, rfl, rfl, HX⟩ := hrel
      obtain ⟨hal, hrun, hrel, ho, hbr⟩ := HX.out
      clear HO2 hb2 HX
      obtain ⟨hac, hcm, hgb, hgw⟩ := own_caps ho
      have hki : 0 ≤ (k : Int) ∧ (k : Int) ≤ cs.length := by omega
      have zr := hbr.size
      by_cases hlt : k < cs.length
      · obtain ⟨bs, off, rfl, hbB, hcl⟩ := ((HS.out.below hbr (Nat.le_refl _))) (by omega)
        obtain ⟨k0, k1⟩ := hcl k hlt
        clear hcl
        have hlti : (k : Int) < cs.length := by omega
        have hnext := chRun_succ (l := l) hlt hrun
        generalize cs[k] = x at *
        obtain ⟨xi, xp⟩ := x
        simp only at k0 k1
        have HN := Lib.hid hnext
        have HREL := Lib.hid hrel
        have hbW := hbr.alloc zr (.cells #[.int .i64 xi, .int .i64 xp] 34)
        have oW := ho.alloc (.cells #[.int .i64 xi, .int .i64 xp] 34)
        have hsW : (wr.alloc (.cells #[.int .i64 xi, .int .i64 xp] 34)).heap.size = wr.heap.size + 1 := by simp
        have f0 : (wr.alloc (.cells #[.int .i64 xi, .int .i64 xp] 34)).cell? ⟨wr.heap.size, 0, none⟩ = some (.int .i64 xi) := by go_simp
        have f1 : (wr.alloc (.cells #[.int .i64 xi, .int .i64 xp] 34)).cell? ⟨wr.heap.size, 1, none⟩ = some (.int .i64 xp) := by go_simp
        have HIX := Lib.hid (indexVals (B := wr.heap.size) (ci := xi) oW (by omega) (by omega) f0)
        have hat := at_or xi a
        clear hnext hrun hrel ho hbr
        go_wp2_with fail
        generalize wr.alloc (.cells #[.int .i64 xi, .int .i64 xp] 34) = Wc at *
        generalize hBc : wr.heap.size = Bc at *
        generalize atV xi a = at_ at *
        refine HIX.out.mono ?_
        rintro e w3 ⟨rfl, b3⟩
        have hb3 := Below.next hbW b3
        have o3 := own_below oW b3
        have hBW : Bc < Wc.heap.size := by omega
        have y0 := (b3.cell (p := ⟨Bc, 0, none⟩) hBW).trans f0
        have y1 := (b3.cell (p := ⟨Bc, 1, none⟩) hBW).trans f1
        have z3 := b3.size
        have hz3 := hb3.size
        clear b3 hbW oW f0 f1 k0 k1 HIX
        rcases hat with ⟨m, hm, hid, rfl⟩ | ⟨hno, rfl⟩
        · have hmi : 0 ≤ (m : Int) ∧ (m : Int) < a.length := by omega
          by_cases hxp : xp = 0
          · subst hxp
            have hrd := rel_del (c := ⟨xi, 0⟩) HREL.out rfl hm hid
            have HN2 := HN.out
            rw [hrd.1] at HN2
            have HN3 := Lib.hid HN2
            have HRD := Lib.hid hrd.2
            have hda : (a.take m ++ a.drop (m + 1)).length = a.length - 1 := by simp; omega
            have HDL := Lib.hid (delVals o3 hm rfl hcm hac)
            have hcast : ((m + 1 : Nat) : Int) = (m : Int) + 1 := by omega
            rw [hcast] at HDL
            clear hrd HN2 o3 HN HREL
            go_wp2_with fail
            refine HDL.out.mono ?_
            rintro e w4 ⟨rfl, o4, g4⟩
            have hb4 := hb3.trans ((Below.refl w.heap.size w3).grown g4 (by omega) (fun q hq => by cases hq; omega))
            go_wp2_with fail
            go_roundw
            case rel => exact ⟨k + 1, a.take m ++ a.drop (m + 1), _, g1, cap1, by omega, by go_num, by rw [hda], by (rw [hda]; omega), HN3.out, HRD.out, by rw [hda]; exact o4, hb4⟩
            case measure => simp [intOf]; omega
          · have hrs := rel_set (c := ⟨xi, xp⟩) HREL.out hxp hm hid
            have HN2 := HN.out
            rw [hrs.1] at HN2
            have HN3 := Lib.hid HN2
            have HRD := Lib.hid hrs.2
            have o4 := (o3.stored (m * 2 + 1) (.int .i64 xp)).1
            rw [vset_pw' xp a m hm] at o4
            have HO4 := Lib.hid o4
            have c4 := (o3.cellAt (m * 2 + 1) (by omega)).trans (vcells_at a m hm).2
            have fz4 := o3.frozenAt (m * 2 + 1)
            have hb4 := Lib.hid (hb3.setCell (show w.heap.size ≤ (⟨g1, m * 2 + 1, none⟩ : Addr).block from hgb) (.int .i64 xp))
            have hla : (a.set m ⟨a[m].id, xp⟩).length = a.length := by simp
            clear hrs HN2 o3 HN HREL o4
            generalize a.set m ⟨a[m].id, xp⟩ = a2 at *
            generalize a[m].power = ap at *
            go_wp2_with fail
            go_roundw
            case rel => exact ⟨k + 1, a2, _, g1, cap1, by omega, by go_num, by rw [hla], by omega, HN3.out, HRD.out, by rw [hla]; exact HO4.out, hb4.out⟩
            case measure => simp [intOf]; omega
        · by_cases hxp : xp = 0
          · subst hxp
            have hrn := rel_no (c := ⟨xi, 0⟩) HREL.out rfl hno
            have HN2 := HN.out
            rw [hrn] at HN2
            have hRR := HNO.out (k + 1) (by omega) HN2
            clear hrn HN2 HN HREL o3
            go_wp2_with fail
            refine (HCP.out _ hb3).mono ?_
            rintro e w4 ⟨A4, c4, rfl, o4, b4⟩
            have hb4 := Below.next hb3 b4
            have o4 := own_base o4 (base' := w.heap.size) hz3
            go_wp2_with fail
            refine bodyPost_ret (v := .tuple #[.slice A4 l.length c4, .bool false]) (by simp [results, Try.results7, go_sem, *]) rfl ⟨A4, c4, by rw [hRR], by rw [hRR]; exact o4, hb4⟩
          · have hra := rel_add (c := ⟨xi, xp⟩) HREL.out hxp hno
            have HN2 := HN.out
            rw [hra.1] at HN2
            have HN3 := Lib.hid HN2
            have HRD := Lib.hid hra.2
            have HO3 := Lib.hid o3
            have HB3 := Lib.hid hb3
            clear hra HN2 HN HREL o3 hb3
            go_wp2_with (at_builtin; refine app_low rfl _ _ 24 rfl Try.underlying24 hi hz0 hz1 hz2 rfl (by decide) rfl HO3.out hz3 rfl rfl rfl (one_cell_ii _ _) (by unfold maxLen; omega) (by omega) ?_; intro v4 w4 o4 l4)
            have hb4 := HB3.out.trans l4
            obtain ⟨g4, cap4, rfl, _, _⟩ := o4.form (by omega)
            have hla : (a ++ [(⟨xi, xp⟩ : ValT)]).length = a.length + 1 := by simp
            go_roundw
            case rel => exact ⟨k + 1, a ++ [⟨xi, xp⟩], _, g4, cap4, by omega, by go_num, by rw [hla], by omega, HN3.out, HRD.out, by rw [hla, vcells_append]; exact o4, hb4⟩
            case measure => simp [intOf]; omega
      · have hkl : k = cs.length := by omega
        have hfull : chRun l cs = some b := by rw [hkl, List.take_length] at hrun; exact hrun
        have HF := Lib.hid (HYES.out b hfull)
        have hnl : ¬ (k : Int) < cs.length := by omega
        have HREL := Lib.hid hrel
        have HSO := Lib.hid (sortVals ho rfl (by omega))
        clear hrun hfull hrel ho
        go_wp2_with fail
        refine HSO.out.mono ?_
        rintro e w4 ⟨rfl, dd, hdl, hdp, hds, o4, g4⟩
        obtain rfl := rel_sorted HREL.out hdp (hds.imp fun h => by omega)
        have hb4 := hbr.trans ((Below.refl w.heap.size wr).grown g4 zr (fun q hq => by cases hq; omega))
        have z4 := hb4.size
        have HVd := HV.out w4 (some ⟨g1, 0, none⟩) cap1 dd (by omega) (vreads_own hdl o4)
        rw [hdl] at HVd
        replace HVd := Lib.hid HVd
        clear g4 hdp hds HSO hbr
        go_wp2_with fail
        refine HVd.out.mono ?_
        rintro e w5 ⟨rfl, b5⟩
        have hb5 := Below.next hb4 b5
        have o5 := own_below o4 b5
        have z5 := b5.size
        clear b5 hb4 o4 HVd
        cases hov : valsOkB dd
        · have hRR := HF.out
          rw [hov] at hRR
          clear o5
          go_wp2_with fail
          refine (HCP.out _ hb5).mono ?_
          rintro e w6 ⟨A6, c6, rfl, o6, b6⟩
          have hb6 := Below.next hb5 b6
          have o6 := own_base o6 (base' := w.heap.size) (by omega)
          go_wp2_with fail
          refine bodyPost_ret (v := .tuple #[.slice A6 l.length c6, .bool false]) (by simp [results, Try.results7, go_sem, *]) rfl ⟨A6, c6, by rw [hRR]; rfl, by rw [hRR]; exact o6, hb6⟩
        · have hRR := HF.out
          rw [hov] at hRR
          rw [← hdl] at o5
          have HO5 := Lib.hid o5
          have HDL := Lib.hid hdl
          clear o5 hdl
          go_wp2_with fail
          refine bodyPost_ret (v := .tuple #[.slice (some ⟨g1, 0, none⟩) a.length cap1, .bool true]) (by simp [results, Try.results7, go_sem, *]) rfl ⟨some ⟨g1, 0, none⟩, cap1, by rw [hRR, ← HDL.out]; rfl, by rw [hRR]; exact HO5.out, hb5⟩
end Go.Proofs.Ytnmgecaflildoaa
