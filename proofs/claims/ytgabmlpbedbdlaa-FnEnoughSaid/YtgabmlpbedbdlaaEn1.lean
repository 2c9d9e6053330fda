/-
  The draws of validators.
-/
import Derived.Test.YtgabmlpbedbdlaaCur4
import Derived.Test.YtgabmlpbedbdlaaVal0
namespace Go.Proofs.Ytgabmlpbedbdlaa
open Go.ChangeShapes Go.WideShapes Go.ChangeAt Go.RowKit
set_option linter.unusedVariables false
set_option linter.unusedSimpArgs false
set_option maxRecDepth 100000

theorem vset_id (x : Int) : ∀ (L : List ValT) (k : Nat) (h : k < L.length), (vcells L).set (k * 2) (.int .i64 x) = vcells (L.set k ⟨x, L[k].power⟩) := by
  intro L
  induction L with
  | nil => intro k h; simp at h
  | cons v L ih =>
    intro k h
    match k, h with
    | 0, _ => rfl
    | k + 1, h =>
      rw [vcells_cons, show (k + 1) * 2 = k * 2 + 1 + 1 from by omega]
      simp only [List.set_cons_succ, List.getElem_cons_succ]
      rw [vcells_cons, ih k (by simpa using h)]
theorem vset_pw (x : Int) : ∀ (L : List ValT) (k : Nat) (h : k < L.length), (vcells L).set (k * 2 + 1) (.int .i64 x) = vcells (L.set k ⟨L[k].id, x⟩) := by
  intro L
  induction L with
  | nil => intro k h; simp at h
  | cons v L ih =>
    intro k h
    match k, h with
    | 0, _ => rfl
    | k + 1, h =>
      rw [vcells_cons, show (k + 1) * 2 + 1 = k * 2 + 1 + 1 + 1 from by omega]
      simp only [List.set_cons_succ, List.getElem_cons_succ]
      rw [vcells_cons, ih k (by simpa using h)]
theorem info_val2 : (Try.prog.info? 42).map (fun i => (i.zero, i.size, i.bytes)) = some (some (.agg #[.int .i64 0, .int .i64 0]), 2, 16) := by kernel_rfl
theorem info_int2 : (Try.prog.info? 3).map (fun i => (i.zero, i.size, i.bytes)) = some (some (.int .i64 0), 1, 8) := by kernel_rfl

theorem l6Some_in (B : Nat) (K : Cd) (w : World) (hs : CurX w B K) (hl : K.l.length ≤ 1048576) :
    Calls Try.prog 58 #[.pointer (some ⟨B, 0, none⟩)] w fun e w' => ∃ (L : List ValT) (A : Option Addr) (c : Nat), e = .returned (.slice A L.length c) ∧ 1 ≤ L.length ∧ L.length ≤ 4 ∧ w'.ownsRow w.heap.size 42 2 (.slice A L.length c) L.length (vcells L) ∧ CurX w' B K ∧ But B w w' := by
  obtain ⟨i0, hi, hz0, hz1, hz2⟩ := info_parts info_val2
  have HB := hs.lt
  have H4 := Lib.hid fun (W : World) (h : CurX W B K) => below_in B K 4 W h hl (by omega) (by omega)
  have H5 := Lib.hid fun (W : World) (h : CurX W B K) => below_in B K 5 W h hl (by omega) (by omega)
  have H2 := Lib.hid fun (W : World) (h : CurX W B K) => below_in B K 2 W h hl (by omega) (by omega)
  have HS := Lib.hid (hs.alloc (.cells #[] 42))
  have HO := Lib.hid (World.ownsRow_lit (e := 42) (size := 2) (base := w.heap.size) w #[] 0 (Nat.le_refl _) (by simp [maxLen]) rfl)
  have HBU := Lib.hid ((But.refl B w).alloc (.cells #[] 42))
  clear hs
  go_enter Try.func58, Try.ntmps58
  go_wp2_with fail
  refine (H4.out _ HS.out).mono ?_
  rintro e w1 ⟨x, rfl, hx, c1, b1⟩
  have HO2 := Lib.hid (own_but HO.out b1 HB)
  have HBU2 := Lib.hid (HBU.out.trans b1)
  clear HS HO HBU b1
  go_wp2_with fail
  go_loopw [3, 4, 5] (fun out id i wr => ∃ (L : List ValT) (j d : Nat), L.length + j = x + 1 ∧ i = .int .i64 (j : Int) ∧ id = .int .i64 (d : Int) ∧ d ≤ 1 + 2 * L.length ∧ wr.ownsRow w.heap.size 42 2 out L.length (vcells L) ∧ CurX wr B K ∧ But B w wr) (fun _ _ i _ => (intOf i).toNat)
  case atStart => exact ⟨[], x + 1, 1, by simp, by go_num, rfl, by simp, HO2.out, c1, HBU2.out⟩
  case round =>
    obtain ⟨L, j, d, hj, rfl, rfl, hd, hown, hc, hbu⟩ := hrel
    have hji : 0 ≤ (j : Int) ∧ (j : Int) ≤ 4 := by omega
    obtain ⟨A, c, rfl⟩ := own_slice hown
    by_cases hlt : 0 < j
    · have hjp : 0 < (j : Int) := by omega
      have HOWN := Lib.hid hown
      have HBUT := Lib.hid hbu
      have zz := hbu.size
      clear hown hbu
      go_wp2_with fail
      refine (H5.out _ hc).mono ?_
      rintro e w2 ⟨y, rfl, hy, c2, b2⟩
      have o2 := own_but HOWN.out b2 HB
      have zz2 := b2.size
      go_wp2_with (at_builtin; refine app_low rfl _ _ 33 rfl Try.underlying33 hi hz0 hz1 hz2 rfl (by decide) rfl o2 (by omega) rfl rfl rfl (one_cell_ii _ _) (by unfold maxLen; omega) (by omega) ?_; intro v1 w4 hown1 hlow)
      refine (H2.out _ (c2.low hlow HB)).mono ?_
      rintro e w5 ⟨z, rfl, hz, c5, b5⟩
      have o5 := own_but hown1 b5 HB
      have hbu5 := ((HBUT.out.trans b2).low hlow).trans b5
      go_wp2
      go_roundw
      case rel => exact ⟨L ++ [⟨(d : Int), 1 + (y : Int)⟩], j - 1, d + 1 + z, by simp; omega, by go_num, by go_num, by simp; omega, by rw [List.length_append, List.length_singleton, vcells_append]; exact o5, c5, hbu5⟩
      case measure => simp [intOf]; omega
    · obtain rfl : j = 0 := by omega
      have HF := Lib.hid hown
      have HC := Lib.hid hc
      have HBUT := Lib.hid hbu
      clear hown hc hbu
      go_wp2
      go_ret
      exact ⟨L, A, c, rfl, by omega, by omega, HF.out, HC.out, HBUT.out⟩

set_option maxHeartbeats 1000000 in
theorem l6Any_in (B : Nat) (K : Cd) (w : World) (hs : CurX w B K) (hl : K.l.length ≤ 1048576) :
    Calls Try.prog 44 #[.pointer (some ⟨B, 0, none⟩)] w fun e w' => ∃ (L : List ValT) (A : Option Addr) (c : Nat), e = .returned (.slice A L.length c) ∧ L.length ≤ 8 ∧ w'.ownsRow w.heap.size 42 2 (.slice A L.length c) L.length (vcells L) ∧ CurX w' B K ∧ But B w w' := by
  obtain ⟨i0, hi, hz0, hz1, hz2⟩ := info_parts info_val2
  have HB := hs.lt
  have HSO := Lib.hid (l6Some_in B K w hs hl)
  have H8 := Lib.hid fun (W : World) (h : CurX W B K) => once_in B K 8 W h hl (by omega) (by omega)
  have H4 := Lib.hid fun (W : World) (h : CurX W B K) => below_in B K 4 W h hl (by omega) (by omega)
  have H2 := Lib.hid fun (W : World) (h : CurX W B K) => below_in B K 2 W h hl (by omega) (by omega)
  clear hs
  go_enter Try.func44, Try.ntmps44
  go_wp2_with fail
  refine HSO.out.mono ?_
  rintro e w1 ⟨L, A, c, rfl, hL1, hL4, o1, c1, b1⟩
  have HL := Lib.hid (below_in B K L.length)
  go_wp2_with fail
  refine (H8.out _ c1).mono ?_
  rintro e w2 ⟨b, rfl, c2, b2⟩
  have o2 := own_but o1 b2 HB
  have bb2 := b1.trans b2
  clear o1 b1 b2 c1 HSO H8
  cases b
  · go_wp2
    go_ret
    exact ⟨L, A, c, rfl, by omega, o2, c2, bb2⟩
  · have hLi : 0 ≤ (L.length : Int) ∧ (L.length : Int) ≤ 4 := by omega
    go_wp2_with fail
    refine (HL.out _ c2 hl (by omega) (by omega)).mono ?_
    rintro e w3 ⟨k, rfl, hk, c3, b3⟩
    have o3 := own_but o2 b3 HB
    have bb3 := bb2.trans b3
    clear o2 b3 bb2 c2 HL
    go_wp2_with fail
    refine (H4.out _ c3).mono ?_
    rintro e w4 ⟨q, rfl, hq, c4, b4⟩
    have o4 := own_but o3 b4 HB
    have bb4 := bb3.trans b4
    have zz4 := bb4.size
    clear o3 b4 bb3 c3 H4
    have hki : 0 ≤ (k : Int) ∧ (k : Int) < L.length := by omega
    obtain ⟨g, cap, hv, hg0, hgl⟩ := o4.form (by omega)
    simp only [Value.slice.injEq] at hv
    obtain ⟨rfl, _, rfl⟩ := hv
    by_cases hq0 : q = 0
    · subst hq0
      have HP := Lib.hid (pick_in B K [0, 1, 99, 100] (w4.alloc (.cells #[.int .i64 0, .int .i64 1, .int .i64 99, .int .i64 100] 3)) w4.heap.size 4 (c4.alloc _) (by have := c4.lt; omega) (by simp) (by decide) (by decide) hl (lit_ints w4 3 [0, 1, 99, 100]))
      have HO := Lib.hid (o4.alloc (.cells #[.int .i64 0, .int .i64 1, .int .i64 99, .int .i64 100] 3))
      have HBU := Lib.hid (bb4.alloc (.cells #[.int .i64 0, .int .i64 1, .int .i64 99, .int .i64 100] 3))
      clear o4 bb4 c4
      go_wp2_with fail
      refine HP.out.mono ?_
      rintro e w5 ⟨v, rfl, hv, c5, b5⟩
      have o5 := own_but HO.out b5 HB
      have bb5 := HBU.out.trans b5
      have k0 := o5.cellAt (k * 2) (by omega)
      rw [(vcells_at L k hk).1] at k0
      have f0 := o5.frozenAt (k * 2)
      have hst := (o5.stored (k * 2) (.int .i64 v)).1
      rw [vset_id v L k hk] at hst
      have HST := Lib.hid hst
      clear hv HP HO HBU b5 hst o5
      go_wp2
      go_ret
      exact ⟨L.set k ⟨v, L[k].power⟩, some ⟨g, 0, none⟩, c, by rw [List.length_set]; rfl, by rw [List.length_set]; omega, by rw [List.length_set]; exact HST.out, c5.far (by omega) _ _, bb5.setFar (by omega) _ _⟩
    · have hq0i : ¬ (q : Int) = 0 := by omega
      by_cases hq1 : q = 1
      · subst hq1
        have HP := Lib.hid (pick_in B K [0, 1000, 1001, -1] (w4.alloc (.cells #[.int .i64 0, .int .i64 1000, .int .i64 1001, .int .i64 (-1)] 3)) w4.heap.size 4 (c4.alloc _) (by have := c4.lt; omega) (by simp) (by decide) (by decide) hl (lit_ints w4 3 [0, 1000, 1001, -1]))
        have HO := Lib.hid (o4.alloc (.cells #[.int .i64 0, .int .i64 1000, .int .i64 1001, .int .i64 (-1)] 3))
        have HBU := Lib.hid (bb4.alloc (.cells #[.int .i64 0, .int .i64 1000, .int .i64 1001, .int .i64 (-1)] 3))
        clear o4 bb4 c4
        go_wp2_with fail
        refine HP.out.mono ?_
        rintro e w5 ⟨v, rfl, hv, c5, b5⟩
        have o5 := own_but HO.out b5 HB
        have bb5 := HBU.out.trans b5
        have k0 := o5.cellAt (k * 2 + 1) (by omega)
        rw [(vcells_at L k hk).2] at k0
        have f0 := o5.frozenAt (k * 2 + 1)
        have hst := (o5.stored (k * 2 + 1) (.int .i64 v)).1
        rw [vset_pw v L k hk] at hst
        have HST := Lib.hid hst
        clear hv HP HO HBU b5 hst o5
        go_wp2
        go_ret
        exact ⟨L.set k ⟨L[k].id, v⟩, some ⟨g, 0, none⟩, c, by rw [List.length_set]; rfl, by rw [List.length_set]; omega, by rw [List.length_set]; exact HST.out, c5.far (by omega) _ _, bb5.setFar (by omega) _ _⟩
      · have hq1i : ¬ (q : Int) = 1 := by omega
        by_cases hq2 : q = 2
        · subst hq2
          have HO := Lib.hid (World.ownsRow_lit (e := 42) (size := 2) (base := w.heap.size) w4 #[] 0 (by omega) (by simp [maxLen]) rfl)
          go_wp2
          go_ret
          exact ⟨[], _, _, rfl, by simp, HO.out, c4.alloc _, bb4.alloc _⟩
        · have hq2i : ¬ (q : Int) = 2 := by omega
          have HO4 := Lib.hid o4
          have HB4 := Lib.hid bb4
          clear o4 bb4
          go_wp2_with fail
          go_loopw [3, 5] (fun out i wr => ∃ (L : List ValT) (j : Nat), L.length ≤ 8 ∧ j ≤ 20 + L.length ∧ i = .int .i64 (j : Int) ∧ wr.ownsRow w.heap.size 42 2 out L.length (vcells L) ∧ CurX wr B K ∧ But B w wr) (fun out _ _ => match out with | .slice _ n _ => 8 - n | _ => 0)
          case atStart => exact ⟨L, 20, by omega, by omega, rfl, HO4.out, c4, HB4.out⟩
          case round =>
            obtain ⟨L, j, hj, hj2, rfl, hown, hc, hbu⟩ := hrel
            have HOWN := Lib.hid hown
            obtain ⟨A, c, rfl⟩ := own_slice hown
            have HBUT := Lib.hid hbu
            have zz := hbu.size
            have hLL : 0 ≤ (L.length : Int) ∧ (L.length : Int) ≤ 8 := by omega
            clear hown hbu
            go_wp2_with fail
            refine (H2.out _ hc).mono ?_
            rintro e w5 ⟨z, rfl, hz, c5, b5⟩
            have o5 := own_but HOWN.out b5 HB
            have zz5 := b5.size
            by_cases hlt : L.length < 7 + z
            · have hlti : (L.length : Int) < 7 + (z : Int) := by omega
              have HO5 := Lib.hid o5
              have HB5 := Lib.hid (HBUT.out.trans b5)
              have HC5 := Lib.hid c5
              clear o5 b5 c5 HOWN HBUT
              go_wp2_with (at_builtin; refine app_low rfl _ _ 33 rfl Try.underlying33 hi hz0 hz1 hz2 rfl (by decide) rfl HO5.out (by omega) rfl rfl rfl (one_cell_ii _ _) (by unfold maxLen; omega) (by omega) ?_; intro v1 w6 hown1 hlow; obtain ⟨A1, cc1, rfl⟩ := own_slice hown1)
              go_roundw
              case rel => exact ⟨L ++ [⟨(j : Int), 1⟩], by rw [List.length_append, List.length_singleton]; omega, j + 1, by rw [List.length_append, List.length_singleton]; omega, by go_num, by rw [List.length_append, List.length_singleton, vcells_append]; exact hown1, HC5.out.low hlow HB, HB5.out.low hlow⟩
              case measure => omega
            · have hlti : ¬ (L.length : Int) < 7 + (z : Int) := by omega
              have HF := Lib.hid (HBUT.out.trans b5)
              clear b5
              go_wp2
              go_ret
              exact ⟨L, A, c, rfl, by omega, o5, c5, HF.out⟩
end Go.Proofs.Ytgabmlpbedbdlaa
