/-
  Leaves of a tree drawn.
-/
import Derived.Test.YtnmgecaflildoaaDoorCur4
import Derived.Test.YtnmgecaflildoaaDoorOwnT
namespace Go.Proofs.YtnmgecaflildoaaDoor
open Go.ChangeShapes Go.WideShapes Go.ChangeAt Go.RowKit
set_option linter.unusedVariables false
set_option linter.unusedSimpArgs false
set_option maxRecDepth 100000

theorem own_capA {w : World} {base : Nat} {e : TypeId} {size n cap : Nat} {A : Option Addr} {xs : List Value} (h : w.ownsRow base e size (.slice A n cap) n xs) : n ≤ cap ∧ cap ≤ 9223372036854775807 := by
  rcases h.2 with ⟨h1, h2⟩ | ⟨g', cap', cur, h1, _, _, h4, h5, _⟩
  · simp only [Value.slice.injEq] at h1
    omega
  · simp only [Value.slice.injEq] at h1
    obtain ⟨_, _, rfl⟩ := h1
    exact ⟨h4, by unfold maxLen at h5; omega⟩
theorem own_noneT {w : World} {base : Nat} {e : TypeId} {size n cap : Nat} {A : Option Addr} {xs : List Value} (h : w.ownsRow base e size (.slice A n cap) n xs) : A = none → cap = 0 := by
  rintro rfl
  rcases h.2 with ⟨h1, h2⟩ | ⟨g', cap', cur, h1, _⟩
  · simp only [Value.slice.injEq] at h1; exact h1.2.2
  · simp at h1

set_option maxHeartbeats 1000000 in
theorem l4Leaves_in (B : Nat) (K : Cd) (w : World) (hs : CurX w B K) (hl : K.l.length ≤ 1048576) :
    Calls Tryd.prog 29 #[.pointer (some ⟨B, 0, none⟩)] w fun e w' => ∃ (L : List (List UInt8)) (A : Option Addr) (c : Nat), e = .returned (.slice A L.length c) ∧ L.length ≤ 41 ∧ (∀ x ∈ L, x.length ≤ 4) ∧ w'.ownsRow w.heap.size 9 1 (.slice A L.length c) L.length (L.map tv) ∧ CurX w' B K ∧ But B w w' := by
  obtain ⟨i0, hi, hz0, hz1, hz2⟩ := info_parts infoT
  have HB := hs.lt
  have H9 := Lib.hid fun (W : World) (h : CurX W B K) => below_in B K 9 W h hl (by omega) (by omega)
  have H2 := Lib.hid fun (W : World) (h : CurX W B K) => below_in B K 2 W h hl (by omega) (by omega)
  have H60 := Lib.hid fun (W : World) (h : CurX W B K) => once_in B K 60 W h hl (by omega) (by omega)
  have HT := Lib.hid fun (W : World) (h : CurX W B K) => text_in B K 4 W h (by omega) hl
  have HS := Lib.hid (hs.alloc (.cells #[] 9))
  have HO := Lib.hid (World.ownsRow_lit (e := 9) (size := 1) (base := w.heap.size) w #[] 0 (Nat.le_refl _) (by simp [maxLen]) rfl)
  have HBU := Lib.hid ((But.refl B w).alloc (.cells #[] 9))
  clear hs
  go_enter Tryd.func29, Tryd.ntmps29
  go_wp2_with fail
  refine (H9.out _ HS.out).mono ?_
  rintro e w1 ⟨x, rfl, hx, c1, b1⟩
  have HO2 := Lib.hid (own_but HO.out b1 HB)
  have HBU2 := Lib.hid (HBU.out.trans b1)
  clear HS HO HBU b1
  go_wp2_with fail
  go_loopw [3, 4] (fun out i wr => ∃ (L : List (List UInt8)) (j : Nat), L.length + j = x ∧ i = .int .i64 (j : Int) ∧ Hid (∀ x ∈ L, x.length ≤ 4) ∧ wr.ownsRow w.heap.size 9 1 out L.length (L.map tv) ∧ CurX wr B K ∧ But B w wr) (fun _ i _ => (intOf i).toNat)
  case atStart => exact ⟨[], x, by simp, rfl, fun y hy => by simp at hy, HO2.out, c1, HBU2.out⟩
  case round =>
    obtain ⟨L, j, hj, rfl, hL, hown, hc, hbu⟩ := hrel
    have hji : 0 ≤ (j : Int) ∧ (j : Int) ≤ 9 := by omega
    obtain ⟨A, c, rfl⟩ := own_slice hown
    by_cases hlt : 0 < j
    · have hjp : 0 < (j : Int) := by omega
      have HOWN := Lib.hid hown
      have HBUT := Lib.hid hbu
      have zz := hbu.size
      clear hown hbu
      go_wp2_with fail
      refine (HT.out _ hc).mono ?_
      rintro e w2 ⟨t, rfl, ht, c2, b2⟩
      have o2 := own_but HOWN.out b2 HB
      have zz2 := b2.size
      go_wp2_with (at_builtin; refine app_low rfl _ _ 31 rfl Tryd.underlying31 hi hz0 hz1 hz2 rfl (by decide) rfl o2 (by omega) rfl rfl rfl (one_cellT _) (by unfold maxLen; omega) (by omega) ?_; intro v1 w4 hown1 hlow)
      go_roundw
      case rel => exact ⟨L ++ [t], j - 1, by simp; omega, by go_num, fun y hy => by simp at hy; rcases hy with hy | rfl; exact hL y hy; exact ht, by rw [List.length_append, List.length_singleton, List.map_append]; exact hown1, c2.low hlow HB, (HBUT.out.trans b2).low hlow⟩
      case measure => simp [intOf]; omega
    · obtain rfl : j = 0 := by omega
      have HF := Lib.hid hown
      have HBUT := Lib.hid hbu
      clear hown hbu HO2 HBU2 c1
      go_wp2_with fail
      refine (H60.out _ hc).mono ?_
      rintro e w2 ⟨o, rfl, c2, b2⟩
      have HF2 := Lib.hid (own_but HF.out b2 HB)
      have HB2 := Lib.hid (HBUT.out.trans b2)
      clear HF HBUT hc b2
      cases o
      · go_wp2
        go_ret
        exact ⟨L, A, c, rfl, by omega, hL, HF2.out, c2, HB2.out⟩
      · go_wp2_with fail
        refine (H2.out _ c2).mono ?_
        rintro e w3 ⟨y, rfl, hy, c3, b3⟩
        have HF3 := Lib.hid (own_but HF2.out b3 HB)
        have HB3 := Lib.hid (HB2.out.trans b3)
        clear HF2 HB2 c2 b3
        have hy2 : 0 ≤ (y : Int) ∧ (y : Int) < 2 := by omega
        have hL9 : L.length ≤ 9 := by omega
        go_wp2_with fail
        go_loopw [3] (fun out wr => ∃ (L : List (List UInt8)), L.length ≤ 40 + y ∧ Hid (∀ x ∈ L, x.length ≤ 4) ∧ wr.ownsRow w.heap.size 9 1 out L.length (L.map tv) ∧ CurX wr B K ∧ But B w wr) (fun out _ => match out with | .slice _ n _ => 41 - n | _ => 0)
        case atStart => exact ⟨L, by omega, hL, HF3.out, c3, HB3.out⟩
        case round =>
          obtain ⟨L, hj, hL, hown, hc, hbu⟩ := hrel
          have HOWN := Lib.hid hown
          obtain ⟨A, c, rfl⟩ := own_slice hown
          have HBUT := Lib.hid hbu
          have zz := hbu.size
          have hLL : 0 ≤ (L.length : Int) ∧ (L.length : Int) ≤ 41 := by omega
          clear hown hbu
          by_cases hlt : L.length < 40 + y
          · have hlti : (L.length : Int) < 40 + (y : Int) := by omega
            have o2 := HOWN.out
            go_wp2_with (at_builtin; refine app_low rfl _ _ 31 rfl Tryd.underlying31 hi hz0 hz1 hz2 rfl (by decide) rfl o2 (by omega) rfl rfl rfl (one_cellT _) (by unfold maxLen; omega) (by omega) ?_; intro v1 w4 hown1 hlow)
            obtain ⟨A1, c1', rfl⟩ := own_slice hown1
            go_roundw
            case rel => exact ⟨L ++ [[]], by simp; omega, fun z hz => by simp at hz; rcases hz with hz | rfl; exact hL z hz; simp, by rw [List.length_append, List.length_singleton, List.map_append]; exact hown1, hc.low hlow HB, HBUT.out.low hlow⟩
            case measure => simp; omega
          · have hlti : ¬ (L.length : Int) < 40 + (y : Int) := by omega
            go_wp2
            go_ret
            exact ⟨L, A, c, rfl, by omega, hL, HOWN.out, hc, HBUT.out⟩

theorem drawTreeRoot_in (K : Cd) (w : World) (hl : K.l.length ≤ 1048576) (hR : BReads w w.heap.size K.A K.l) :
    Calls Tryd.prog 11 #[.slice K.A K.l.length K.c] w fun e w' => ∃ (L : List (List UInt8)) (A : Option Addr) (c : Nat), e = .returned (.slice A L.length c) ∧ L.length ≤ 41 ∧ Hid (∀ x ∈ L, x.length ≤ 4) ∧ L.length ≤ c ∧ c ≤ 9223372036854775807 ∧ (A = none → c = 0) ∧ Hid (TReads w' w'.heap.size A L) ∧ Below w.heap.size w w' := by
  have HN := Lib.hid (new_in K w hl hR)
  have HL := Lib.hid fun (B : Nat) (W : World) (h : CurX W B K) => l4Leaves_in B K W h hl
  go_enter Tryd.func11, Tryd.ntmps11
  go_wp2_with fail
  refine HN.out.mono ?_
  rintro e w1 ⟨rfl, c1, b1⟩
  go_wp2_with fail
  refine (HL.out _ _ c1).mono ?_
  rintro e w2 ⟨L, A, c, rfl, h41, h4, o2, c2, b2⟩
  have hcap := own_capA o2
  have hnn := own_noneT o2
  have hT := Lib.hid (TReads.of_own o2)
  have hbw := Lib.hid (b1.trans (b2.below (Nat.le_refl _) b1.size))
  clear o2 b2 b1
  go_wp2
  go_ret
  exact ⟨L, A, c, rfl, h41, h4, hcap.1, hcap.2, hnn, hT, hbw.out⟩
end Go.Proofs.YtnmgecaflildoaaDoor
