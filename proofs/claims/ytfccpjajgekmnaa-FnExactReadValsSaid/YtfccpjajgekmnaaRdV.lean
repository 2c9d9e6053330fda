/-
  ReadVals, both.
-/
import Derived.Test.YtfccpjajgekmnaaScan3
import Derived.Test.YtfccpjajgekmnaaShowV
import Derived.Test.YtfccpjajgekmnaaLawV
import Derived.Deep.RegionLaw
import Derived.Deep.AppendLies
namespace Go.Proofs.Ytfccpjajgekmnaa
open Go.ChangeShapes Go.WideShapes Go.ChangeAt Go.RowKit
set_option linter.unusedVariables false
set_option linter.unusedSimpArgs false
set_option maxRecDepth 100000

theorem own_vreads {w : World} {base : Nat} {e : TypeId} {A : Option Addr} {n c : Nat} {l : List ValT} (h : w.ownsRow base e 2 (.slice A n c) n (vcells l)) (hn : l.length = n) : VReads w w.heap.size A l := by subst hn; exact VReads.of_own h

theorem readVals_len (l : List UInt8) : (readValsS l).1.length ≤ 7 := by
  unfold readValsS
  by_cases h : (numP (l, false)).1 ≤ 7 ∧ (valsP l).2.2 = false ∧ showValsS (valsP l).1 = l
  · rw [if_pos h]
    have := (valsAt_len (numP (l, false)).2 (numP (l, false)).1).1
    show (valsP l).1.length ≤ 7
    unfold valsP
    rw [this]; exact h.1
  · rw [if_neg h]; simp

set_option maxHeartbeats 4000000 in
theorem iReadVals_any (l : List UInt8) (w : World) (hl : l.length ≤ 1048576) :
    Calls Try.prog 27 #[.string (S l)] w fun e w' => ∃ A c, e = .returned (.tuple #[.slice A (readValsS l).1.length c, .bool (readValsS l).2]) ∧ w'.ownsRow w.heap.size 33 2 (.slice A (readValsS l).1.length c) (readValsS l).1.length (vcells (readValsS l).1) ∧ Below w.heap.size w w' := by
  obtain ⟨i0, hi, hz0, hz1, hz2⟩ := info_parts info_val
  obtain ⟨n, s1, h1⟩ : ∃ n s, numP (l, false) = (n, s) := ⟨_, _, rfl⟩
  have hs1 : s1.1.length ≤ l.length := by have := numP_len (l, false); rw [h1] at this; exact this
  have hVP : valsP l = valsAt s1 n := by unfold valsP; rw [h1]
  have HV : Hid (readValsS l = if n ≤ 7 ∧ (valsAt s1 n).2.2 = false ∧ showValsS (valsAt s1 n).1 = l then ((valsAt s1 n).1, true) else ([], false)) := by unfold Hid readValsS; rw [hVP, h1]
  have HG : Hid (∀ k, (valsAt s1 k).2.2 = false → l.isEmpty = false) := fun k h => by
    cases l with
    | nil =>
      have q := numP_nil
      rw [h1] at q
      have := valsAt_good (s := s1) (i := 0) (j := k) q (by omega)
      rw [this] at h; cases h
    | cons a t => rfl
  have HLEN : Hid (∀ k, (valsAt s1 k).1.length = k ∧ (valsAt s1 k).2.1.length ≤ 1048576) := fun k => ⟨(valsAt_len s1 k).1, Nat.le_trans (valsAt_len s1 k).2 (by omega)⟩
  have HSTEP : Hid (∀ k, valsAt s1 (k + 1) = ((valsAt s1 k).1 ++ [⟨(numP (valsAt s1 k).2).1, (numP (numP (valsAt s1 k).2).2).1⟩], (numP (numP (valsAt s1 k).2).2).2)) := fun k => rfl
  have HZ : Hid (valsAt s1 0 = ([], s1)) := rfl
  have H1 := Lib.hid fun (W : World) (h : ScanAt W w.heap.size (l, false)) => num_eq h1 hl h
  have hb := Below.refl w.heap.size w
  clear h1 hs1 hVP
  generalize readValsS l = V at *
  generalize hVA : valsAt s1 = VA at *
  clear hVA
  go_enter Try.func27, Try.ntmps27
  go_wp2_with fail
  have hS := ScanAt.new w 99 l false
  have hBB := hb.alloc (Nat.le_refl _) (.cells #[.string (S l), .bool false] 99)
  have hWBs : (w.alloc (.cells #[.string (S l), .bool false] 99)).heap.size = w.heap.size + 1 := by simp
  generalize w.alloc (.cells #[.string (S l), .bool false] 99) = WB at *
  refine (H1.out _ hS).mono ?_
  rintro e w1 ⟨rfl, t1, b1⟩
  have z1 := b1.size
  have hS1 := Lib.hid (t1.alloc (.cells #[] 33))
  have hB1 := Lib.hid (b1.alloc (.cells #[] 33))
  have hO1 := Lib.hid (World.ownsRow_lit (e := 33) (size := 2) (base := WB.heap.size) w1 #[] 0 z1 (by simp [maxLen]) rfl)
  clear t1 b1 hS
  go_wp2_with fail
  go_loopw [6, 7] (fun out i wr => ∃ k : Nat, k ≤ n ∧ (k = 0 ∨ n ≤ 7) ∧ i = .int .i64 (k : Int) ∧ wr.ownsRow WB.heap.size 33 2 out k (vcells (VA k).1) ∧ ScanAt wr w.heap.size (VA k).2 ∧ But w.heap.size WB wr) (fun _ i _ => n - (intOf i).toNat)
  case atStart => exact ⟨0, by omega, .inl rfl, rfl, by rw [HZ.out]; exact hO1.out, by rw [HZ.out]; exact hS1.out, hB1.out⟩
  case round =>
    obtain ⟨k, hk, hk07, rfl, hown, hsc, hbt⟩ := hrel
    have hki : 0 ≤ (k : Int) ∧ (k : Int) ≤ n := by omega
    have hw0 := hbt.size
    by_cases hlt : k < n ∧ n ≤ 7
    · obtain ⟨hkn, hn7⟩ := hlt
      have hki2 : (k : Int) < n ∧ (n : Int) ≤ 7 := by omega
      have hlk := HLEN.out k
      have hst := HSTEP.out k
      obtain ⟨x, p2, e1⟩ : ∃ n s, numP (VA k).2 = (n, s) := ⟨_, _, rfl⟩
      obtain ⟨y, p3, e2⟩ : ∃ n s, numP p2 = (n, s) := ⟨_, _, rfl⟩
      have hp2 : p2.1.length ≤ 1048576 := by have := numP_len (VA k).2; rw [e1] at this; simp only at this; omega
      rw [e1] at hst
      simp only [e2] at hst
      have HST := Lib.hid hst
      have HVC : Hid (vcells (VA (k + 1)).1 = vcells (VA k).1 ++ (#[Value.int .i64 (x : Int), Value.int .i64 (y : Int)] : Array Value).toList) := by unfold Hid; rw [hst]; exact vcells_append _ _
      have N1 := Lib.hid (num_eq e1 hlk.2 hsc)
      have N2 := Lib.hid fun (W : World) (h : ScanAt W w.heap.size p2) => num_eq e2 hp2 h
      clear hst e1 e2 hlk hsc
      go_wp2_with fail
      refine N1.out.mono ?_
      rintro e w2 ⟨rfl, t2, b2⟩
      have z2 := b2.size
      have o2 := own_but hown b2 (by omega)
      have hbt2 := hbt.trans b2
      have HO2 := Lib.hid (o2.alloc (.cells #[.int .i64 (x : Int), .int .i64 0] 33))
      have HLT2 := Lib.hid o2.lt
      have HB2 := Lib.hid (hbt2.alloc (.cells #[.int .i64 (x : Int), .int .i64 0] 33))
      have hS2 := t2.alloc (.cells #[.int .i64 (x : Int), .int .i64 0] 33)
      clear t2 b2 hown hbt o2 hbt2
      go_wp2_with fail
      refine (N2.out _ hS2).mono ?_
      rintro e w3 ⟨rfl, t3, b3⟩
      have z3 := b3.size
      simp at z3
      have c0 : w3.cell? ⟨w2.heap.size, 0, none⟩ = some (.int .i64 (x : Int)) := (b3.cell (by simp) (by omega)).trans (by go_simp)
      have c1 : w3.cell? ⟨w2.heap.size, 1, none⟩ = some (.int .i64 0) := (b3.cell (by simp) (by omega)).trans (by go_simp)
      have f1 : w3.frozen? ⟨w2.heap.size, 1, none⟩ = false := (b3.frozen (by simp) (by omega)).trans (by go_simp)
      have o3 := own_set (own_but HO2.out b3 (by omega)) (g := w2.heap.size) (fun q hq => by have := (HLT2.out q hq).2; omega) 1 (.int .i64 (y : Int))
      have HB3 := Lib.hid ((HB2.out.trans b3).setFar (g := w2.heap.size) (by omega) 1 (.int .i64 (y : Int)))
      have HS3 := Lib.hid (t3.far (g := w2.heap.size) (by omega) 1 (.int .i64 (y : Int)))
      have z4 : WB.heap.size ≤ (w3.setCell ⟨w2.heap.size, 1, none⟩ (.int .i64 (y : Int))).heap.size := by simp [World.setCell]; omega
      clear t3 b3 hS2
      go_wp2_with (at_builtin; refine app_low rfl _ _ 24 rfl Try.underlying24 hi hz0 hz1 hz2 rfl (by decide) rfl o3 z4 (by simp [World.setCell]) rfl rfl (one_cell_ii _ _) (by unfold maxLen; omega) (by omega) ?_; intro v1 w4 hown1 hlow)
      go_roundw
      case rel => exact ⟨k + 1, by omega, .inr hn7, by go_num, by rw [HVC.out]; exact hown1, by rw [HST.out]; exact HS3.out.low hlow (by omega), HB3.out.low hlow⟩
      case measure => simp [intOf]; omega
    · obtain ⟨A, c, rfl⟩ := own_slice hown
      have hbf : Below w.heap.size w wr := hBB.trans (hbt.below (Nat.le_refl _) (by omega))
      obtain ⟨hB', d0, d1, g0, g1⟩ := id hsc
      have hnot : ¬ (k < n ∧ n ≤ 7) := hlt
      have HFIN : Hid ((k = n ∧ n ≤ 7) ∨ (k = 0 ∧ 7 < n)) := by unfold Hid; omega
      have hgd : ((k : Int) < n ∧ ¬ (n : Int) ≤ 7) ∨ ¬ (k : Int) < n := by omega
      have HLK := Lib.hid (HLEN.out k)
      have HIN := Lib.hid (HG.out k)
      have HVB : Hid ((VA k).2.2 = true → V = ([], false)) := fun h => by
        rw [HV.out]
        rcases HFIN.out with ⟨rfl, _⟩ | ⟨_, h7⟩
        · rw [if_neg (fun q => by rw [h] at q; cases q.2.1)]
        · rw [if_neg (fun q => by omega)]
      have HVN : Hid (showValsS (VA k).1 ≠ l → V = ([], false)) := fun h => by
        rw [HV.out]
        rcases HFIN.out with ⟨rfl, _⟩ | ⟨_, h7⟩
        · rw [if_neg (fun q => h q.2.2)]
        · rw [if_neg (fun q => by omega)]
      have HVY : Hid ((VA k).2.2 = false → showValsS (VA k).1 = l → V = ((VA k).1, true)) := fun hg h => by
        rw [HV.out]
        rcases HFIN.out with ⟨rfl, h7⟩ | ⟨rfl, h7⟩
        · rw [if_pos ⟨h7, hg, h⟩]
        · have q := HIN.out hg
          rw [HZ.out] at h
          have e : showValsS [] = [] := rfl
          simp only at h
          rw [e] at h
          rw [← h] at q; cases q
      have HR := Lib.hid (own_vreads hown HLK.out.1)
      have HOB := Lib.hid (own_base hown (show w.heap.size ≤ WB.heap.size by omega))
      clear hnot hlt hown hsc HV HSTEP HZ HG HFIN HLEN
      generalize (VA k).2.1 = r at *
      generalize (VA k).2.2 = bad at *
      generalize (VA k).1 = T at *
      have hb := hbf
      cases bad
      · have hem := HIN.out rfl
        have hTl := HLK.out.1
        subst hTl
        have HSH := Lib.hid fun (W : World) (h : Below wr.heap.size wr W) => iShowVals_any A c T W (by omega) (HR.out.to h)
        by_cases hs : showValsS T = l
        · have HV2 := Lib.hid (HVY.out rfl hs)
          rw [hs] at HSH
          have hr0 := Below.refl wr.heap.size wr
          rcases hgd with ⟨g1', g2'⟩ | g1'
          all_goals
            go_wp2_with (go_at_call 80; refine (HSH.out _ hr0).mono ?_; rintro e wn ⟨rfl, hbn⟩; have hb := Below.next (w := w) hb hbn)
            go_ret2
            rw [HV2.out]
            exact ⟨A, c, rfl, own_below HOB.out hbn, hb⟩
        · have HV2 := Lib.hid (HVN.out hs)
          have hs' : (showValsS T == l) = false := by simpa using hs
          generalize showValsS T = Z at *
          have hr0 := Below.refl wr.heap.size wr
          rcases hgd with ⟨g1', g2'⟩ | g1'
          all_goals
            go_wp2_with (go_at_call 80; refine (HSH.out _ hr0).mono ?_; rintro e wn ⟨rfl, hbn⟩; have hb := Below.next (w := w) hb hbn)
            go_ret2
            rw [HV2.out]
            exact ⟨none, 0, rfl, own_nil _ _ _ _, hb⟩
      · have HV2 := Lib.hid (HVB.out rfl)
        rcases hgd with ⟨g1', g2'⟩ | g1'
        all_goals
          go_wp2
          go_ret2
          rw [HV2.out]
          exact ⟨none, 0, rfl, own_nil _ _ _ _, hb⟩

set_option maxHeartbeats 4000000 in
theorem sReadVals_any (l : List UInt8) (w : World) (hl : l.length ≤ 1048576) :
    Calls Try.prog 26 #[.string (S l)] w fun e w' => ∃ A c, e = .returned (.tuple #[.slice A (readValsS l).1.length c, .bool (readValsS l).2]) ∧ w'.ownsRow w.heap.size 33 2 (.slice A (readValsS l).1.length c) (readValsS l).1.length (vcells (readValsS l).1) ∧ Below w.heap.size w w' := by
  obtain ⟨i0, hi, hz0, hz1, hz2⟩ := info_parts info_val
  obtain ⟨n, s1, h1⟩ : ∃ n s, numP (l, false) = (n, s) := ⟨_, _, rfl⟩
  have u1 : Suf l s1 := by have := (Suf.start l).num; rw [h1] at this; exact this
  have hVP : valsP l = valsAt s1 n := by unfold valsP; rw [h1]
  have HV : Hid (readValsS l = if n ≤ 7 ∧ (valsAt s1 n).2.2 = false ∧ showValsS (valsAt s1 n).1 = l then ((valsAt s1 n).1, true) else ([], false)) := by unfold Hid readValsS; rw [hVP, h1]
  have hne : s1.2 = false → l ≠ [] := fun h e => by
    subst e
    have q := numP_nil
    rw [h1] at q
    rw [h] at q; cases q
  have hsuf : ∀ k, Suf l (valsAt s1 k).2 := fun k => by
    induction k with
    | zero => exact u1
    | succ k ih => exact ih.num.num
  have HN2 := Lib.hid fun (k : Nat) (W : World) => l6Vars_any l (valsAt s1 k).2 2 W hl (hsuf k) (by omega)
  have HBAD := Lib.hid fun (k : Nat) (hk : k ≤ n) (h : (valsAt s1 k).2.2 = true) => valsAt_good h hk
  have HPG := Lib.hid fun (k : Nat) (h : (valsAt s1 k).2.2 = false) => posOf_good (hsuf k) h
  have HP1 := Lib.hid (fun h : s1.2 = false => posOf_good u1 h)
  have HPB : Hid (∀ s : Sc, s.2 = true → posOf l s = -1) := fun s h => posOf_bad h
  have HLEN : Hid (∀ k, (valsAt s1 k).1.length = k) := fun k => (valsAt_len s1 k).1
  have HSTEP : Hid (∀ k, valsAt s1 (k + 1) = ((valsAt s1 k).1 ++ [⟨(numP (valsAt s1 k).2).1, (numP (numP (valsAt s1 k).2).2).1⟩], (numP (numP (valsAt s1 k).2).2).2)) := fun k => rfl
  have HNS : Hid (∀ k, numsAt (valsAt s1 k).2 2 = ([((numP (valsAt s1 k).2).1 : Int), ((numP (numP (valsAt s1 k).2).2).1 : Int)], (numP (numP (valsAt s1 k).2).2).2)) := fun k => by simp only [numsAt, List.nil_append, List.cons_append]
  have HZ : Hid (valsAt s1 0 = ([], s1)) := rfl
  have HNE := Lib.hid hne
  have hn1 : numsAt (l, false) 1 = ([(n : Int)], s1) := by simp only [numsAt, h1, List.nil_append]
  have hp0 : posOf l (l, false) = 0 := by unfold posOf; rw [if_neg (by simp)]; simp
  have hN := fun W : World => l6Vars_own l (l, false) 1 W hl (Suf.start l) (by omega)
  rw [hn1, hp0] at hN
  have HN := Lib.hid hN
  have hn63 := numP_lt (l, false)
  rw [h1] at hn63
  simp only at hn63
  have hb := Below.refl w.heap.size w
  clear h1 hVP hN hn1 hp0 hne hsuf u1
  generalize readValsS l = V at *
  generalize hVA : valsAt s1 = VA at *
  clear hVA
  go_enter Try.func26, Try.ntmps26
  go_wp2_with fail
  have hO := World.ownsRow_lit (e := 33) (size := 2) (base := w.heap.size) w #[] 0 (Nat.le_refl _) (by simp [maxLen]) rfl
  have hb1 := hb.alloc (Nat.le_refl _) (.cells #[] 33)
  generalize w.alloc (.cells #[] 33) = W0 at *
  refine (HN.out _).mono ?_
  rintro e w1 ⟨A, m, c, rfl, hm, b1⟩
  have hb := Below.next hb1 b1
  have hO1 := own_below hO b1
  have hz := hb1.size
  clear hO hb1 b1
  cases hg1 : s1.2
  · obtain ⟨hm1, hA⟩ := hm hg1
    subst hm1
    obtain ⟨q1, hq1, _, hp1⟩ := HP1.out hg1
    have hem := HNE.out hg1
    obtain ⟨ga, ca, hv, _, hgl⟩ := hA.form (by omega)
    simp only [Value.slice.injEq] at hv
    obtain ⟨rfl, _, rfl⟩ := hv
    have k0 := hA.cellAt 0 (by omega)
    simp only [List.map_cons, List.map_nil, List.getElem?_cons_zero, iv] at k0
    have hq1i : 0 ≤ (q1 : Int) := by omega
    rw [hp1]
    clear hm
    by_cases hn7 : n ≤ 7
    · have hn7i : (n : Int) ≤ 7 := by omega
      have hn7' : ¬ (7 < (n : Int)) := by omega
      go_wp2_with fail
      go_loopw [4, 6, 7] (fun out at_ i wr => ∃ k : Nat, k ≤ n ∧ i = .int .i64 (k : Int) ∧ at_ = .int .i64 (posOf l (VA k).2) ∧ Hid ((VA k).2.2 = false) ∧ wr.ownsRow w.heap.size 33 2 out k (vcells (VA k).1) ∧ wr.ownsRow W0.heap.size 3 1 (.slice (some ⟨ga, 0, none⟩) 1 c) 1 [.int .i64 (n : Int)] ∧ Below w.heap.size w wr) (fun _ _ i _ => n - (intOf i).toNat)
      case atStart => exact ⟨0, by omega, rfl, by rw [HZ.out, hp1], by rw [HZ.out]; exact hg1, by rw [HZ.out]; exact hO1, hA, hb⟩
      case round =>
        obtain ⟨k, hk, rfl, rfl, hgk, hown, hA, hb⟩ := hrel
        have hki : 0 ≤ (k : Int) ∧ (k : Int) ≤ n := by omega
        have k0 := hA.cellAt 0 (by omega)
        simp only [List.getElem?_cons_zero] at k0
        obtain ⟨A, c', rfl⟩ := own_slice hown
        have hbz := hb.size
        by_cases hlt : k < n
        · have hst := HSTEP.out k
          have hns := HNS.out k
          have hN2 := HN2.out k
          obtain ⟨x, p2, e1⟩ : ∃ n s, numP (VA k).2 = (n, s) := ⟨_, _, rfl⟩
          obtain ⟨y, p3, e2⟩ : ∃ n s, numP p2 = (n, s) := ⟨_, _, rfl⟩
          rw [e1] at hst hns
          simp only [e2] at hst hns
          rw [hns] at hN2
          simp only at hN2
          have HN2' := Lib.hid hN2
          have HST := Lib.hid hst
          have HVC : Hid (vcells (VA (k + 1)).1 = vcells (VA k).1 ++ [Value.int .i64 (x : Int), Value.int .i64 (y : Int)]) := by unfold Hid; rw [hst]; exact vcells_append _ _
          have hbad3 := Lib.hid (HBAD.out (k + 1) (by omega))
          have hpg3 := HPG.out (k + 1)
          rw [hst] at hpg3
          have HPG3 := Lib.hid hpg3
          have HPB3 := Lib.hid (HPB.out p3)
          have HOWN := Lib.hid hown
          have HA := Lib.hid hA
          clear hst hns hN2 e1 e2 hpg3
          cases hg3 : p3.2
          · obtain ⟨q3, hq3, _, hp3⟩ := HPG3.out hg3
            simp only at hp3
            have hq3i : 0 ≤ (q3 : Int) := by omega
            have HPP := Lib.hid hp3
            clear hown hA
            go_wp2_with fail
            refine (HN2'.out _).mono ?_
            rintro e w2 ⟨A2, m2, c2, rfl, hm2, b2⟩
            rw [hp3]
            obtain ⟨hm22, hI2⟩ := hm2 hg3
            subst hm22
            obtain ⟨g2, o2, rfl, hg2l, hcl⟩ := hI2 (by simp)
            have x0 := hcl 0 (by simp)
            have x1 := hcl 1 (by simp)
            simp only [List.getElem_cons_zero, List.getElem_cons_succ, Nat.add_zero] at x0 x1
            have hown2 := own_below HOWN.out b2
            have hA2 := Lib.hid (own_below HA.out b2)
            have hb2 := Below.next hb b2
            have hbz2 := hb2.size
            have HNE2 := Lib.hid (own_ne hA2.out hown2 (by decide))
            clear hm2 hI2 hcl b2
            go_wp2_with fail
            go_region_law (refine step_append_lies _ rfl _ _ 24 rfl w.heap.size 33 i0 (.agg #[.int .i64 0, .int .i64 0]) 2 16 Try.underlying24 hi hz0 hz1 hz2 rfl (by decide) _ k _ rfl (hown2.alloc _) ⟨w2.heap.size, 0, none⟩ 1 1 [.int .i64 (x : Int), .int .i64 (y : Int)] rfl rfl (cells2 (by simp [go_sem]) (by simp [go_sem])) (by intro u hu; simp at hu; rcases hu with rfl | rfl <;> rfl) (by omega) (by unfold maxLen; omega) (by omega) (by simp; omega) _ rfl ?_; intro g3 cap3 w3 o3 gr3 _ _)
            all_goals
              have hb3 := ((hb2.alloc hb2.size (.cells #[.int .i64 (x : Int), .int .i64 (y : Int)] 33)).drew).grown gr3 (by have := hb2.size; simp; omega) (fun q hq => (hown2.lt q hq).1)
              have gr3' : (w2.alloc (.cells #[.int .i64 (x : Int), .int .i64 (y : Int)] 33)).grownBy w3 (Value.slice A k c').ownBlock := ⟨gr3.os, gr3.tape, gr3.output, gr3.size, gr3.block⟩
              have hA3 := own_gb (hA2.out.alloc (.cells #[.int .i64 (x : Int), .int .i64 (y : Int)] 33)) gr3' HNE2.out
              go_wp2
              go_roundw
              case rel => exact ⟨k + 1, by omega, by go_num, by rw [HST.out, HPP.out], by rw [HST.out]; exact hg3, by rw [HVC.out]; exact o3, hA3, hb3⟩
              case measure => simp [intOf]; omega
          · have hp3 := HPB3.out hg3
            have HV2 : Hid (V = ([], false)) := by unfold Hid; rw [HV.out, if_neg (fun q => by rw [hbad3.out (by rw [HST.out]; exact hg3)] at q; cases q.2.1)]
            rw [hp3] at HN2'
            clear hown hA
            go_wp2_with fail
            refine (HN2'.out _).mono ?_
            rintro e w2 ⟨A2, m2, c2, rfl, hm2, b2⟩
            have hb2 := Below.next hb b2
            have hb := hb2
            have hbz2 := hb2.size
            clear hm2 b2
            go_wp2
            go_ret2
            rw [HV2.out]
            exact ⟨_, _, rfl, World.ownsRow_lit w2 #[] 0 hbz2 (by simp [maxLen]) rfl, hb2.alloc hbz2 _⟩
        · obtain rfl : k = n := by omega
          have HVN : Hid (showValsS (VA k).1 ≠ l → V = ([], false)) := fun h => by rw [HV.out, if_neg (fun q => h q.2.2)]
          have HVY : Hid (showValsS (VA k).1 = l → V = ((VA k).1, true)) := fun h => by rw [HV.out, if_pos ⟨hn7, hgk.out, h⟩]
          have HLK := Lib.hid (HLEN.out k)
          have HR := Lib.hid (own_vreads hown HLK.out)
          have HOB := Lib.hid hown
          have HEM := Lib.hid hem
          clear hown hA hem
          generalize (VA k).1 = T at *
          have hTl := HLK.out
          subst hTl
          have hr0 := Below.refl wr.heap.size wr
          have HSH := Lib.hid fun (W : World) (h : Below wr.heap.size wr W) => sShowVals_any A c' T W (by omega) (HR.out.to h)
          by_cases h0 : T.length = 0
          · have hT0 : T = [] := List.eq_nil_of_length_eq_zero h0
            have HV2 : Hid (V = ([], false)) := HVN.out (by rw [hT0]; intro e; exact HEM.out e.symm)
            have h0i : (T.length : Int) = 0 := by omega
            go_wp2
            go_ret2
            rw [HV2.out]
            exact ⟨_, _, rfl, World.ownsRow_lit wr #[] 0 hbz (by simp [maxLen]) rfl, hb.alloc hbz _⟩
          · have h0i : ¬ (T.length : Int) = 0 := by omega
            by_cases hs : showValsS T = l
            · have HV2 := Lib.hid (HVY.out hs)
              rw [hs] at HSH
              go_wp2_with (go_at_call 79; refine (HSH.out _ hr0).mono ?_; rintro e wn ⟨rfl, hbn⟩; have hb := Below.next (w := w) hb hbn)
              go_ret2
              rw [HV2.out]
              exact ⟨A, c', rfl, own_below HOB.out hbn, hb⟩
            · have HV2 := Lib.hid (HVN.out hs)
              have hs' : (showValsS T == l) = false := by simpa using hs
              generalize showValsS T = Z at *
              go_wp2_with (go_at_call 79; refine (HSH.out _ hr0).mono ?_; rintro e wn ⟨rfl, hbn⟩; have hb := Below.next (w := w) hb hbn)
              have hbs := hb.size
              go_ret2
              rw [HV2.out]
              exact ⟨_, _, rfl, World.ownsRow_lit wn #[] 0 hbs (by simp [maxLen]) rfl, hb.alloc hbs _⟩
    · have hn7' : 7 < (n : Int) := by omega
      have HV2 : Hid (V = ([], false)) := by unfold Hid; rw [HV.out, if_neg (fun q => hn7 q.1)]
      go_wp2
      go_ret2
      rw [HV2.out]
      exact ⟨_, _, rfl, hO1, hb⟩
  · have HV2 : Hid (V = ([], false)) := by
      unfold Hid
      rw [HV.out, if_neg (fun q => by rw [HBAD.out 0 (by omega) (by rw [HZ.out]; exact hg1)] at q; cases q.2.1)]
    rw [HPB.out _ hg1]
    clear hm
    go_wp2
    go_ret2
    rw [HV2.out]
    exact ⟨_, _, rfl, hO1, hb⟩
end Go.Proofs.Ytfccpjajgekmnaa
