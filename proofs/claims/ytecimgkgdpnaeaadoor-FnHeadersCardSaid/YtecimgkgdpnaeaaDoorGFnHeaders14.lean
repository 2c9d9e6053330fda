/-
  Texts of this proof, laid into one: RdC2.
-/
import Derived.Deep.AppendLies
import Derived.Deep.RegionLaw
import Derived.Test.YtecimgkgdpnaeaaDoorGFnHeaders13
/-
  ReadCommit: the reference's.
-/
namespace Go.Proofs.YtecimgkgdpnaeaaDoor
open Go.ChangeShapes Go.WideShapes Go.ChangeAt Go.RowKit
set_option linter.unusedVariables false
set_option linter.unusedSimpArgs false
set_option maxRecDepth 100000

set_option maxHeartbeats 4000000 in
theorem sReadCommit_any (l : List UInt8) (w : World) (hl : l.length ≤ 1048576) :
    Calls Tryd.prog 17 #[.string (S l)] w fun e w' => ∃ A c, e = .returned (.tuple #[.agg #[.int .i64 (readComS l).1.h, .int .i64 (readComS l).1.r, .string (S (readComS l).1.id), .slice A (readComS l).1.sigs.length c], .bool (readComS l).2]) ∧ w'.ownsRow w.heap.size 85 2 (.slice A (readComS l).1.sigs.length c) (readComS l).1.sigs.length (scells (readComS l).1.sigs) ∧ Below w.heap.size w w' := by
  obtain ⟨i0, hi, hz0, hz1, hz2⟩ := info_parts info_csig
  obtain ⟨n1, n2, n, t1, s2, s3, s4, s5, h1, h2, h3, h4, hN, hP, l2, l3, l4, l5, q1, q2⟩ := com_parts l
  have HV : Hid (readComS l = if n ≤ 12 ∧ (sigsAt s5 n).2.2 = false ∧ showCommitS ⟨n1, n2, t1, (sigsAt s5 n).1⟩ = l then (⟨n1, n2, t1, (sigsAt s5 n).1⟩, true) else (zeroCom, false)) := by unfold Hid readComS; rw [hN, hP n rfl]
  have u2 : Suf l s2 := by have := (Suf.start l).num; rw [h1] at this; exact this
  have u3 : Suf l s3 := by have := u2.num; rw [h2] at this; exact this
  have u4 : Suf l s4 := by have := u3.text; rw [h3] at this; exact this
  have u5 : Suf l s5 := by have := u4.num; rw [h4] at this; exact this
  have g4 : s4.2 = true → s5.2 = true := fun h => by have := numP_stay h; rw [h4] at this; exact this
  have g3 : s3.2 = true → s4.2 = true := fun h => by have := textP_stay h; rw [h3] at this; exact this
  have hsuf : ∀ k, Suf l (sigsAt s5 k).2 := fun k => by
    induction k with
    | zero => exact u5
    | succ k ih => exact ih.num.text
  have HBAD : Hid (∀ k, k ≤ n → (sigsAt s5 k).2.2 = true → readComS l = (zeroCom, false)) := fun k hk h => by
    rw [HV.out, if_neg (fun q => by rw [sigsAt_good h hk] at q; cases q.2.1)]
  have HB5 : Hid (s5.2 = true → readComS l = (zeroCom, false)) := fun h => HBAD.out 0 (by omega) h
  have HB3 : Hid (s3.2 = true → readComS l = (zeroCom, false)) := fun h => HB5.out (g4 (g3 h))
  have HG3 : Hid (s5.2 = false → s4.2 = false) := fun h => by cases hx : s4.2 with | false => rfl | true => rw [g4 hx] at h; cases h
  have HPG := Lib.hid fun (k : Nat) (h : (sigsAt s5 k).2.2 = false) => posOf_good (hsuf k) h
  have HP3 := Lib.hid (fun h : s3.2 = false => posOf_good u3 h)
  have HP5 := Lib.hid (fun h : s5.2 = false => posOf_good u5 h)
  have HPB : Hid (∀ s : Sc, s.2 = true → posOf l s = -1) := fun s h => posOf_bad h
  have HLEN : Hid (∀ k, (sigsAt s5 k).1.length = k ∧ ∀ x ∈ (sigsAt s5 k).1, x.sig.length ≤ 9223372036854775807) := fun k => ⟨(sigsAt_len s5 k).1, fun x hx => Nat.le_trans (sigsAt_sig s5 k x hx) (by omega)⟩
  have HSTEP : Hid (∀ k, sigsAt s5 (k + 1) = ((sigsAt s5 k).1 ++ [⟨(numP (sigsAt s5 k).2).1, (textP (numP (sigsAt s5 k).2).2).1⟩], (textP (numP (sigsAt s5 k).2).2).2)) := fun k => rfl
  have HZ : Hid (sigsAt s5 0 = ([], s5)) := rfl
  have HN1 := Lib.hid fun (k : Nat) (W : World) => l6Vars_own l (sigsAt s5 k).2 1 W hl (hsuf k) (by omega)
  have HNS : Hid (∀ k, numsAt (sigsAt s5 k).2 1 = ([((numP (sigsAt s5 k).2).1 : Int)], (numP (sigsAt s5 k).2).2)) := fun k => by simp only [numsAt, List.nil_append]
  have HSU := Lib.hid fun k => (hsuf k).num
  have hnn : numsAt (l, false) 2 = ([(n1 : Int), (n2 : Int)], s3) := by simp only [numsAt, h1, h2, List.nil_append, List.cons_append]
  have hn4 : numsAt s4 1 = ([(n : Int)], s5) := by simp only [numsAt, h4, List.nil_append]
  have hp0 : posOf l (l, false) = 0 := by unfold posOf; rw [if_neg (by simp)]; simp
  have hNA := fun W : World => l6Vars_own l (l, false) 2 W hl (Suf.start l) (by omega)
  rw [hnn, hp0] at hNA
  have HNA := Lib.hid hNA
  have HTA := Lib.hid fun W : World => take_eq (w := W) h3 hl u3
  have hNB := fun W : World => l6Vars_own l s4 1 W hl u4 (by omega)
  rw [hn4] at hNB
  have HNB := Lib.hid hNB
  have hn63 : n < 562949953421312 := q2
  have hq1 : t1.length ≤ 9223372036854775807 := by omega
  have hb := Below.refl w.heap.size w
  clear h1 h2 h3 h4 hN hP l2 l3 l4 l5 hNA hNB hnn hn4 hp0 u2 u3 u4 u5 g4 g3 q1 q2
  generalize readComS l = V at *
  generalize hVA : sigsAt s5 = VA at *
  clear hVA hsuf
  go_enter Tryd.func17, Tryd.ntmps17
  go_wp2_with fail
  have hR := H4r.new w 33 (.int .i64 0) (.int .i64 0) (.string ⟨#[]⟩) (.slice none 0 0)
  have hBW := hb.alloc (Nat.le_refl _) (.cells #[.int .i64 0, .int .i64 0, .string ⟨#[]⟩, .slice none 0 0] 33)
  have hWAs : (w.alloc (.cells #[.int .i64 0, .int .i64 0, .string ⟨#[]⟩, .slice none 0 0] 33)).heap.size = w.heap.size + 1 := by simp
  generalize w.alloc (.cells #[.int .i64 0, .int .i64 0, .string ⟨#[]⟩, .slice none 0 0] 33) = WA at *
  refine (HNA.out _).mono ?_
  rintro e w1 ⟨A, m, c, rfl, hm, b1⟩
  have hR1 := hR.next b1
  have hb1 := Below.next hBW b1
  have zz1 := b1.size
  clear hR hBW
  cases hg3 : s3.2
  · obtain ⟨hm1, hA⟩ := hm hg3
    subst hm1
    obtain ⟨p3, hp3, _, hpp3⟩ := HP3.out hg3
    have hp3i : ¬ (p3 : Int) < 0 := by omega
    have HA := Lib.hid hA
    have HPP3 := Lib.hid hpp3
    rw [hpp3]
    clear hm hA hpp3
    go_wp2_with fail
    rw [← HPP3.out]
    refine (HTA.out _).mono ?_
    rintro e w2 ⟨rfl, b2⟩
    have zz2 := b2.size
    go_wp2_with fail
    refine (HNB.out _).mono ?_
    rintro e w3 ⟨A4, m4, c4, rfl, hm4, b3⟩
    have zz3 := b3.size
    have hb3 := Below.next (Below.next hb1 b2) b3
    have hR3 := (hR1.next b2).next b3
    cases hg5 : s5.2
    · obtain ⟨hm41, hA4⟩ := hm4 hg5
      subst hm41
      obtain ⟨p5, hp5, _, hpp5⟩ := HP5.out hg5
      have hp5i : 0 ≤ (p5 : Int) ∧ ¬ (p5 : Int) < 0 := by omega
      rw [hpp5]
      have hA3 := own_below (own_below HA.out b2) b3
      obtain ⟨ga, ca, hv, hga0, hgl⟩ := hA3.form (by omega)
      simp only [Value.slice.injEq] at hv
      obtain ⟨rfl, _, rfl⟩ := hv
      have k0 := hA3.cellAt 0 (by omega)
      have k1 := hA3.cellAt 1 (by omega)
      simp only [List.map_cons, List.map_nil, List.getElem?_cons_zero, List.getElem?_cons_succ, iv] at k0 k1
      obtain ⟨gb, cb, hv, hgb0, hgbl⟩ := hA4.form (by omega)
      simp only [Value.slice.injEq] at hv
      obtain ⟨rfl, _, rfl⟩ := hv
      have k4 := hA4.cellAt 0 (by omega)
      simp only [List.map_cons, List.map_nil, List.getElem?_cons_zero, iv] at k4
      have HB3 := Lib.hid hb3
      have HR3 := Lib.hid hR3
      have HA4 := Lib.hid hA4
      clear b1 b2 b3 hA3 hm4 hA4 HA hb3 hR3 hR1 hb1
      by_cases hn7 : n ≤ 12
      · have hn7i : ¬ (12 < (n : Int)) := by omega
        have hn7j : (n : Int) ≤ 12 := by omega
        go_wp2_with fail
        go_region
        go_wp2_with fail
        have hH0 := (H4r.new w3 33 (.int .i64 (n1 : Int)) (.int .i64 (n2 : Int)) (.string (S t1)) (.slice none 0 0)).next (Below.drew (Below.refl _ _))
        have hR0 := (HR3.out.alloc (.cells #[.int .i64 (n1 : Int), .int .i64 (n2 : Int), .string (S t1), .slice none 0 0] 33)).next (Below.drew (Below.refl _ _))
        have hA0 := own_below (HA4.out.alloc (.cells #[.int .i64 (n1 : Int), .int .i64 (n2 : Int), .string (S t1), .slice none 0 0] 33)) (Below.drew (Below.refl _ _))
        have hb0 := (HB3.out.alloc (by omega) (.cells #[.int .i64 (n1 : Int), .int .i64 (n2 : Int), .string (S t1), .slice none 0 0] 33)).drew
        have hHw : w.heap.size < w3.heap.size := by omega
        generalize w3.heap.size = H at *
        generalize (w3.alloc (.cells #[.int .i64 (n1 : Int), .int .i64 (n2 : Int), .string (S t1), .slice none 0 0] 33)).drew = W5 at *
        clear HB3 HR3 HA4 k0 k1 k4
        go_loopw [5, 9] (fun at_ i wr => ∃ (k : Nat) (v : Value), k ≤ n ∧ i = .int .i64 (k : Int) ∧ at_ = .int .i64 (posOf l (VA k).2) ∧ Hid ((VA k).2.2 = false) ∧ wr.ownsRow (H + 1) 85 2 v k (scells (VA k).1) ∧ H4r wr H (.int .i64 (n1 : Int)) (.int .i64 (n2 : Int)) (.string (S t1)) v ∧ H4r wr w.heap.size (.int .i64 0) (.int .i64 0) (.string ⟨#[]⟩) (.slice none 0 0) ∧ wr.ownsRow w2.heap.size 3 1 (.slice (some ⟨gb, 0, none⟩) 1 c4) 1 (List.map iv [(n : Int)]) ∧ Below w.heap.size w wr) (fun _ i _ => n - (intOf i).toNat)
        case atStart => exact ⟨0, _, by omega, rfl, by rw [HZ.out, hpp5], by rw [HZ.out]; exact hg5, by rw [HZ.out]; exact own_nil _ _ _ _, hH0, hR0, hA0, hb0⟩
        case round =>
          obtain ⟨k, v, hk, rfl, rfl, hgk, hown, hH, hR, hA, hb⟩ := hrel
          have hki : 0 ≤ (k : Int) ∧ (k : Int) ≤ n := by omega
          have hw0 := hb.size
          have hHl := hH.1
          obtain ⟨A, c, rfl⟩ := own_slice hown
          have k4 := hA.cellAt 0 (by omega)
          simp only [List.map_cons, List.map_nil, List.getElem?_cons_zero, iv] at k4
          by_cases hlt : k < n
          · have hki2 : (k : Int) < n := by omega
            have hst := HSTEP.out k
            have hns := HNS.out k
            have hN1 := HN1.out k
            have hsu := HSU.out k
            obtain ⟨x, p2, e1⟩ : ∃ n s, numP (VA k).2 = (n, s) := ⟨_, _, rfl⟩
            obtain ⟨y, p3, e2⟩ : ∃ n s, textP p2 = (n, s) := ⟨_, _, rfl⟩
            rw [e1] at hst hns hsu
            simp only [e2] at hst hns hsu
            rw [hns] at hN1
            simp only at hN1
            have HN1' := Lib.hid hN1
            have HST := Lib.hid hst
            have HVC : Hid (scells (VA (k + 1)).1 = scells (VA k).1 ++ [Value.int .i64 (x : Int), Value.string (S y)]) := by unfold Hid; rw [hst]; exact scells_append _ _
            have HBD : Hid (p3.2 = true → V = (zeroCom, false)) := fun h => HBAD.out (k + 1) (by omega) (by rw [hst]; exact h)
            have HB2 : Hid (p2.2 = true → V = (zeroCom, false)) := fun h => HBD.out (by have := textP_stay h; rw [e2] at this; exact this)
            have HTK := Lib.hid fun W : World => take_eq (w := W) e2 hl hsu
            have hpg3 := HPG.out (k + 1)
            rw [hst] at hpg3
            have HPG3 := Lib.hid hpg3
            have HPG2 := Lib.hid fun h : p2.2 = false => posOf_good hsu h
            have HOWN := Lib.hid hown
            have HH := Lib.hid hH
            have HR := Lib.hid hR
            have HA := Lib.hid hA
            clear hst hns hN1 e1 e2 hpg3 hsu hown hH hR hA
            go_wp2_with fail
            refine (HN1'.out _).mono ?_
            rintro e w4 ⟨A2, m2, c2, rfl, hm2, b4⟩
            have hH4 := HH.out.next b4
            have hR4 := HR.out.next b4
            have hb4 := Below.next hb b4
            have zz4 := b4.size
            cases hg2 : p2.2
            · obtain ⟨hm22, hI2⟩ := hm2 hg2
              subst hm22
              obtain ⟨q2, hq2, _, hpq2⟩ := HPG2.out hg2
              have hq2i : ¬ (q2 : Int) < 0 := by omega
              have HI2 := Lib.hid hI2
              have HO4 := Lib.hid (own_below HOWN.out b4)
              have HA4 := Lib.hid (own_below HA.out b4)
              have HQ2 := Lib.hid hpq2
              rw [hpq2]
              clear hm2 hI2 hpq2 b4
              go_wp2_with fail
              rw [← HQ2.out]
              refine (HTK.out _).mono ?_
              rintro e w5 ⟨rfl, b5⟩
              have hH5 := hH4.next b5
              have hR5 := hR4.next b5
              have hb5 := Below.next hb4 b5
              have zz5 := b5.size
              cases hg3' : p3.2
              · obtain ⟨q3, hq3, _, hpq3⟩ := HPG3.out hg3'
                have HPP := Lib.hid hpq3
                have hO5 := own_below HO4.out b5
                have hA5 := own_below HA4.out b5
                have hI5 := own_below HI2.out b5
                obtain ⟨gv, cv, hv, hgv0, hgvl⟩ := hI5.form (by omega)
                simp only [Value.slice.injEq] at hv
                obtain ⟨rfl, _, rfl⟩ := hv
                have x0 := hI5.cellAt 0 (by omega)
                simp only [List.map_cons, List.map_nil, List.getElem?_cons_zero, iv] at x0
                have hq3i : ¬ (q3 : Int) < 0 := by omega
                rw [hpq3]
                obtain ⟨_, c0, c1, c2', c3, hf⟩ := id hH5
                have HR5 := Lib.hid hR5
                have HLT5 := Lib.hid hO5.lt
                have HNE := Lib.hid (own_ne hA5 hO5 (by decide))
                have HH5 := Lib.hid hH5
                have HA5 := Lib.hid hA5
                have HI5 := Lib.hid hI5
                have HO5 := Lib.hid hO5
                clear b5 hH4 hR4 hb4 hA5 hI5 hR5 hH5 hO5
                have hHz : H < w5.heap.size := by omega
                have hgf3 := hf 3
                go_wp2_with fail
                go_region_law (refine step_append_lies _ rfl _ _ 31 rfl (H + 1) 85 i0 (.agg #[.int .i64 0, .string ⟨#[]⟩]) 2 24 Tryd.underlying31 hi hz0 hz1 hz2 rfl (by decide) _ k _ rfl (HO5.out.alloc _) ⟨w5.heap.size, 0, none⟩ 1 1 [.int .i64 (x : Int), .string (S y)] rfl rfl (cells2 (by simp [go_sem]) (by simp [go_sem])) (by intro u hu; simp at hu; rcases hu with rfl | rfl <;> rfl) (by omega) (by unfold maxLen; omega) (by omega) (by simp; omega) _ rfl ?_; intro g6 cap6 w6 o6 gr6 _ _; have gr6' : (w5.alloc (.cells #[.int .i64 (x : Int), .string (S y)] 85)).grownBy w6 (Value.slice A k c).ownBlock := ⟨gr6.os, gr6.tape, gr6.output, gr6.size, gr6.block⟩; have hH6 := (HH5.out.alloc (.cells #[.int .i64 (x : Int), .string (S y)] 85)).block (gr6'.block H (by simp; omega) (fun e => by have := HLT5.out H e.symm; omega)) gr6'.size; have hg6 := hH6.2.2.2.2.2 3; have hc6 := hH6.2.2.2.2.1)
                all_goals
                  have hb6 := ((hb5.alloc (by omega) (.cells #[.int .i64 (x : Int), .string (S y)] 85)).drew).grown gr6 (by have := hb5.size; simp; omega) (fun q hq => by have := (HLT5.out q hq).1; omega)
                  have hA6 := own_gb (HA5.out.alloc (.cells #[.int .i64 (x : Int), .string (S y)] 85)) gr6' HNE.out
                  have hR6 := (HR5.out.alloc (.cells #[.int .i64 (x : Int), .string (S y)] 85)).block (gr6'.block w.heap.size (by simp; omega) (fun e => by have := HLT5.out _ e.symm; omega)) gr6'.size
                  have zz6 := hb6.size
                  have hH7 := (hH6.set (.slice (some ⟨g6, 0, none⟩) (k + 1) cap6)).2.2
                  have hR7 := hR6.far (g := H) (by omega) 3 (.slice (some ⟨g6, 0, none⟩) (k + 1) cap6)
                  have hO7 := own_set o6 (g := H) (fun q hq => by have := (o6.lt q hq).1; omega) 3 (.slice (some ⟨g6, 0, none⟩) (k + 1) cap6)
                  have hA7 := own_set hA6 (g := H) (fun q hq => by have := (hA6.lt q hq).1; simp [Value.ownBlock] at hq; omega) 3 (.slice (some ⟨g6, 0, none⟩) (k + 1) cap6)
                  have hb7 := hb6.setCell (p := ⟨H, 3, none⟩) (by simp; omega) (.slice (some ⟨g6, 0, none⟩) (k + 1) cap6)
                  go_wp2
                  go_roundw
                  case rel => exact ⟨k + 1, _, by omega, by go_num, by rw [HST.out, HPP.out], by rw [HST.out]; exact hg3', by rw [HVC.out]; exact hO7, hH7, hR7, hA7, hb7⟩
                  case measure => simp [intOf]; omega
              · have HV2 := Lib.hid (HBD.out hg3')
                have hb := hb5
                obtain ⟨hRl, r0, r1, r2, r3, rf⟩ := id hR5
                rw [HPB.out _ hg3']
                clear b5
                go_wp2
                refine bodyPost_ret (v := .tuple #[.agg #[.int .i64 0, .int .i64 0, .string ⟨#[]⟩, .slice none 0 0], .bool false]) (by simp [results, Tryd.results17, go_sem, *]) rfl ?_
                rw [HV2.out]
                exact ⟨none, 0, rfl, own_nil _ _ _ _, by repeat (first | with_reducible exact hb | with_reducible refine Below.drew ?_ | with_reducible refine Below.setCell ?_ (by first | omega | (simp <;> omega)) _ | with_reducible refine Below.alloc ?_ (by first | omega | (simp <;> omega)) _)⟩
            · have HV2 := Lib.hid (HB2.out hg2)
              have hb := hb4
              obtain ⟨hRl, r0, r1, r2, r3, rf⟩ := id hR4
              rw [HPB.out _ hg2]
              clear hm2 b4
              go_wp2
              refine bodyPost_ret (v := .tuple #[.agg #[.int .i64 0, .int .i64 0, .string ⟨#[]⟩, .slice none 0 0], .bool false]) (by simp [results, Tryd.results17, go_sem, *]) rfl ?_
              rw [HV2.out]
              exact ⟨none, 0, rfl, own_nil _ _ _ _, by repeat (first | with_reducible exact hb | with_reducible refine Below.drew ?_ | with_reducible refine Below.setCell ?_ (by first | omega | (simp <;> omega)) _ | with_reducible refine Below.alloc ?_ (by first | omega | (simp <;> omega)) _)⟩
          · obtain rfl : k = n := by omega
            have HVN : Hid (showCommitS ⟨n1, n2, t1, (VA k).1⟩ ≠ l → V = (zeroCom, false)) := fun h => by rw [HV.out, if_neg (fun q => h q.2.2)]
            have HVY : Hid (showCommitS ⟨n1, n2, t1, (VA k).1⟩ = l → V = (⟨n1, n2, t1, (VA k).1⟩, true)) := fun h => by rw [HV.out, if_pos ⟨hn7, hgk.out, h⟩]
            have HLK := Lib.hid (HLEN.out k)
            have HRD := Lib.hid (own_sreads hown HLK.out.1)
            have HOB := Lib.hid (own_base hown (show w.heap.size ≤ H + 1 by omega))
            have HRN : Hid (∀ q, (Value.slice A k c).ownBlock = some q → q ≠ w.heap.size) := fun q hq => by have := (hown.lt q hq).1; omega
            have HH := Lib.hid hH
            have HR := Lib.hid hR
            obtain ⟨_, c0, c1, c2, c3, hf⟩ := id hH
            have e1 : ¬ H = w.heap.size := by omega
            have e2 : ¬ w.heap.size = H := by omega
            clear hown hA hH hR
            generalize (VA k).1 = T at *
            have hTl := HLK.out.1
            subst hTl
            have hr0 := Below.refl wr.heap.size wr
            have HSH := Lib.hid fun (W : World) (h : Below wr.heap.size wr W) => sShowCommit_any ⟨n1, n2, t1, T⟩ A c W (by simp only; omega) (by simp only; omega) (HRD.out.to h) HLK.out.2
            by_cases hs : showCommitS ⟨n1, n2, t1, T⟩ = l
            · have HV2 := Lib.hid (HVY.out hs)
              rw [hs] at HSH
              go_wp2_with fail
              refine (HSH.out _ hr0).mono ?_
              rintro e wn ⟨rfl, hbn⟩
              have hb := Below.next (w := w) hb hbn
              have hbs := hb.size
              obtain ⟨_, d0, d1, d2, d3, df⟩ := HH.out.next hbn
              obtain ⟨_, r0, r1, r2, r3, rf⟩ := HR.out.next hbn
              have HOW := Lib.hid (own_below HOB.out hbn)
              clear c0 c1 c2 c3 hf
              go_wp2
              refine bodyPost_ret (v := .tuple #[.agg #[.int .i64 (n1 : Int), .int .i64 (n2 : Int), .string (S t1), .slice A T.length c], .bool true]) (by simp [results, Tryd.results17, go_sem, *]) rfl ?_
              rw [HV2.out]
              refine ⟨A, c, rfl, ?_, ?_⟩
              · exact own_set (own_set (own_set (own_set HOW.out HRN.out _ _) HRN.out _ _) HRN.out _ _) HRN.out _ _
              · repeat (first | with_reducible exact hb | with_reducible refine Below.drew ?_ | with_reducible refine Below.setCell ?_ (by first | omega | (simp <;> omega)) _ | with_reducible refine Below.alloc ?_ (by first | omega | (simp <;> omega)) _)
            · have HV2 := Lib.hid (HVN.out hs)
              have hs' : (showCommitS ⟨n1, n2, t1, T⟩ == l) = false := by simpa using hs
              generalize showCommitS ⟨n1, n2, t1, T⟩ = Z at *
              go_wp2_with fail
              refine (HSH.out _ hr0).mono ?_
              rintro e wn ⟨rfl, hbn⟩
              have hb := Below.next (w := w) hb hbn
              have hbs := hb.size
              obtain ⟨_, r0, r1, r2, r3, rf⟩ := HR.out.next hbn
              clear c0 c1 c2 c3 hf
              go_wp2
              refine bodyPost_ret (v := .tuple #[.agg #[.int .i64 0, .int .i64 0, .string ⟨#[]⟩, .slice none 0 0], .bool false]) (by simp [results, Tryd.results17, go_sem, *]) rfl ?_
              rw [HV2.out]
              exact ⟨none, 0, rfl, own_nil _ _ _ _, by repeat (first | with_reducible exact hb | with_reducible refine Below.drew ?_ | with_reducible refine Below.setCell ?_ (by first | omega | (simp <;> omega)) _ | with_reducible refine Below.alloc ?_ (by first | omega | (simp <;> omega)) _)⟩
      · have hn7i : 12 < (n : Int) := by omega
        have HV2 : Hid (V = (zeroCom, false)) := by unfold Hid; rw [HV.out, if_neg (fun q => hn7 q.1)]
        have hb := HB3.out
        obtain ⟨hRl, r0, r1, r2, r3, rf⟩ := id HR3.out
        go_wp2
        refine bodyPost_ret (v := .tuple #[.agg #[.int .i64 0, .int .i64 0, .string ⟨#[]⟩, .slice none 0 0], .bool false]) (by simp [results, Tryd.results17, go_sem, *]) rfl ?_
        rw [HV2.out]
        exact ⟨none, 0, rfl, own_nil _ _ _ _, by repeat (first | with_reducible exact hb | with_reducible refine Below.drew ?_ | with_reducible refine Below.setCell ?_ (by first | omega | (simp <;> omega)) _ | with_reducible refine Below.alloc ?_ (by first | omega | (simp <;> omega)) _)⟩
    · have HV2 := Lib.hid (HB5.out hg5)
      have hb := hb3
      obtain ⟨hRl, r0, r1, r2, r3, rf⟩ := id hR3
      rw [HPB.out _ hg5]
      clear hm4 hR1 hb1 b1 b2 b3
      go_wp2
      refine bodyPost_ret (v := .tuple #[.agg #[.int .i64 0, .int .i64 0, .string ⟨#[]⟩, .slice none 0 0], .bool false]) (by simp [results, Tryd.results17, go_sem, *]) rfl ?_
      rw [HV2.out]
      exact ⟨none, 0, rfl, own_nil _ _ _ _, by repeat (first | with_reducible exact hb | with_reducible refine Below.drew ?_ | with_reducible refine Below.setCell ?_ (by first | omega | (simp <;> omega)) _ | with_reducible refine Below.alloc ?_ (by first | omega | (simp <;> omega)) _)⟩
  · have HV2 := Lib.hid (HB3.out hg3)
    rw [HPB.out _ hg3]
    have hb := hb1
    obtain ⟨hRl, r0, r1, r2, r3, rf⟩ := id hR1
    clear hm b1
    go_wp2
    refine bodyPost_ret (v := .tuple #[.agg #[.int .i64 0, .int .i64 0, .string ⟨#[]⟩, .slice none 0 0], .bool false]) (by simp [results, Tryd.results17, go_sem, *]) rfl ?_
    rw [HV2.out]
    exact ⟨none, 0, rfl, own_nil _ _ _ _, by repeat (first | with_reducible exact hb | with_reducible refine Below.drew ?_ | with_reducible refine Below.setCell ?_ (by first | omega | (simp <;> omega)) _ | with_reducible refine Below.alloc ?_ (by first | omega | (simp <;> omega)) _)⟩
end Go.Proofs.YtecimgkgdpnaeaaDoor
