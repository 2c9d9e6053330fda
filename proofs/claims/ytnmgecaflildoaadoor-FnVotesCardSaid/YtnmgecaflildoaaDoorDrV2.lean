/-
  Signed votes drawn.
-/
import Derived.Test.YtnmgecaflildoaaDoorDrV
import Derived.Test.YtnmgecaflildoaaDoorSig1
namespace Go.Proofs.YtnmgecaflildoaaDoor
open Go.ChangeShapes Go.WideShapes Go.ChangeAt Go.RowKit
set_option linter.unusedVariables false
set_option linter.unusedSimpArgs false
set_option maxRecDepth 100000

theorem spoil_in (B : Nat) (K : Cd) (t : List UInt8) (w : World) (hs : CurX w B K) (ht : t.length ≤ 1000) (hl : K.l.length ≤ 1048576) :
    Calls Tryd.prog 22 #[.pointer (some ⟨B, 0, none⟩), .string (S t)] w fun e w' => ∃ t' : List UInt8, e = .returned (.string (S t')) ∧ t'.length ≤ 1001 ∧ CurX w' B K ∧ But B w w' := by
  obtain ⟨s, hs⟩ := hs
  obtain ⟨v, s1, hv, H⟩ := spoil_ex K s t ht hl
  refine (H w B hs).mono ?_
  rintro e w' ⟨rfl, h1, h2⟩
  exact ⟨_, rfl, hv, ⟨_, h1⟩, h2⟩
theorem l8Vote_flat (B : Nat) (K : Cd) (w : World) (hs : CurX w B K) (hl : K.l.length ≤ 1048576) :
    Calls Tryd.prog 18 #[.pointer (some ⟨B, 0, none⟩)] w fun e w' => ∃ (h r s : Int) (id : List UInt8) (v : Int) (d g : List UInt8), e = .returned (.agg #[.int .i64 h, .int .i64 r, .int .i64 s, .string (S id), .int .i64 v]) ∧ id.length ≤ 9 ∧ CurX w' B K ∧ But B w w' ∧ d.length ≤ 60 ∧ g.length ≤ 8 ∧
      Hid (∀ W, Calls Tryd.prog 20 #[.agg #[.int .i64 h, .int .i64 r, .int .i64 s, .string (S id), .int .i64 v]] W fun e w' => e = .returned (.string (S d)) ∧ Below W.heap.size W w') ∧
      Hid (∀ W, Calls Tryd.prog 19 #[.int .i64 v, .string (S d)] W fun e w' => e = .returned (.string (S g)) ∧ Below W.heap.size W w') := by
  refine (l8Vote_in B K w hs hl).mono ?_
  rintro e w' ⟨⟨h, r, s, id, v⟩, rfl, h1, h2, h3⟩
  have hd : (digestS ⟨h, r, s, id, v⟩).length ≤ 60 := digestS_len _
  exact ⟨h, r, s, id, v, digestS ⟨h, r, s, id, v⟩, signAsS v (digestS ⟨h, r, s, id, v⟩), rfl, h1, h2, h3, hd, signAsS_len _ _, fun W => sDigest_any ⟨h, r, s, id, v⟩ W (by simp only at h1 ⊢; omega), fun W => sSignAs_any v _ W (by omega)⟩
theorem ds_keep {w cur wm : World} {B V : Nat} {K : Cd} {z0 z1 z2 z3 z4 u0 u1 u2 u3 u4 : Value}
    (H : (CurX cur B K ∧ Below w.heap.size w cur ∧ H5 cur w.heap.size z0 z1 z2 z3 z4 ∧ H5 cur V u0 u1 u2 u3 u4) ∧ V < cur.heap.size ∧ cur.cell? ⟨V, 0, none⟩ = some u0 ∧ cur.cell? ⟨V, 1, none⟩ = some u1 ∧ cur.cell? ⟨V, 2, none⟩ = some u2 ∧ cur.cell? ⟨V, 3, none⟩ = some u3 ∧ cur.cell? ⟨V, 4, none⟩ = some u4) (hb : Below cur.heap.size cur wm) :
    (CurX wm B K ∧ Below w.heap.size w wm ∧ H5 wm w.heap.size z0 z1 z2 z3 z4 ∧ H5 wm V u0 u1 u2 u3 u4) ∧ V < wm.heap.size ∧ wm.cell? ⟨V, 0, none⟩ = some u0 ∧ wm.cell? ⟨V, 1, none⟩ = some u1 ∧ wm.cell? ⟨V, 2, none⟩ = some u2 ∧ wm.cell? ⟨V, 3, none⟩ = some u3 ∧ wm.cell? ⟨V, 4, none⟩ = some u4 := by
  obtain ⟨⟨h1, h2, h3, h4⟩, _⟩ := H
  have h5 := h4.next hb
  exact ⟨⟨h1.next hb, Below.next h2 hb, h3.next hb, h5⟩, h5.1, h5.2.1, h5.2.2.1, h5.2.2.2.1, h5.2.2.2.2.1, h5.2.2.2.2.2.1⟩
set_option maxHeartbeats 1000000 in
theorem drawSigned_in (K : Cd) (w : World) (hl : K.l.length ≤ 1048576) (hR : BReads w w.heap.size K.A K.l) :
    Calls Tryd.prog 6 #[.slice K.A K.l.length K.c] w fun e w' => ∃ (h r s : Int) (id : List UInt8) (v : Int) (sg : List UInt8), e = .returned (.tuple #[.agg #[.int .i64 h, .int .i64 r, .int .i64 s, .string (S id), .int .i64 v], .string (S sg)]) ∧ id.length ≤ 9 ∧ sg.length ≤ 1001 ∧ Below w.heap.size w w' := by
  have hR0 := H5.new w 25 (.int .i64 0) (.int .i64 0) (.int .i64 0) (.string ⟨#[]⟩) (.int .i64 0)
  have hb0 := (Below.refl w.heap.size w).alloc (Nat.le_refl _) (.cells #[.int .i64 0, .int .i64 0, .int .i64 0, .string ⟨#[]⟩, .int .i64 0] 25)
  have HN := Lib.hid fun (W : World) (h : Below w.heap.size w W) => new_in K W hl ((hR.below h (Nat.le_refl _)).more h.size)
  have HV8 := Lib.hid fun (B : Nat) (W : World) (h : CurX W B K) => l8Vote_flat B K W h hl
  have H4 := Lib.hid fun (B : Nat) (W : World) (h : CurX W B K) => below_in B K 4 W h hl (by omega) (by omega)
  have HSP := Lib.hid fun (B : Nat) (W : World) (t : List UInt8) (h : CurX W B K) (h2 : t.length ≤ 1000) => spoil_in B K t W h h2 hl
  clear hR
  go_enter Tryd.func6, Tryd.ntmps6
  go_wp2_with fail
  generalize hW0 : w.alloc (.cells #[.int .i64 0, .int .i64 0, .int .i64 0, .string ⟨#[]⟩, .int .i64 0] 25) = W0 at *
  have hz0 : W0.heap.size = w.heap.size + 1 := by rw [← hW0]; simp
  refine (HN.out _ hb0).mono ?_
  rintro e w1 ⟨rfl, c1, b1⟩
  have hR1 := hR0.next b1
  have hb1 := Below.next hb0 b1
  have hz1 := c1.lt
  rw [hz0] at c1 hz1 ⊢
  clear hR0 hb0 b1 HN hW0 hz0 W0
  generalize hB : w.heap.size + 1 = B at *
  go_wp2_with fail
  refine (HV8.out B _ c1).mono ?_
  rintro e w2 ⟨h, r, s, id, v, d, g, rfl, hid, c2, b2, hd, hg, HD, HS⟩
  have hR2 := hR1.but b2 (by omega)
  have hb2 := Below.trans hb1 (b2.below (by omega) hb1.size)
  have hz2 := hb2.size
  clear hR1 hb1 c1 b2 hz1
  go_wp2_with fail
  have hV := H5.new w2 25 (.int .i64 h) (.int .i64 r) (.int .i64 s) (.string (S id)) (.int .i64 v)
  have c3 := c2.alloc (.cells #[.int .i64 h, .int .i64 r, .int .i64 s, .string (S id), .int .i64 v] 25)
  have hR3 := hR2.alloc (.cells #[.int .i64 h, .int .i64 r, .int .i64 s, .string (S id), .int .i64 v] 25)
  have hb3 := hb2.alloc hz2 (.cells #[.int .i64 h, .int .i64 r, .int .i64 s, .string (S id), .int .i64 v] 25)
  have hzw : (w2.alloc (.cells #[.int .i64 h, .int .i64 r, .int .i64 s, .string (S id), .int .i64 v] 25)).heap.size = w2.heap.size + 1 := by simp
  have hVB : B < w2.heap.size := c2.lt
  generalize w2.alloc (.cells #[.int .i64 h, .int .i64 r, .int .i64 s, .string (S id), .int .i64 v] 25) = W3 at *
  generalize w2.heap.size = V at *
  clear hR2 hb2 c2
  have hA : (CurX W3.drew B K ∧ Below w.heap.size w W3.drew ∧ H5 W3.drew w.heap.size (.int .i64 0) (.int .i64 0) (.int .i64 0) (.string ⟨#[]⟩) (.int .i64 0) ∧ H5 W3.drew V (.int .i64 h) (.int .i64 r) (.int .i64 s) (.string (S id)) (.int .i64 v)) := ⟨c3.drew, hb3.drew, hR3.drew, hV.drew⟩
  obtain ⟨hVl, v0, v1, v2, v3, v4, vf⟩ := hV
  clear c3 hb3 hR3
  go_region_held3 (fun w' => (CurX w' B K ∧ Below w.heap.size w w' ∧ H5 w' w.heap.size (.int .i64 0) (.int .i64 0) (.int .i64 0) (.string ⟨#[]⟩) (.int .i64 0) ∧ H5 w' V (.int .i64 h) (.int .i64 r) (.int .i64 s) (.string (S id)) (.int .i64 v)) ∧ V < w'.heap.size ∧ w'.cell? ⟨V, 0, none⟩ = some (.int .i64 h) ∧ w'.cell? ⟨V, 1, none⟩ = some (.int .i64 r) ∧ w'.cell? ⟨V, 2, none⟩ = some (.int .i64 s) ∧ w'.cell? ⟨V, 3, none⟩ = some (.string (S id)) ∧ w'.cell? ⟨V, 4, none⟩ = some (.int .i64 v)) (first | exact ⟨hA, hVl, v0, v1, v2, v3, v4⟩ | exact ds_keep (by assumption) hbm | go_keep)
    (first | (go_at_call 20; refine (HD.out _).mono ?_; rintro e wm ⟨rfl, hbm⟩) | (go_at_call 19; refine (HS.out _).mono ?_; rintro e wm ⟨rfl, hbm⟩))
  all_goals
    rename_i hH
    obtain ⟨⟨c4, hb4, hR4, hV4⟩, _⟩ := hH
    clear hA hVl v0 v1 v2 v3 v4 vf HD HS
    go_wp2_with fail
    refine (H4.out _ _ c4).mono ?_
    rintro e w5 ⟨q, rfl, hq, c5, b5⟩
    have hR5 := hR4.but b5 (by omega)
    have hV5 := hV4.but b5 (by omega)
    have hb5 := Below.trans hb4 (b5.below (by omega) hb4.size)
    have hRB : ¬ w.heap.size = B := by omega
    have hVBn : ¬ V = B := by omega
    have hVR : ¬ V = w.heap.size := by omega
    have hVR' : ¬ w.heap.size = V := by omega
    clear hR4 hV4 hb4 c4 b5 hbm
    by_cases hq0 : q = 0
    · subst hq0
      have hg2 : g.length ≤ 1000 := by omega
      have hV5' := hV5
      have hR5' := hR5
      obtain ⟨hVl, v0, v1, v2, v3, v4, vf⟩ := hV5'
      obtain ⟨hRl, r0, r1, r2, r3, r4, rf⟩ := hR5'
      go_wp2_with fail
      go_region_with (first | (go_at_call 22; refine (HSP.out _ _ _ (by first | exact c5 | exact c5.drew) hg2).mono ?_; rintro e w6 ⟨t', rfl, ht', c6, b6⟩; have b6' : But B w5 w6 := ((But.refl B w5).drew.trans b6); obtain ⟨hVl6, y0, y1, y2, y3, y4, yf⟩ := hV5.but b6' hVBn; obtain ⟨hRl6, z0, z1, z2, z3, z4, zf⟩ := hR5.but b6' hRB; have hb6 := Below.trans hb5 (b6'.below (by omega) hb5.size)))
      all_goals
        go_wp2_with fail
        refine bodyPost_ret (v := .tuple #[.agg #[.int .i64 h, .int .i64 r, .int .i64 s, .string (S id), .int .i64 v], .string (S t')]) (by simp [results, Tryd.results6, go_sem, *]) rfl ⟨h, r, s, id, v, t', rfl, hid, by omega, ?_⟩
        (repeat (first | with_reducible exact hb6 | with_reducible refine Below.drew ?_ | with_reducible refine Below.setCell ?_ (by first | omega | (simp <;> omega)) _ | with_reducible refine Below.alloc ?_ (by first | omega | (simp <;> omega)) _))
    · have hq0i : ¬ (q : Int) = 0 := by omega
      by_cases hq1 : q = 1
      · subst hq1
        go_wp2_with fail
        refine (HV8.out B _ c5).mono ?_
        rintro e w6 ⟨h', r', s', id', v', d', g', rfl, hid', c6, b6, hd', hg', HD', HS'⟩
        obtain ⟨hRl6, z0, z1, z2, z3, z4, zf⟩ := hR5.but b6 hRB
        have hb6 := Below.trans hb5 (b6.below (by omega) hb5.size)
        clear HD' HS'
        go_wp2_with fail
        refine bodyPost_ret (v := .tuple #[.agg #[.int .i64 h', .int .i64 r', .int .i64 s', .string (S id'), .int .i64 v'], .string (S g)]) (by simp [results, Tryd.results6, go_sem, *]) rfl ⟨h', r', s', id', v', g, rfl, hid', by omega, ?_⟩
        (repeat (first | with_reducible exact hb6 | with_reducible refine Below.drew ?_ | with_reducible refine Below.setCell ?_ (by first | omega | (simp <;> omega)) _ | with_reducible refine Below.alloc ?_ (by first | omega | (simp <;> omega)) _))
      · have hq1i : ¬ (q : Int) = 1 := by omega
        obtain ⟨hVl, v0, v1, v2, v3, v4, vf⟩ := hV5
        obtain ⟨hRl, r0, r1, r2, r3, r4, rf⟩ := hR5
        go_wp2_with fail
        refine bodyPost_ret (v := .tuple #[.agg #[.int .i64 h, .int .i64 r, .int .i64 s, .string (S id), .int .i64 v], .string (S g)]) (by simp [results, Tryd.results6, go_sem, *]) rfl ⟨h, r, s, id, v, g, rfl, hid, by omega, ?_⟩
        (repeat (first | with_reducible exact hb5 | with_reducible refine Below.drew ?_ | with_reducible refine Below.setCell ?_ (by first | omega | (simp <;> omega)) _ | with_reducible refine Below.alloc ?_ (by first | omega | (simp <;> omega)) _))
end Go.Proofs.YtnmgecaflildoaaDoor
