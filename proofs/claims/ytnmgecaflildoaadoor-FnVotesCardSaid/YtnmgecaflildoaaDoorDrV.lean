/-
  Votes drawn.
-/
import Derived.Test.YtnmgecaflildoaaDoorCur4
import Derived.Test.YtnmgecaflildoaaDoorCur3S
import Derived.Test.YtnmgecaflildoaaDoorSg1
import Derived.Test.YtnmgecaflildoaaDoorDig1
import Derived.Deep.RegionHeld3
import Derived.Deep.RegionWith
namespace Go.Proofs.YtnmgecaflildoaaDoor
open Go.ChangeShapes Go.WideShapes Go.ChangeAt Go.RowKit
set_option linter.unusedVariables false
set_option linter.unusedSimpArgs false
set_option maxRecDepth 100000

/-- Five cells of one block, writable. -/
def H5 (w : World) (b : Nat) (u0 u1 u2 u3 u4 : Value) : Prop := b < w.heap.size ∧ w.cell? ⟨b, 0, none⟩ = some u0 ∧ w.cell? ⟨b, 1, none⟩ = some u1 ∧ w.cell? ⟨b, 2, none⟩ = some u2 ∧ w.cell? ⟨b, 3, none⟩ = some u3 ∧ w.cell? ⟨b, 4, none⟩ = some u4 ∧ ∀ i, w.frozen? ⟨b, i, none⟩ = false
theorem H5.but {w w' : World} {b B : Nat} {u0 u1 u2 u3 u4 : Value} (h : H5 w b u0 u1 u2 u3 u4) (hb : But B w w') (hn : b ≠ B) : H5 w' b u0 u1 u2 u3 u4 := by
  obtain ⟨h1, c0, c1, c2, c3, c4, hf⟩ := h
  exact ⟨Nat.lt_of_lt_of_le h1 hb.size, (hb.cell h1 hn).trans c0, (hb.cell h1 hn).trans c1, (hb.cell h1 hn).trans c2, (hb.cell h1 hn).trans c3, (hb.cell h1 hn).trans c4, fun i => (hb.frozen h1 hn).trans (hf i)⟩
theorem H5.next {w w' : World} {b : Nat} {u0 u1 u2 u3 u4 : Value} (h : H5 w b u0 u1 u2 u3 u4) (hb : Below w.heap.size w w') : H5 w' b u0 u1 u2 u3 u4 := h.but (B := b + 1) (But.of_below hb) (by omega)
theorem H5.alloc {w : World} {b : Nat} {u0 u1 u2 u3 u4 : Value} (h : H5 w b u0 u1 u2 u3 u4) (o : Obj) : H5 (w.alloc o) b u0 u1 u2 u3 u4 := h.next (Below.alloc (Below.refl _ _) (Nat.le_refl _) o)
theorem H5.drew {w : World} {b : Nat} {u0 u1 u2 u3 u4 : Value} (h : H5 w b u0 u1 u2 u3 u4) : H5 w.drew b u0 u1 u2 u3 u4 := h
theorem H5.new (w : World) (t : TypeId) (u0 u1 u2 u3 u4 : Value) : H5 (w.alloc (.cells #[u0, u1, u2, u3, u4] t)) w.heap.size u0 u1 u2 u3 u4 :=
  ⟨by simp, by go_simp, by go_simp, by go_simp, by go_simp, by go_simp, fun i => by go_simp⟩
theorem H5.set {w : World} {b : Nat} {u0 u1 u2 u3 u4 : Value} (h : H5 w b u0 u1 u2 u3 u4) (v : Value) :
    H5 (w.setCell ⟨b, 0, none⟩ v) b v u1 u2 u3 u4 ∧ H5 (w.setCell ⟨b, 1, none⟩ v) b u0 v u2 u3 u4 ∧ H5 (w.setCell ⟨b, 2, none⟩ v) b u0 u1 v u3 u4 ∧ H5 (w.setCell ⟨b, 3, none⟩ v) b u0 u1 u2 v u4 ∧ H5 (w.setCell ⟨b, 4, none⟩ v) b u0 u1 u2 u3 v := by
  obtain ⟨h1, c0, c1, c2, c3, c4, hf⟩ := h
  refine ⟨?_, ?_, ?_, ?_, ?_⟩ <;> exact ⟨by simpa [World.setCell] using h1, by go_simp, by go_simp, by go_simp, by go_simp, by go_simp, fun i => by go_simp⟩

set_option maxHeartbeats 4000000 in
theorem l8Vote_in (B : Nat) (K : Cd) (w : World) (hs : CurX w B K) (hl : K.l.length ≤ 1048576) :
    Calls Tryd.prog 18 #[.pointer (some ⟨B, 0, none⟩)] w fun e w' => ∃ x : VoteT, e = .returned x.val ∧ x.id.length ≤ 9 ∧ CurX w' B K ∧ But B w w' := by
  have HB := hs.lt
  have H2 := Lib.hid fun (W : World) (h : CurX W B K) => below_in B K 2 W h hl (by omega) (by omega)
  have H3 := Lib.hid fun (W : World) (h : CurX W B K) => below_in B K 3 W h hl (by omega) (by omega)
  have H5' := Lib.hid fun (W : World) (h : CurX W B K) => below_in B K 5 W h hl (by omega) (by omega)
  have HO4 := Lib.hid fun (W : World) (h : CurX W B K) => once_in B K 4 W h hl (by omega) (by omega)
  have HO10 := Lib.hid fun (W : World) (h : CurX W B K) => once_in B K 10 W h hl (by omega) (by omega)
  have HT1 := Lib.hid fun (W : World) (h : CurX W B K) => text_in B K 1 W h (by omega) hl
  have HT9 := Lib.hid fun (W : World) (h : CurX W B K) => text_in B K 9 W h (by omega) hl
  have HSH := Lib.hid fun (W : World) (t : List UInt8) (h : t.length ≤ 1) => sShort_any t W (by omega)
  go_enter Tryd.func18, Tryd.ntmps18
  go_wp2_with fail
  have hR := H5.new w 25 (.int .i64 0) (.int .i64 0) (.int .i64 0) (.string ⟨#[]⟩) (.int .i64 0)
  have hc := hs.alloc (.cells #[.int .i64 0, .int .i64 0, .int .i64 0, .string ⟨#[]⟩, .int .i64 0] 25)
  have hb := (But.refl B w).alloc (.cells #[.int .i64 0, .int .i64 0, .int .i64 0, .string ⟨#[]⟩, .int .i64 0] 25)
  generalize w.alloc (.cells #[.int .i64 0, .int .i64 0, .int .i64 0, .string ⟨#[]⟩, .int .i64 0] 25) = W0 at *
  have hRB : w.heap.size ≠ B := by omega
  clear hs
  refine (H3.out _ hc).mono ?_
  rintro e w1 ⟨a1, rfl, ha1, c1, b1⟩
  have hR1 := hR.but b1 hRB
  have hb1 := hb.trans b1
  clear hR hb hc b1
  go_wp2_with fail
  refine (H3.out _ c1).mono ?_
  rintro e w2 ⟨a2, rfl, ha2, c2, b2⟩
  have hR2 := hR1.but b2 hRB
  have hb2 := hb1.trans b2
  clear hR1 hb1 c1 b2
  go_wp2_with fail
  refine (H2.out _ c2).mono ?_
  rintro e w3 ⟨a3, rfl, ha3, c3, b3⟩
  have hR3 := hR2.but b3 hRB
  have hb3 := hb2.trans b3
  clear hR2 hb2 c2 b3
  go_wp2_with fail
  refine (H5'.out _ c3).mono ?_
  rintro e w4 ⟨a4, rfl, ha4, c4, b4⟩
  have hR4 := hR3.but b4 hRB
  have hb4 := hb3.trans b4
  have hz4 := hb4.size
  clear hR3 hb3 c3 b4
  go_wp2_with fail
  have hu0 : IntKind.i64.wrap (1 + (a1 : Int)) = 1 + (a1 : Int) := by rw [IntKind.wrap_i64]; omega
  generalize hU0 : (1 + (a1 : Int)) = u0 at *
  generalize hU1 : (a2 : Int) = u1 at *
  generalize hU2 : (1 + (a3 : Int)) = u2 at *
  generalize hU4 : (1 + (a4 : Int)) = u4 at *
  have hV := H5.new w4 25 (.int .i64 u0) (.int .i64 u1) (.int .i64 u2) (.string ⟨#[]⟩) (.int .i64 u4)
  have hc5 := c4.alloc (.cells #[.int .i64 u0, .int .i64 u1, .int .i64 u2, .string ⟨#[]⟩, .int .i64 u4] 25)
  have hR5 := hR4.alloc (.cells #[.int .i64 u0, .int .i64 u1, .int .i64 u2, .string ⟨#[]⟩, .int .i64 u4] 25)
  have hb5 := hb4.alloc (.cells #[.int .i64 u0, .int .i64 u1, .int .i64 u2, .string ⟨#[]⟩, .int .i64 u4] 25)
  have hVB : w4.heap.size ≠ B := by omega
  have hVR : ¬ w4.heap.size = w.heap.size := by have := hR4.1; omega
  have hVR' : ¬ w.heap.size = w4.heap.size := by omega
  have hVw : w.heap.size ≤ w4.heap.size := by omega
  generalize w4.alloc (.cells #[.int .i64 u0, .int .i64 u1, .int .i64 u2, .string ⟨#[]⟩, .int .i64 u4] 25) = W5 at *
  generalize w4.heap.size = V at *
  clear hR4 hb4 c4 hz4
  refine (HO4.out _ hc5).mono ?_
  rintro e w6 ⟨o, rfl, c6, b6⟩
  have hV6 := hV.but b6 hVB
  have hR6 := hR5.but b6 hRB
  have hb6 := hb5.trans b6
  clear hV hR5 hb5 hc5 b6
  have hI0 : ∃ id : List UInt8, id.length ≤ 9 ∧ H5 w6 V (.int .i64 u0) (.int .i64 u1) (.int .i64 u2) (.string (S id)) (.int .i64 u4) := ⟨[], by simp, hV6⟩
  obtain ⟨id, hid, hV7⟩ := hI0
  clear hV6
  have hR7 := hR6
  have hb7 := hb6
  have c7 := c6
  clear hR6 hb6 c6
  cases o
  · go_wp2_with fail
    refine (HT1.out _ c7).mono ?_
    rintro e wa ⟨t, rfl, ht, ca, ba⟩
    have hVa := hV7.but ba hVB
    have hRa := hR7.but ba hRB
    have hba := hb7.trans ba
    clear hV7 hR7 hb7 c7 ba
    go_wp2_with fail
    refine (HSH.out _ t ht).mono ?_
    rintro e wb ⟨rfl, bb⟩
    have hVb := hVa.next bb
    have hRb := hRa.next bb
    have hbb := hba.next bb
    have cb := ca.next bb
    clear hVa hRa hba ca bb
    have hlen := shortS_len t
    generalize shortS t = id' at *
    have hVc := (hVb.set (.string (S id'))).2.2.2.1
    have hRc := hRb.but (w' := wb.setCell ⟨V, 3, none⟩ (.string (S id'))) (B := V) ((But.refl V wb).set 3 _) (by omega)
    have hbc := hbb.setFar (g := V) (by omega) 3 (.string (S id'))
    have cc := cb.far (g := V) (by omega) 3 (.string (S id'))
    obtain ⟨hVl, v0, v1, v2, v3, v4, vf⟩ := hVb
    clear hRb hbb cb
    go_wp2_with fail
    clear v0 v1 v2 v3 v4 vf hVl hid
    have hid : id'.length ≤ 9 := by omega
    generalize wb.setCell ⟨V, 3, none⟩ (.string (S id')) = W7 at *
    have hV7 := hVc
    have hR7 := hRc
    have hb7 := hbc
    have c7 := cc
    clear hVc hRc hbc cc
    generalize id' = id at *
    refine (HO10.out _ c7).mono ?_
    rintro e w8 ⟨o, rfl, c8, b8⟩
    have hV8 := hV7.but b8 hVB
    have hR8 := hR7.but b8 hRB
    have hb8 := hb7.trans b8
    clear hV7 hR7 hb7 c7 b8
    cases o
    · obtain ⟨hVl, v0, v1, v2, v3, v4, vf⟩ := hV8
      obtain ⟨hRl, r0, r1, r2, r3, r4, rf⟩ := hR8
      go_wp2_with fail
      refine bodyPost_ret (v := .agg #[.int .i64 u0, .int .i64 u1, .int .i64 u2, .string (S id), .int .i64 u4]) (by simp [results, Tryd.results18, go_sem, *]) rfl ⟨⟨u0, u1, u2, id, u4⟩, rfl, by simp only; omega, ?_, ?_⟩
      · (repeat (first | with_reducible exact c8 | with_reducible refine CurX.far ?_ (by omega) _ _))
      · (repeat (first | with_reducible exact hb8 | with_reducible refine But.setFar ?_ (by omega) _ _))
    · go_wp2_with fail
      refine (H5'.out _ c8).mono ?_
      rintro e w9 ⟨q, rfl, hq, c9, b9⟩
      have hV9 := hV8.but b9 hVB
      have hR9 := hR8.but b9 hRB
      have hb9 := hb8.trans b9
      have hz9 := hb9.size
      clear hV8 hR8 hb8 c8 b9
      by_cases hq0 : q = 0
      · subst hq0
        have HP := Lib.hid (pick_in B K [0, 1000001] (w9.alloc (.cells #[.int .i64 0, .int .i64 1000001] 3)) w9.heap.size 2 (c9.alloc _) (by have := c9.lt; omega) (by simp) (by decide) (by decide) hl (lit_ints w9 3 [0, 1000001]))
        have hVA := hV9.alloc (.cells #[.int .i64 0, .int .i64 1000001] 3)
        have hRA := hR9.alloc (.cells #[.int .i64 0, .int .i64 1000001] 3)
        have hbA := hb9.alloc (.cells #[.int .i64 0, .int .i64 1000001] 3)
        clear hV9 hR9 hb9 c9
        go_wp2_with fail
        refine HP.out.mono ?_
        rintro e wA ⟨v, rfl, hv, cA, bA⟩
        obtain ⟨hVl, v0, v1, v2, v3, v4, vf⟩ := hVA.but bA hVB
        obtain ⟨hRl, r0, r1, r2, r3, r4, rf⟩ := hRA.but bA hRB
        have hbB := hbA.trans bA
        clear hVA hRA hbA bA HP hv
        go_wp2_with fail
        refine bodyPost_ret (v := .agg #[.int .i64 v, .int .i64 u1, .int .i64 u2, .string (S id), .int .i64 u4]) (by simp [results, Tryd.results18, go_sem, *]) rfl ⟨⟨v, u1, u2, id, u4⟩, rfl, by simp only; omega, ?_, ?_⟩
        · (repeat (first | with_reducible exact cA | with_reducible refine CurX.far ?_ (by omega) _ _))
        · (repeat (first | with_reducible exact hbB | with_reducible refine But.setFar ?_ (by omega) _ _))
      · have hq0i : ¬ (q : Int) = 0 := by omega
        by_cases hq1 : q = 1
        · subst hq1
          have HP := Lib.hid (pick_in B K [-1, 1000, 1001] (w9.alloc (.cells #[.int .i64 (-1), .int .i64 1000, .int .i64 1001] 3)) w9.heap.size 3 (c9.alloc _) (by have := c9.lt; omega) (by simp) (by decide) (by decide) hl (lit_ints w9 3 [-1, 1000, 1001]))
          have hVA := hV9.alloc (.cells #[.int .i64 (-1), .int .i64 1000, .int .i64 1001] 3)
          have hRA := hR9.alloc (.cells #[.int .i64 (-1), .int .i64 1000, .int .i64 1001] 3)
          have hbA := hb9.alloc (.cells #[.int .i64 (-1), .int .i64 1000, .int .i64 1001] 3)
          clear hV9 hR9 hb9 c9
          go_wp2_with fail
          refine HP.out.mono ?_
          rintro e wA ⟨v, rfl, hv, cA, bA⟩
          obtain ⟨hVl, v0, v1, v2, v3, v4, vf⟩ := hVA.but bA hVB
          obtain ⟨hRl, r0, r1, r2, r3, r4, rf⟩ := hRA.but bA hRB
          have hbB := hbA.trans bA
          clear hVA hRA hbA bA HP hv
          go_wp2_with fail
          refine bodyPost_ret (v := .agg #[.int .i64 u0, .int .i64 v, .int .i64 u2, .string (S id), .int .i64 u4]) (by simp [results, Tryd.results18, go_sem, *]) rfl ⟨⟨u0, v, u2, id, u4⟩, rfl, by simp only; omega, ?_, ?_⟩
          · (repeat (first | with_reducible exact cA | with_reducible refine CurX.far ?_ (by omega) _ _))
          · (repeat (first | with_reducible exact hbB | with_reducible refine But.setFar ?_ (by omega) _ _))
        · have hq1i : ¬ (q : Int) = 1 := by omega
          by_cases hq2 : q = 2
          · subst hq2
            have HP := Lib.hid (pick_in B K [0, 3] (w9.alloc (.cells #[.int .i64 0, .int .i64 3] 3)) w9.heap.size 2 (c9.alloc _) (by have := c9.lt; omega) (by simp) (by decide) (by decide) hl (lit_ints w9 3 [0, 3]))
            have hVA := hV9.alloc (.cells #[.int .i64 0, .int .i64 3] 3)
            have hRA := hR9.alloc (.cells #[.int .i64 0, .int .i64 3] 3)
            have hbA := hb9.alloc (.cells #[.int .i64 0, .int .i64 3] 3)
            clear hV9 hR9 hb9 c9
            go_wp2_with fail
            refine HP.out.mono ?_
            rintro e wA ⟨v, rfl, hv, cA, bA⟩
            obtain ⟨hVl, v0, v1, v2, v3, v4, vf⟩ := hVA.but bA hVB
            obtain ⟨hRl, r0, r1, r2, r3, r4, rf⟩ := hRA.but bA hRB
            have hbB := hbA.trans bA
            clear hVA hRA hbA bA HP hv
            go_wp2_with fail
            refine bodyPost_ret (v := .agg #[.int .i64 u0, .int .i64 u1, .int .i64 v, .string (S id), .int .i64 u4]) (by simp [results, Tryd.results18, go_sem, *]) rfl ⟨⟨u0, u1, v, id, u4⟩, rfl, by simp only; omega, ?_, ?_⟩
            · (repeat (first | with_reducible exact cA | with_reducible refine CurX.far ?_ (by omega) _ _))
            · (repeat (first | with_reducible exact hbB | with_reducible refine But.setFar ?_ (by omega) _ _))
          · have hq2i : ¬ (q : Int) = 2 := by omega
            by_cases hq3 : q = 3
            · subst hq3
              go_wp2_with fail
              refine (HT9.out _ c9).mono ?_
              rintro e wA ⟨t, rfl, ht, cA, bA⟩
              obtain ⟨hVl, v0, v1, v2, v3, v4, vf⟩ := hV9.but bA hVB
              obtain ⟨hRl, r0, r1, r2, r3, r4, rf⟩ := hR9.but bA hRB
              have hbB := hb9.trans bA
              clear hV9 hR9 hb9 c9 bA
              go_wp2_with fail
              refine bodyPost_ret (v := .agg #[.int .i64 u0, .int .i64 u1, .int .i64 u2, .string (S t), .int .i64 u4]) (by simp [results, Tryd.results18, go_sem, *]) rfl ⟨⟨u0, u1, u2, t, u4⟩, rfl, by simp only; omega, ?_, ?_⟩
              · (repeat (first | with_reducible exact cA | with_reducible refine CurX.far ?_ (by omega) _ _))
              · (repeat (first | with_reducible exact hbB | with_reducible refine But.setFar ?_ (by omega) _ _))
            · have hq3i : ¬ (q : Int) = 3 := by omega
              have HP := Lib.hid (pick_in B K [0, 99, 100] (w9.alloc (.cells #[.int .i64 0, .int .i64 99, .int .i64 100] 3)) w9.heap.size 3 (c9.alloc _) (by have := c9.lt; omega) (by simp) (by decide) (by decide) hl (lit_ints w9 3 [0, 99, 100]))
              have hVA := hV9.alloc (.cells #[.int .i64 0, .int .i64 99, .int .i64 100] 3)
              have hRA := hR9.alloc (.cells #[.int .i64 0, .int .i64 99, .int .i64 100] 3)
              have hbA := hb9.alloc (.cells #[.int .i64 0, .int .i64 99, .int .i64 100] 3)
              clear hV9 hR9 hb9 c9
              go_wp2_with fail
              refine HP.out.mono ?_
              rintro e wA ⟨v, rfl, hv, cA, bA⟩
              obtain ⟨hVl, v0, v1, v2, v3, v4, vf⟩ := hVA.but bA hVB
              obtain ⟨hRl, r0, r1, r2, r3, r4, rf⟩ := hRA.but bA hRB
              have hbB := hbA.trans bA
              clear hVA hRA hbA bA HP hv
              go_wp2_with fail
              refine bodyPost_ret (v := .agg #[.int .i64 u0, .int .i64 u1, .int .i64 u2, .string (S id), .int .i64 v]) (by simp [results, Tryd.results18, go_sem, *]) rfl ⟨⟨u0, u1, u2, id, v⟩, rfl, by simp only; omega, ?_, ?_⟩
              · (repeat (first | with_reducible exact cA | with_reducible refine CurX.far ?_ (by omega) _ _))
              · (repeat (first | with_reducible exact hbB | with_reducible refine But.setFar ?_ (by omega) _ _))
  · go_wp2_with fail
    refine (HO10.out _ c7).mono ?_
    rintro e w8 ⟨o, rfl, c8, b8⟩
    have hV8 := hV7.but b8 hVB
    have hR8 := hR7.but b8 hRB
    have hb8 := hb7.trans b8
    clear hV7 hR7 hb7 c7 b8
    cases o
    · obtain ⟨hVl, v0, v1, v2, v3, v4, vf⟩ := hV8
      obtain ⟨hRl, r0, r1, r2, r3, r4, rf⟩ := hR8
      go_wp2_with fail
      refine bodyPost_ret (v := .agg #[.int .i64 u0, .int .i64 u1, .int .i64 u2, .string (S id), .int .i64 u4]) (by simp [results, Tryd.results18, go_sem, *]) rfl ⟨⟨u0, u1, u2, id, u4⟩, rfl, by simp only; omega, ?_, ?_⟩
      · (repeat (first | with_reducible exact c8 | with_reducible refine CurX.far ?_ (by omega) _ _))
      · (repeat (first | with_reducible exact hb8 | with_reducible refine But.setFar ?_ (by omega) _ _))
    · go_wp2_with fail
      refine (H5'.out _ c8).mono ?_
      rintro e w9 ⟨q, rfl, hq, c9, b9⟩
      have hV9 := hV8.but b9 hVB
      have hR9 := hR8.but b9 hRB
      have hb9 := hb8.trans b9
      have hz9 := hb9.size
      clear hV8 hR8 hb8 c8 b9
      by_cases hq0 : q = 0
      · subst hq0
        have HP := Lib.hid (pick_in B K [0, 1000001] (w9.alloc (.cells #[.int .i64 0, .int .i64 1000001] 3)) w9.heap.size 2 (c9.alloc _) (by have := c9.lt; omega) (by simp) (by decide) (by decide) hl (lit_ints w9 3 [0, 1000001]))
        have hVA := hV9.alloc (.cells #[.int .i64 0, .int .i64 1000001] 3)
        have hRA := hR9.alloc (.cells #[.int .i64 0, .int .i64 1000001] 3)
        have hbA := hb9.alloc (.cells #[.int .i64 0, .int .i64 1000001] 3)
        clear hV9 hR9 hb9 c9
        go_wp2_with fail
        refine HP.out.mono ?_
        rintro e wA ⟨v, rfl, hv, cA, bA⟩
        obtain ⟨hVl, v0, v1, v2, v3, v4, vf⟩ := hVA.but bA hVB
        obtain ⟨hRl, r0, r1, r2, r3, r4, rf⟩ := hRA.but bA hRB
        have hbB := hbA.trans bA
        clear hVA hRA hbA bA HP hv
        go_wp2_with fail
        refine bodyPost_ret (v := .agg #[.int .i64 v, .int .i64 u1, .int .i64 u2, .string (S id), .int .i64 u4]) (by simp [results, Tryd.results18, go_sem, *]) rfl ⟨⟨v, u1, u2, id, u4⟩, rfl, by simp only; omega, ?_, ?_⟩
        · (repeat (first | with_reducible exact cA | with_reducible refine CurX.far ?_ (by omega) _ _))
        · (repeat (first | with_reducible exact hbB | with_reducible refine But.setFar ?_ (by omega) _ _))
      · have hq0i : ¬ (q : Int) = 0 := by omega
        by_cases hq1 : q = 1
        · subst hq1
          have HP := Lib.hid (pick_in B K [-1, 1000, 1001] (w9.alloc (.cells #[.int .i64 (-1), .int .i64 1000, .int .i64 1001] 3)) w9.heap.size 3 (c9.alloc _) (by have := c9.lt; omega) (by simp) (by decide) (by decide) hl (lit_ints w9 3 [-1, 1000, 1001]))
          have hVA := hV9.alloc (.cells #[.int .i64 (-1), .int .i64 1000, .int .i64 1001] 3)
          have hRA := hR9.alloc (.cells #[.int .i64 (-1), .int .i64 1000, .int .i64 1001] 3)
          have hbA := hb9.alloc (.cells #[.int .i64 (-1), .int .i64 1000, .int .i64 1001] 3)
          clear hV9 hR9 hb9 c9
          go_wp2_with fail
          refine HP.out.mono ?_
          rintro e wA ⟨v, rfl, hv, cA, bA⟩
          obtain ⟨hVl, v0, v1, v2, v3, v4, vf⟩ := hVA.but bA hVB
          obtain ⟨hRl, r0, r1, r2, r3, r4, rf⟩ := hRA.but bA hRB
          have hbB := hbA.trans bA
          clear hVA hRA hbA bA HP hv
          go_wp2_with fail
          refine bodyPost_ret (v := .agg #[.int .i64 u0, .int .i64 v, .int .i64 u2, .string (S id), .int .i64 u4]) (by simp [results, Tryd.results18, go_sem, *]) rfl ⟨⟨u0, v, u2, id, u4⟩, rfl, by simp only; omega, ?_, ?_⟩
          · (repeat (first | with_reducible exact cA | with_reducible refine CurX.far ?_ (by omega) _ _))
          · (repeat (first | with_reducible exact hbB | with_reducible refine But.setFar ?_ (by omega) _ _))
        · have hq1i : ¬ (q : Int) = 1 := by omega
          by_cases hq2 : q = 2
          · subst hq2
            have HP := Lib.hid (pick_in B K [0, 3] (w9.alloc (.cells #[.int .i64 0, .int .i64 3] 3)) w9.heap.size 2 (c9.alloc _) (by have := c9.lt; omega) (by simp) (by decide) (by decide) hl (lit_ints w9 3 [0, 3]))
            have hVA := hV9.alloc (.cells #[.int .i64 0, .int .i64 3] 3)
            have hRA := hR9.alloc (.cells #[.int .i64 0, .int .i64 3] 3)
            have hbA := hb9.alloc (.cells #[.int .i64 0, .int .i64 3] 3)
            clear hV9 hR9 hb9 c9
            go_wp2_with fail
            refine HP.out.mono ?_
            rintro e wA ⟨v, rfl, hv, cA, bA⟩
            obtain ⟨hVl, v0, v1, v2, v3, v4, vf⟩ := hVA.but bA hVB
            obtain ⟨hRl, r0, r1, r2, r3, r4, rf⟩ := hRA.but bA hRB
            have hbB := hbA.trans bA
            clear hVA hRA hbA bA HP hv
            go_wp2_with fail
            refine bodyPost_ret (v := .agg #[.int .i64 u0, .int .i64 u1, .int .i64 v, .string (S id), .int .i64 u4]) (by simp [results, Tryd.results18, go_sem, *]) rfl ⟨⟨u0, u1, v, id, u4⟩, rfl, by simp only; omega, ?_, ?_⟩
            · (repeat (first | with_reducible exact cA | with_reducible refine CurX.far ?_ (by omega) _ _))
            · (repeat (first | with_reducible exact hbB | with_reducible refine But.setFar ?_ (by omega) _ _))
          · have hq2i : ¬ (q : Int) = 2 := by omega
            by_cases hq3 : q = 3
            · subst hq3
              go_wp2_with fail
              refine (HT9.out _ c9).mono ?_
              rintro e wA ⟨t, rfl, ht, cA, bA⟩
              obtain ⟨hVl, v0, v1, v2, v3, v4, vf⟩ := hV9.but bA hVB
              obtain ⟨hRl, r0, r1, r2, r3, r4, rf⟩ := hR9.but bA hRB
              have hbB := hb9.trans bA
              clear hV9 hR9 hb9 c9 bA
              go_wp2_with fail
              refine bodyPost_ret (v := .agg #[.int .i64 u0, .int .i64 u1, .int .i64 u2, .string (S t), .int .i64 u4]) (by simp [results, Tryd.results18, go_sem, *]) rfl ⟨⟨u0, u1, u2, t, u4⟩, rfl, by simp only; omega, ?_, ?_⟩
              · (repeat (first | with_reducible exact cA | with_reducible refine CurX.far ?_ (by omega) _ _))
              · (repeat (first | with_reducible exact hbB | with_reducible refine But.setFar ?_ (by omega) _ _))
            · have hq3i : ¬ (q : Int) = 3 := by omega
              have HP := Lib.hid (pick_in B K [0, 99, 100] (w9.alloc (.cells #[.int .i64 0, .int .i64 99, .int .i64 100] 3)) w9.heap.size 3 (c9.alloc _) (by have := c9.lt; omega) (by simp) (by decide) (by decide) hl (lit_ints w9 3 [0, 99, 100]))
              have hVA := hV9.alloc (.cells #[.int .i64 0, .int .i64 99, .int .i64 100] 3)
              have hRA := hR9.alloc (.cells #[.int .i64 0, .int .i64 99, .int .i64 100] 3)
              have hbA := hb9.alloc (.cells #[.int .i64 0, .int .i64 99, .int .i64 100] 3)
              clear hV9 hR9 hb9 c9
              go_wp2_with fail
              refine HP.out.mono ?_
              rintro e wA ⟨v, rfl, hv, cA, bA⟩
              obtain ⟨hVl, v0, v1, v2, v3, v4, vf⟩ := hVA.but bA hVB
              obtain ⟨hRl, r0, r1, r2, r3, r4, rf⟩ := hRA.but bA hRB
              have hbB := hbA.trans bA
              clear hVA hRA hbA bA HP hv
              go_wp2_with fail
              refine bodyPost_ret (v := .agg #[.int .i64 u0, .int .i64 u1, .int .i64 u2, .string (S id), .int .i64 v]) (by simp [results, Tryd.results18, go_sem, *]) rfl ⟨⟨u0, u1, u2, id, v⟩, rfl, by simp only; omega, ?_, ?_⟩
              · (repeat (first | with_reducible exact cA | with_reducible refine CurX.far ?_ (by omega) _ _))
              · (repeat (first | with_reducible exact hbB | with_reducible refine But.setFar ?_ (by omega) _ _))
end Go.Proofs.YtnmgecaflildoaaDoor
