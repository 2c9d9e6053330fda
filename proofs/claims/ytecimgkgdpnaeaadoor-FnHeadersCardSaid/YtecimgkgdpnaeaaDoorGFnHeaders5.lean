/-
  Texts of this proof, laid into one: Frame, Val1, Vote1, Head1.
-/
import Derived.Deep.Slices
import Derived.Deep.Fields
import Derived.Lib.SmallJoins
import Derived.OpenShut
import Derived.ShutString
import Derived.ChangeOld
import Derived.Below
import Derived.Test.YtecimgkgdpnaeaaDoorGFnHeaders4
import Derived.Test.YtecimgkgdpnaeaaDoorGFnHeaders1
/-
  What the frames of the laws share: the set-up's closed facts; arguments opened.
-/
namespace Go.Proofs.YtecimgkgdpnaeaaDoor
open Go.ChangeShapes Go.WideShapes Go.ChangeAt Go.RowKit
set_option linter.unusedVariables false
open Go.ChangeMaps (open_string shut_string)

theorem own : ownKnob Tryd.prog.godebug = none := by kernel_rfl
theorem laidOut : laidOutB Tryd.prog = true := by kernel_rfl
theorem wf_hi {a : Int} (h : (Lit.int .i64 a).wf = true) : a ≤ 9223372036854775807 := by
  simp only [Lit.wf, Bool.and_eq_true, decide_eq_true_eq] at h; exact h.2
theorem wf_lo {a : Int} (h : (Lit.int .i64 a).wf = true) : -9223372036854775808 ≤ a := by
  simp only [Lit.wf, Bool.and_eq_true, decide_eq_true_eq] at h; exact h.1
theorem S_ex (b : ByteArray) : ∃ l, b = S l := ⟨_, S_of b⟩
theorem str_len {l : List UInt8} (h : (S l).size ≤ maxLen) : l.length ≤ 9223372036854775807 := by simpa [maxLen] using h
section
open Go.Joins Go.Deep
variable {H : Type} {enc : TypeId × Value → H} {P : Program} {w : World} {base : Nat} {spare : Nat → Bool} {held : Bool}
theorem cell_int {ft : TypeId} {n : Nat} {c : Value} {y : DataW H × List MemPlace} (hu : P.underlying ft = some (.int .i64)) (h : DataW.trod enc P w base spare held n ft [c] = some y) : ∃ a, c = .int .i64 a ∧ -9223372036854775808 ≤ a ∧ a ≤ 9223372036854775807 := by
  obtain ⟨a, e, _, hw⟩ := DataW.trod_int hu h
  simp at e
  exact ⟨a, e, wf_lo hw, wf_hi hw⟩
theorem cell_string {ft : TypeId} {n : Nat} {c : Value} {y : DataW H × List MemPlace} (hu : P.underlying ft = some .string) (h : DataW.trod enc P w base spare held n ft [c] = some y) : ∃ l : List UInt8, c = .string (S l) ∧ l.length ≤ 9223372036854775807 := by
  obtain ⟨a, e, _, hs⟩ := DataW.trod_string hu h
  simp at e
  have el : a.data.toList.length = a.size := Array.length_toList
  unfold maxLen at hs
  exact ⟨a.data.toList, by rw [e, ← S_of], by omega⟩

theorem in_vote {r : Reach} {b0 : Nat} {t : TypeId} {f0 f1 f2 f3 f4 : Field} {v : Value} {d : DataW H} {p : List MemPlace} (hs : P.underlying t = some (.struct #[f0, f1, f2, f3, f4])) (u0 : P.underlying f0.type = some (.int .i64)) (u1 : P.underlying f1.type = some (.int .i64)) (u2 : P.underlying f2.type = some (.int .i64)) (u3 : P.underlying f3.type = some .string) (u4 : P.underlying f4.type = some (.int .i64)) (hone : oneCellFields P #[f0, f1, f2, f3, f4] = true) (hC : P.cellsOf t = 5)
    (hv : Value.okWide P w r b0 t v) (h : DataW.Trod enc P w base spare held t v d p) : ∃ x : VoteT, v = x.val ∧ x.ok := by
  obtain ⟨cs, rfl, hsz⟩ := okWide_struct hs hv
  obtain ⟨l⟩ := cs
  match l, hsz.trans hC with
  | [c0, c1, c2, c3, c4], _ =>
    obtain ⟨fuel, hf⟩ := h
    obtain ⟨xs, n, _, hx, _, hlen, hg⟩ := DataW.trod_struct hs hf
    obtain ⟨o0, k0⟩ := hone_of hone 0 f0 rfl
    obtain ⟨o1, k1⟩ := hone_of hone 1 f1 rfl
    obtain ⟨o2, k2⟩ := hone_of hone 2 f2 rfl
    obtain ⟨o3, k3⟩ := hone_of hone 3 f3 rfl
    obtain ⟨o4, k4⟩ := hone_of hone 4 f4 rfl
    match xs, hlen with
    | [y0, y1, y2, y3, y4], _ =>
      have e0 : DataW.trod enc P w base spare held n f0.type [c0] = some y0 := by simpa [Value.cells, o0, k0] using hg 0 f0 rfl
      have e1 : DataW.trod enc P w base spare held n f1.type [c1] = some y1 := by simpa [Value.cells, o1, k1] using hg 1 f1 rfl
      have e2 : DataW.trod enc P w base spare held n f2.type [c2] = some y2 := by simpa [Value.cells, o2, k2] using hg 2 f2 rfl
      have e3 : DataW.trod enc P w base spare held n f3.type [c3] = some y3 := by simpa [Value.cells, o3, k3] using hg 3 f3 rfl
      have e4 : DataW.trod enc P w base spare held n f4.type [c4] = some y4 := by simpa [Value.cells, o4, k4] using hg 4 f4 rfl
      obtain ⟨a0, rfl, l0, m0⟩ := cell_int u0 e0
      obtain ⟨a1, rfl, l1, m1⟩ := cell_int u1 e1
      obtain ⟨a2, rfl, l2, m2⟩ := cell_int u2 e2
      obtain ⟨a3, rfl, l3⟩ := cell_string u3 e3
      obtain ⟨a4, rfl, l4, m4⟩ := cell_int u4 e4
      exact ⟨⟨a0, a1, a2, a3, a4⟩, rfl, l0, m0, l1, m1, l2, m2, l3, l4, m4⟩

theorem in_header {r : Reach} {b0 : Nat} {t : TypeId} {f0 f1 f2 f3 f4 f5 : Field} {v : Value} {d : DataW H} {p : List MemPlace} (hs : P.underlying t = some (.struct #[f0, f1, f2, f3, f4, f5])) (u0 : P.underlying f0.type = some (.int .i64)) (u1 : P.underlying f1.type = some (.int .i64)) (u2 : P.underlying f2.type = some .string) (u3 : P.underlying f3.type = some .string) (u4 : P.underlying f4.type = some .string) (u5 : P.underlying f5.type = some .string) (hone : oneCellFields P #[f0, f1, f2, f3, f4, f5] = true) (hC : P.cellsOf t = 6)
    (hv : Value.okWide P w r b0 t v) (h : DataW.Trod enc P w base spare held t v d p) : ∃ x : HeadT, v = x.val ∧ x.ok := by
  obtain ⟨cs, rfl, hsz⟩ := okWide_struct hs hv
  obtain ⟨l⟩ := cs
  match l, hsz.trans hC with
  | [c0, c1, c2, c3, c4, c5], _ =>
    obtain ⟨fuel, hf⟩ := h
    obtain ⟨xs, n, _, hx, _, hlen, hg⟩ := DataW.trod_struct hs hf
    obtain ⟨o0, k0⟩ := hone_of hone 0 f0 rfl
    obtain ⟨o1, k1⟩ := hone_of hone 1 f1 rfl
    obtain ⟨o2, k2⟩ := hone_of hone 2 f2 rfl
    obtain ⟨o3, k3⟩ := hone_of hone 3 f3 rfl
    obtain ⟨o4, k4⟩ := hone_of hone 4 f4 rfl
    obtain ⟨o5, k5⟩ := hone_of hone 5 f5 rfl
    match xs, hlen with
    | [y0, y1, y2, y3, y4, y5], _ =>
      have e0 : DataW.trod enc P w base spare held n f0.type [c0] = some y0 := by simpa [Value.cells, o0, k0] using hg 0 f0 rfl
      have e1 : DataW.trod enc P w base spare held n f1.type [c1] = some y1 := by simpa [Value.cells, o1, k1] using hg 1 f1 rfl
      have e2 : DataW.trod enc P w base spare held n f2.type [c2] = some y2 := by simpa [Value.cells, o2, k2] using hg 2 f2 rfl
      have e3 : DataW.trod enc P w base spare held n f3.type [c3] = some y3 := by simpa [Value.cells, o3, k3] using hg 3 f3 rfl
      have e4 : DataW.trod enc P w base spare held n f4.type [c4] = some y4 := by simpa [Value.cells, o4, k4] using hg 4 f4 rfl
      have e5 : DataW.trod enc P w base spare held n f5.type [c5] = some y5 := by simpa [Value.cells, o5, k5] using hg 5 f5 rfl
      obtain ⟨a0, rfl, l0, m0⟩ := cell_int u0 e0
      obtain ⟨a1, rfl, l1, m1⟩ := cell_int u1 e1
      obtain ⟨a2, rfl, l2⟩ := cell_string u2 e2
      obtain ⟨a3, rfl, l3⟩ := cell_string u3 e3
      obtain ⟨a4, rfl, l4⟩ := cell_string u4 e4
      obtain ⟨a5, rfl, l5⟩ := cell_string u5 e5
      exact ⟨⟨a0, a1, a2, a3, a4, a5⟩, rfl, l0, m0, l1, m1, l2, l3, l4, l5⟩

theorem block_of_add (a : Addr) (n : Nat) : (a.add n).block = a.block := by unfold Addr.add; split <;> rfl
theorem plain_add (b o j : Nat) : (⟨b, o, none⟩ : Addr).add j = ⟨b, o + j, none⟩ := by unfold Addr.add; split <;> simp_all
/-- An address at which something lies has no inner spot. -/
theorem spot_none {a : Addr} {v : Value} (h : w.cell? a = some v) : a.spot = none := by simpa using World.cell?_spot h

theorem in_vals {r : Reach} {b0 : Nat} {t e : TypeId} {f0 f1 : Field} {v : Value} {d : DataW H} {p : List MemPlace} (ht : P.underlying t = some (.slice e)) (he : P.underlying e = some (.struct #[f0, f1]))
    (u0 : P.underlying f0.type = some (.int .i64)) (u1 : P.underlying f1.type = some (.int .i64)) (hone : oneCellFields P #[f0, f1] = true) (hC : P.cellsOf e = 2)
    (hv : Value.okWide P w r b0 t v) (h : DataW.Trod enc P w base spare held t v d p) (hlt : ∀ x ∈ p, x.block < w.heap.size) :
    ∃ (A : Option Addr) (c : Nat) (l : List ValT), v = .slice A l.length c ∧ l.length ≤ 9223372036854775807 ∧ VReads w w.heap.size A l := by
  obtain ⟨A, n, c, rfl⟩ := okWide_slice ht hv
  obtain ⟨fuel, hf⟩ := h
  rcases open_slice ht hf with ⟨hcs, _⟩ | ⟨a, len, cap, m, n', D, Pl, hcs, hb, hl, hm, hmm, hx, hi⟩
  · simp [Value.cells] at hcs
    obtain ⟨rfl, rfl, rfl⟩ := hcs
    exact ⟨none, 0, [], rfl, by simp, fun h => absurd h (by simp)⟩
  · simp [Value.cells] at hcs
    obtain ⟨rfl, rfl, rfl⟩ := hcs
    have hlm : n ≤ m := by rw [hmm]; split <;> omega
    have key : ∀ i, i < n → ∃ x : ValT, w.cell? (a.add (i * 2)) = some (.int .i64 x.id) ∧ w.cell? (a.add (i * 2 + 1)) = some (.int .i64 x.power) := by
      intro i hin
      obtain ⟨cs', hc, ht'⟩ := hi i (by omega)
      rw [hC] at hc
      obtain ⟨ys, n2, hn', hy, hlen, hyl, hg⟩ := DataW.trod_struct he ht'
      obtain ⟨_, hcl, hat⟩ := World.cells?_some hc
      obtain ⟨o0, k0⟩ := hone_of hone 0 f0 rfl
      obtain ⟨o1, k1⟩ := hone_of hone 1 f1 rfl
      match cs', hcl with
      | [z0, z1], _ =>
        match ys, hyl with
        | [y0, y1], _ =>
          have e0 : DataW.trod enc P w base spare held n2 f0.type [z0] = some y0 := by simpa [o0, k0] using hg 0 f0 rfl
          have e1 : DataW.trod enc P w base spare held n2 f1.type [z1] = some y1 := by simpa [o1, k1] using hg 1 f1 rfl
          obtain ⟨x0, rfl, _, _⟩ := cell_int u0 e0
          obtain ⟨x1, rfl, _, _⟩ := cell_int u1 e1
          have h0 := hat 0 (by omega)
          have h1 := hat 1 (by omega)
          rw [Go.Deep.add_add] at h0 h1
          exact ⟨⟨x0, x1⟩, h0, h1⟩
    obtain ⟨f, hfk⟩ : ∃ f : Nat → ValT, ∀ i, i < n → w.cell? (a.add (i * 2)) = some (.int .i64 (f i).id) ∧ w.cell? (a.add (i * 2 + 1)) = some (.int .i64 (f i).power) := ⟨fun i => if h : i < n then Classical.choose (key i h) else ⟨0, 0⟩, fun i h => by simp only [dif_pos h]; exact Classical.choose_spec (key i h)⟩
    clear key
    refine ⟨some a, c, (List.range n).map f, by simp, by simp; unfold maxLen at hm; omega, fun hn => ?_⟩
    simp only [List.length_map, List.length_range] at hn
    have hsp := spot_none (hfk 0 hn).1
    obtain ⟨b, o, s⟩ := a
    have hs : s = none := by
      have : ((⟨b, o, s⟩ : Addr).add (0 * 2)).spot = s := by simp [Addr.add]
      rw [this] at hsp
      exact hsp
    subst hs
    have hbl : b < w.heap.size := by
      have := World.block_lt_of_cell? w _ (hfk 0 hn).1
      rw [block_of_add] at this
      exact this
    refine ⟨b, o, rfl, hbl, fun j hj => ?_⟩
    simp only [List.length_map, List.length_range] at hj
    have hk := hfk j hj
    rw [plain_add, plain_add] at hk
    rw [List.getElem_map, List.getElem_range]
    exact ⟨hk.1, by rw [Nat.add_assoc]; exact hk.2⟩

theorem in_ints {r : Reach} {b0 : Nat} {t e : TypeId} {v : Value} {d : DataW H} {p : List MemPlace} (ht : P.underlying t = some (.slice e)) (he : P.underlying e = some (.int .i64)) (hC : P.cellsOf e = 1)
    (hv : Value.okWide P w r b0 t v) (h : DataW.Trod enc P w base spare held t v d p) (hlt : ∀ x ∈ p, x.block < w.heap.size) :
    ∃ (A : Option Addr) (c : Nat) (l : List Int), v = .slice A l.length c ∧ l.length ≤ 9223372036854775807 ∧ IReads w w.heap.size A l := by
  obtain ⟨A, n, c, rfl⟩ := okWide_slice ht hv
  obtain ⟨fuel, hf⟩ := h
  rcases open_slice ht hf with ⟨hcs, _⟩ | ⟨a, len, cap, m, n', D, Pl, hcs, hb, hl, hm, hmm, hx, hi⟩
  · simp [Value.cells] at hcs
    obtain ⟨rfl, rfl, rfl⟩ := hcs
    exact ⟨none, 0, [], rfl, by simp, fun h => absurd h (by simp)⟩
  · simp [Value.cells] at hcs
    obtain ⟨rfl, rfl, rfl⟩ := hcs
    have hlm : n ≤ m := by rw [hmm]; split <;> omega
    have key : ∀ i, i < n → ∃ x : Int, w.cell? (a.add i) = some (.int .i64 x) := by
      intro i hin
      obtain ⟨cs', hc, ht'⟩ := hi i (by omega)
      rw [hC, Nat.mul_one] at hc
      obtain ⟨_, hcl, hat⟩ := World.cells?_some hc
      match cs', hcl with
      | [z0], _ =>
        obtain ⟨x0, rfl, _, _⟩ := cell_int he ht'
        have h0 := hat 0 (by omega)
        rw [Go.Deep.add_add] at h0
        exact ⟨x0, h0⟩
    obtain ⟨f, hfk⟩ : ∃ f : Nat → Int, ∀ i, i < n → w.cell? (a.add i) = some (.int .i64 (f i)) := ⟨fun i => if h : i < n then Classical.choose (key i h) else 0, fun i h => by simp only [dif_pos h]; exact Classical.choose_spec (key i h)⟩
    clear key
    refine ⟨some a, c, (List.range n).map f, by simp, by simp; unfold maxLen at hm; omega, fun hn => ?_⟩
    simp only [List.length_map, List.length_range] at hn
    have hsp := spot_none (hfk 0 hn)
    obtain ⟨b, o, s⟩ := a
    have hs : s = none := by
      have : ((⟨b, o, s⟩ : Addr).add 0).spot = s := by simp [Addr.add]
      rw [this] at hsp
      exact hsp
    subst hs
    have hbl : b < w.heap.size := by
      have := World.block_lt_of_cell? w _ (hfk 0 hn)
      rw [block_of_add] at this
      exact this
    refine ⟨b, o, rfl, hbl, fun j hj => ?_⟩
    simp only [List.length_map, List.length_range] at hj
    have hk := hfk j hj
    rw [plain_add] at hk
    rw [List.getElem_map, List.getElem_range]
    exact hk
end
end Go.Proofs.YtecimgkgdpnaeaaDoor

/-
  ValsOk, both.
-/
namespace Go.Proofs.YtecimgkgdpnaeaaDoor
open Go.ChangeShapes Go.WideShapes Go.ChangeAt Go.RowKit
set_option linter.unusedVariables false
set_option linter.unusedSimpArgs false
set_option maxRecDepth 100000

theorem within_q (x lo hi : Int) (w : World) : Calls Tryd.prog 55 #[.int .i64 x, .int .i64 lo, .int .i64 hi] w fun e w' => e = .returned (.bool (inB x lo hi)) ∧ w' = w :=
  (within_b x lo hi w).mono fun e w' ⟨he, hw⟩ => ⟨he, hw.symm⟩
theorem l1In_q (x lo hi : Int) (w : World) : Calls Tryd.prog 58 #[.int .i64 x, .int .i64 lo, .int .i64 hi] w fun e w' => e = .returned (.bool (inB x lo hi)) ∧ w' = w :=
  (l1In_b x lo hi w).mono fun e w' ⟨he, hw⟩ => ⟨he, hw.symm⟩

set_option maxHeartbeats 1600000 in
theorem sValsOk_any (A : Option Addr) (c : Nat) (l : List ValT) (w : World) (hl : l.length ≤ 4194304) (hR : VReads w w.heap.size A l) :
    Calls Tryd.prog 76 #[.slice A l.length c] w fun e w' => e = .returned (.bool (valsOkB l)) ∧ Below w.heap.size w w' := by
  cases hlen : inB (l.length : Int) 1 7
  · have HV : Hid (valsOkB l = false) := by unfold Hid valsOkB; rw [hlen]; rfl
    go_enter Tryd.func76, Tryd.ntmps76
    go_wp2_with (go_at_call 58; refine (l1In_b _ _ _ _).mono ?_; rintro e w' ⟨rfl, rfl⟩)
    go_ret
    exact ⟨ret_bool HV.out.symm, Below.refl _ _⟩
  · have HV0 : Hid (valsOkB l = ascOk 0 l) := by unfold Hid valsOkB; rw [hlen]; rfl
    go_enter Tryd.func76, Tryd.ntmps76
    go_wp2_with (go_at_call 58; refine (l1In_b _ _ _ _).mono ?_; rintro e w' ⟨rfl, rfl⟩)
    clear hlen
    go_loopw [3] (fun i wr => ∃ k : Nat, k ≤ l.length ∧ i = .int .i64 k ∧ Hid (AscAt l k) ∧ Below w.heap.size w wr) (fun i _ => l.length - (intOf i).toNat)
    case atStart => exact ⟨0, by omega, rfl, AscAt.start l, Below.refl _ _⟩
    case round =>
      obtain ⟨k, hk, rfl, HA, hb⟩ := hrel
      by_cases hlt : k < l.length
      · obtain ⟨b, off, rfl, hbB, hc⟩ := ((hR.below hb (Nat.le_refl _)).more hb.size) (by omega)
        obtain ⟨c0, c1⟩ := hc k hlt
        have hki : 0 ≤ (k : Int) ∧ (k : Int) < l.length := by omega
        cases h1 : inB l[k].id 1 99
        · have HV : Hid (valsOkB l = false) := by unfold Hid; rw [HV0.out, HA.out.bad hlt (.inl (by rw [valOk1, h1]; rfl))]
          go_wp2
          go_quiet ((go_at_call 58; exact Calls.quiet_of_same (l1In_q _ _ _ _)))
          go_wp2
          go_ret
          exact ⟨ret_bool HV.out.symm, below_drewN hb nq⟩
        · cases h2 : inB l[k].power 1 1000
          · have HV : Hid (valsOkB l = false) := by unfold Hid; rw [HV0.out, HA.out.bad hlt (.inl (by rw [valOk1, h1, h2]; rfl))]
            go_wp2
            go_quiet ((go_at_call 58; exact Calls.quiet_of_same (l1In_q _ _ _ _)))
            go_wp2
            go_ret
            exact ⟨ret_bool HV.out.symm, below_drewN hb nq⟩
          · have hv : valOk1 l[k] = true := by rw [valOk1, h1, h2]; rfl
            have HVO := Lib.hid hv
            clear hv
            rcases Nat.eq_zero_or_pos k with hk0 | hk0
            · subst hk0
              have HS : Hid (AscAt l (0 + 1)) := HA.out.step hlt HVO.out (by rw [prevId_zero]; have := (inB_true h1).1; omega)
              rw [show (((0 : Nat) : Int)) = 0 from rfl]
              have c0' : _ = some (Value.int .i64 l[0].id) := c0
              have c1' : _ = some (Value.int .i64 l[0].power) := c1
              rw [Nat.zero_mul, Nat.add_zero] at c0' c1'
              have hki' : (0 : Int) < l.length := by omega
              clear c0 c1 hc hki
              go_wp2
              go_quiet ((go_at_call 58; exact Calls.quiet_of_same (l1In_q _ _ _ _)))
              go_wp2
              go_roundw
              case rel => exact ⟨0 + 1, by omega, by go_num, HS, below_drewN hb nq⟩
              case measure => simp [intOf]; omega
            · obtain ⟨m, rfl⟩ : ∃ m, k = m + 1 := ⟨k - 1, by omega⟩
              obtain ⟨p0, _⟩ := hc m (by omega)
              have hp := prevId_succ l m (by omega)
              have hpos : (0 : Int) < ((m + 1 : Nat) : Int) := by omega
              have hpos' : (0 : Int) < (m : Int) + 1 := by omega
              have e1 : IntKind.i64.wrap ((m : Int) + 1 - 1) = (m : Int) := by rw [IntKind.wrap_i64]; omega
              have hm1 : 0 ≤ (m : Int) ∧ (m : Int) < l.length := by omega
              by_cases h3 : l[m].id < l[m + 1].id
              · have HS : Hid (AscAt l (m + 1 + 1)) := HA.out.step hlt HVO.out (by rw [hp]; exact h3)
                clear hp
                go_wp2
                go_quiet ((go_at_call 58; exact Calls.quiet_of_same (l1In_q _ _ _ _)))
                go_wp2
                go_roundw
                case rel => exact ⟨m + 1 + 1, by omega, by go_num, HS, below_drewN hb nq⟩
                case measure => simp [intOf]; omega
              · have HV : Hid (valsOkB l = false) := by unfold Hid; rw [HV0.out, HA.out.bad hlt (.inr (by rw [hp]; exact h3))]
                clear hp
                go_wp2
                go_quiet ((go_at_call 58; exact Calls.quiet_of_same (l1In_q _ _ _ _)))
                go_wp2
                go_ret
                exact ⟨ret_bool HV.out.symm, below_drewN hb nq⟩
      · have HF : Hid (ascOk 0 l = true) := HA.out.fin (by omega)
        go_wp2
        go_ret
        exact ⟨ret_bool (by rw [HV0.out, HF.out]), hb⟩

set_option maxHeartbeats 1600000 in
theorem iValsOk_any (A : Option Addr) (c : Nat) (l : List ValT) (w : World) (hl : l.length ≤ 4194304) (hR : VReads w w.heap.size A l) :
    Calls Tryd.prog 73 #[.slice A l.length c] w fun e w' => e = .returned (.bool (valsOkB l)) ∧ Below w.heap.size w w' := by
  have HV0 : Hid (valsOkB l = (inB (l.length : Int) 1 7 && ascOk 0 l)) := rfl
  go_enter Tryd.func73, Tryd.ntmps73
  go_wp2
  go_loopw [3, 7] (fun _ i wr => ∃ k : Nat, k ≤ l.length ∧ i = .int .i64 k ∧ Hid (AscAt l k) ∧ Below w.heap.size w wr) (fun _ i _ => l.length - (intOf i).toNat)
  case atStart => exact ⟨0, by omega, rfl, AscAt.start l, Below.refl _ _⟩
  case round =>
    obtain ⟨k, hk, rfl, HA, hb⟩ := hrel
    by_cases hlt : k < l.length
    · obtain ⟨b, off, rfl, hbB, hc⟩ := ((hR.below hb (Nat.le_refl _)).more hb.size) (by omega)
      obtain ⟨c0, c1⟩ := hc k hlt
      have hki : 0 ≤ (k : Int) ∧ (k : Int) < l.length := by omega
      cases h1 : inB l[k].id 1 99
      · have HV : Hid (valsOkB l = false) := by unfold Hid; rw [HV0.out, HA.out.bad hlt (.inl (by rw [valOk1, h1]; rfl)), Bool.and_false]
        go_wp2
        go_quiet ((go_at_call 55; exact Calls.quiet_of_same (within_q _ _ _ _)))
        go_wp2
        go_ret
        exact ⟨ret_bool HV.out.symm, below_drewN (hb.alloc hb.size _) nq⟩
      · cases h2 : inB l[k].power 1 1000
        · have HV : Hid (valsOkB l = false) := by unfold Hid; rw [HV0.out, HA.out.bad hlt (.inl (by rw [valOk1, h1, h2]; rfl)), Bool.and_false]
          go_wp2
          go_quiet ((go_at_call 55; exact Calls.quiet_of_same (within_q _ _ _ _)))
          go_wp2
          go_ret
          exact ⟨ret_bool HV.out.symm, below_drewN (hb.alloc hb.size _) nq⟩
        · have hv : valOk1 l[k] = true := by rw [valOk1, h1, h2]; rfl
          have HVO := Lib.hid hv
          clear hv
          rcases Nat.eq_zero_or_pos k with hk0 | hk0
          · subst hk0
            have HS : Hid (AscAt l (0 + 1)) := HA.out.step hlt HVO.out (by rw [prevId_zero]; have := (inB_true h1).1; omega)
            rw [show (((0 : Nat) : Int)) = 0 from rfl]
            have c0' : _ = some (Value.int .i64 l[0].id) := c0
            have c1' : _ = some (Value.int .i64 l[0].power) := c1
            rw [Nat.zero_mul, Nat.add_zero] at c0' c1'
            have hki' : (0 : Int) < l.length := by omega
            clear c0 c1 hc hki
            go_wp2
            go_quiet ((go_at_call 55; exact Calls.quiet_of_same (within_q _ _ _ _)))
            go_wp2
            go_roundw
            case rel => exact ⟨0 + 1, by omega, by go_num, HS, below_drewN (hb.alloc hb.size _) nq⟩
            case measure => simp [intOf]; omega
          · obtain ⟨m, rfl⟩ : ∃ m, k = m + 1 := ⟨k - 1, by omega⟩
            obtain ⟨p0, _⟩ := hc m (by omega)
            have hp := prevId_succ l m (by omega)
            have hpos : (0 : Int) < ((m + 1 : Nat) : Int) := by omega
            have hpos' : (0 : Int) < (m : Int) + 1 := by omega
            have e1 : IntKind.i64.wrap ((m : Int) + 1 - 1) = (m : Int) := by rw [IntKind.wrap_i64]; omega
            have hm1 : 0 ≤ (m : Int) ∧ (m : Int) < l.length := by omega
            by_cases h3 : l[m].id < l[m + 1].id
            · have HS : Hid (AscAt l (m + 1 + 1)) := HA.out.step hlt HVO.out (by rw [hp]; exact h3)
              clear hp
              go_wp2
              go_quiet ((go_at_call 55; exact Calls.quiet_of_same (within_q _ _ _ _)))
              go_wp2
              go_roundw
              case rel => exact ⟨m + 1 + 1, by omega, by go_num, HS, below_drewN (hb.alloc hb.size _) nq⟩
              case measure => simp [intOf]; omega
            · have HV : Hid (valsOkB l = false) := by unfold Hid; rw [HV0.out, HA.out.bad hlt (.inr (by rw [hp]; exact h3)), Bool.and_false]
              clear hp
              go_wp2
              go_quiet ((go_at_call 55; exact Calls.quiet_of_same (within_q _ _ _ _)))
              go_wp2
              go_ret
              exact ⟨ret_bool HV.out.symm, below_drewN (hb.alloc hb.size _) nq⟩
    · have HF : Hid (ascOk 0 l = true) := HA.out.fin (by omega)
      cases hlen : inB (l.length : Int) 1 7
      · have HV : Hid (valsOkB l = false) := by unfold Hid; rw [HV0.out, hlen]; rfl
        go_wp2_with (go_at_call 55; refine (within_b _ _ _ _).mono ?_; rintro e w' ⟨rfl, rfl⟩)
        go_ret
        exact ⟨ret_bool HV.out.symm, hb⟩
      · have HV : Hid (valsOkB l = true) := by unfold Hid; rw [HV0.out, hlen, HF.out]; rfl
        go_wp2_with (go_at_call 55; refine (within_b _ _ _ _).mono ?_; rintro e w' ⟨rfl, rfl⟩)
        go_ret
        exact ⟨ret_bool HV.out.symm, hb⟩
end Go.Proofs.YtecimgkgdpnaeaaDoor

/-
  VoteOk, both; toVote, szVote.
-/
namespace Go.Proofs.YtecimgkgdpnaeaaDoor
open Go.ChangeShapes Go.WideShapes Go.ChangeAt Go.RowKit
set_option linter.unusedVariables false
set_option maxRecDepth 100000

theorem sVoteOk_any (x : VoteT) (w : World) (hl : x.id.length ≤ 9223372036854775807) :
    Calls Tryd.prog 59 #[x.val] w fun e w' => e = .returned (.bool (voteOkB x)) ∧ Below w.heap.size w w' := by
  obtain ⟨h, r, s, id, v⟩ := x
  simp only [VoteT.val] at hl ⊢
  cases h1 : inB h 1 1000000
  · skip
    go_enter Tryd.func59, Tryd.ntmps59
    go_wp2_with (go_at_call 58; refine (l1In_b _ _ _ _).mono ?_; rintro e w' ⟨rfl, rfl⟩)
    go_ret
    exact ⟨ret_bool (by simp [voteOkB, isIdB, *]), (Below.refl _ _).alloc (Nat.le_refl _) _⟩
  · cases h2 : inB r 0 1000
    · skip
      go_enter Tryd.func59, Tryd.ntmps59
      go_wp2_with (go_at_call 58; refine (l1In_b _ _ _ _).mono ?_; rintro e w' ⟨rfl, rfl⟩)
      go_ret
      exact ⟨ret_bool (by simp [voteOkB, isIdB, *]), (Below.refl _ _).alloc (Nat.le_refl _) _⟩
    · cases h3 : inB s 1 2
      · skip
        go_enter Tryd.func59, Tryd.ntmps59
        go_wp2_with (go_at_call 58; refine (l1In_b _ _ _ _).mono ?_; rintro e w' ⟨rfl, rfl⟩)
        go_ret
        exact ⟨ret_bool (by simp [voteOkB, isIdB, *]), (Below.refl _ _).alloc (Nat.le_refl _) _⟩
      · cases id with
        | nil =>
          cases h5 : inB v 1 99 <;> skip
          all_goals skip
          · skip
            go_enter Tryd.func59, Tryd.ntmps59
            go_wp2_with (go_at_call 58; refine (l1In_b _ _ _ _).mono ?_; rintro e w' ⟨rfl, rfl⟩)
            go_ret
            exact ⟨ret_bool (by simp [voteOkB, isIdB, *]), (Below.refl _ _).alloc (Nat.le_refl _) _⟩
          · skip
            go_enter Tryd.func59, Tryd.ntmps59
            go_wp2_with (go_at_call 58; refine (l1In_b _ _ _ _).mono ?_; rintro e w' ⟨rfl, rfl⟩)
            go_ret
            exact ⟨ret_bool (by simp [voteOkB, isIdB, *]), (Below.refl _ _).alloc (Nat.le_refl _) _⟩
        | cons b t =>
          simp only [List.length_cons] at hl
          rcases Nat.lt_trichotomy t.length 7 with h8 | h8 | h8
          · skip
            go_enter Tryd.func59, Tryd.ntmps59
            go_wp2_with (go_at_call 58; refine (l1In_b _ _ _ _).mono ?_; rintro e w' ⟨rfl, rfl⟩)
            go_ret
            exact ⟨ret_bool (by simp [voteOkB, isIdB, Nat.ne_of_lt h8, *]), (Below.refl _ _).alloc (Nat.le_refl _) _⟩
          · have h8' : 7 ≤ t.length ∧ t.length ≤ 7 := by omega
            have H8 := Lib.hid h8
            clear h8
            obtain ⟨h8a, h8b⟩ := h8'
            cases h5 : inB v 1 99
            · skip
              go_enter Tryd.func59, Tryd.ntmps59
              go_wp2_with (go_at_call 58; refine (l1In_b _ _ _ _).mono ?_; rintro e w' ⟨rfl, rfl⟩)
              go_ret
              exact ⟨ret_bool (by simp [voteOkB, isIdB, H8.out, *]), (Below.refl _ _).alloc (Nat.le_refl _) _⟩
            · skip
              go_enter Tryd.func59, Tryd.ntmps59
              go_wp2_with (go_at_call 58; refine (l1In_b _ _ _ _).mono ?_; rintro e w' ⟨rfl, rfl⟩)
              go_ret
              exact ⟨ret_bool (by simp [voteOkB, isIdB, H8.out, *]), (Below.refl _ _).alloc (Nat.le_refl _) _⟩
          · skip
            go_enter Tryd.func59, Tryd.ntmps59
            go_wp2_with (go_at_call 58; refine (l1In_b _ _ _ _).mono ?_; rintro e w' ⟨rfl, rfl⟩)
            go_ret
            exact ⟨ret_bool (by simp [voteOkB, isIdB, Nat.ne_of_gt h8, *]), (Below.refl _ _).alloc (Nat.le_refl _) _⟩
theorem isHeight_b (x : Int) (w : World) :
    Calls Tryd.prog 54 #[.int .i64 x] w fun e w' => e = .returned (.bool (inB x 1 1000000)) ∧ w = w' := by
  go_enter Tryd.func54, Tryd.ntmps54
  go_wp2_with (go_at_call 55; refine (within_b _ _ _ _).mono ?_; rintro e w' ⟨rfl, rfl⟩)
  go_ret
  exact ⟨rfl, rfl⟩
theorem isVal_b (x : Int) (w : World) :
    Calls Tryd.prog 57 #[.int .i64 x] w fun e w' => e = .returned (.bool (inB x 1 99)) ∧ w = w' := by
  go_enter Tryd.func57, Tryd.ntmps57
  go_wp2_with (go_at_call 55; refine (within_b _ _ _ _).mono ?_; rintro e w' ⟨rfl, rfl⟩)
  go_ret
  exact ⟨rfl, rfl⟩
theorem isId_b (id : List UInt8) (w : World) (hl : id.length ≤ 9223372036854775807) :
    Calls Tryd.prog 56 #[.string (S id)] w fun e w' => e = .returned (.bool (isIdB id)) ∧ w = w' := by
  cases id with
  | nil =>
    go_enter Tryd.func56, Tryd.ntmps56
    go_wp2
    go_ret
    exact ⟨rfl, rfl⟩
  | cons b t =>
    simp only [List.length_cons] at hl
    rcases Nat.lt_trichotomy t.length 7 with h8 | h8 | h8
    · go_enter Tryd.func56, Tryd.ntmps56
      go_wp2
      go_ret
      exact ⟨ret_bool (by simp [isIdB]; rw [Bool.eq_iff_iff]; simp; omega), rfl⟩
    · have h8' : 7 ≤ t.length ∧ t.length ≤ 7 := by omega
      have H8 := Lib.hid h8
      clear h8
      obtain ⟨h8a, h8b⟩ := h8'
      go_enter Tryd.func56, Tryd.ntmps56
      go_wp2
      go_ret
      exact ⟨ret_bool (by simp [isIdB, H8.out]), rfl⟩
    · go_enter Tryd.func56, Tryd.ntmps56
      go_wp2
      go_ret
      exact ⟨ret_bool (by simp [isIdB]; rw [Bool.eq_iff_iff]; simp; omega), rfl⟩
end Go.Proofs.YtecimgkgdpnaeaaDoor

/-
  HeaderOk, both; isTime; toHeader, szHeader.
-/
namespace Go.Proofs.YtecimgkgdpnaeaaDoor
open Go.ChangeShapes Go.WideShapes Go.ChangeAt Go.RowKit
set_option linter.unusedVariables false
set_option maxRecDepth 100000

theorem isTime_b (x : Int) (w : World) :
    Calls Tryd.prog 87 #[.int .i64 x] w fun e w' => e = .returned (.bool (inB x 0 1000000)) ∧ w = w' := by
  go_enter Tryd.func87, Tryd.ntmps87
  go_wp2_with (go_at_call 55; refine (within_b _ _ _ _).mono ?_; rintro e w' ⟨rfl, rfl⟩)
  go_ret
  exact ⟨rfl, rfl⟩
theorem beq_nat (a : Nat) (k : Nat) : ((a : Int) == (k : Int)) = (a == k) := by rw [Bool.eq_iff_iff, beq_iff_eq, beq_iff_eq]; omega
theorem beq_nat8 (a : Nat) : ((a : Int) == 8) = (a == 8) := beq_nat a 8
theorem beq_nat0 (a : Nat) : ((a : Int) == 0) = (a == 0) := beq_nat a 0
theorem inB_one : inB 1 1 1000000 = true := rfl

theorem sHeaderOk_any (x : HeadT) (w : World) (h1 : x.last.length ≤ 9223372036854775807) (h2 : x.vals.length ≤ 9223372036854775807) (h3 : x.next.length ≤ 9223372036854775807) (h4 : x.data.length ≤ 9223372036854775807) :
    Calls Tryd.prog 18 #[x.val] w fun e w' => e = .returned (.bool (headOkB x)) ∧ Below w.heap.size w w' := by
  obtain ⟨h, t, last, vals, next, data⟩ := x
  simp only [HeadT.val] at h1 h2 h3 h4 ⊢
  have b3 := Lib.hid (beq_nat8 vals.length)
  have b4 := Lib.hid (beq_nat8 next.length)
  by_cases e1 : h = 1
  · subst e1
    have b5 := Lib.hid (beq_nat0 last.length)
    have hin := inB_one
    cases c2 : inB t 0 1000000
    · skip
      have HV : Hid (headOkB ⟨1, t, last, vals, next, data⟩ = false) := by
        unfold Hid headOkB
        simp only [if_true, inB_one, c2]
        first | rfl | simp | (simp; omega)
      go_enter Tryd.func18, Tryd.ntmps18
      go_wp2_with (go_at_call 58; refine (l1In_b _ _ _ _).mono ?_; rintro e w' ⟨rfl, rfl⟩)
      go_ret
      exact ⟨ret_bool (by rw [HV.out]; first | done | rfl | (simp; omega) | simp), (Below.refl _ _).alloc (Nat.le_refl _) _⟩
    · skip
      cases c3 : ((vals.length : Int) == 8)
      · skip
        have HV : Hid (headOkB ⟨1, t, last, vals, next, data⟩ = false) := by
          have c3' := c3
          rw [b3.out] at c3'
          unfold Hid headOkB
          simp only [if_true, inB_one, c2, c3']
          first | rfl | simp | (simp; omega)
        go_enter Tryd.func18, Tryd.ntmps18
        go_wp2_with (go_at_call 58; refine (l1In_b _ _ _ _).mono ?_; rintro e w' ⟨rfl, rfl⟩)
        go_ret
        exact ⟨ret_bool (by rw [HV.out]; first | done | rfl | (simp; omega) | simp), (Below.refl _ _).alloc (Nat.le_refl _) _⟩
      · skip
        cases c4 : ((next.length : Int) == 8)
        · skip
          have HV : Hid (headOkB ⟨1, t, last, vals, next, data⟩ = false) := by
            have c3' := c3
            rw [b3.out] at c3'
            have c4' := c4
            rw [b4.out] at c4'
            unfold Hid headOkB
            simp only [if_true, inB_one, c2, c3', c4']
            first | rfl | simp | (simp; omega)
          go_enter Tryd.func18, Tryd.ntmps18
          go_wp2_with (go_at_call 58; refine (l1In_b _ _ _ _).mono ?_; rintro e w' ⟨rfl, rfl⟩)
          go_ret
          exact ⟨ret_bool (by rw [HV.out]; first | done | rfl | (simp; omega) | simp), (Below.refl _ _).alloc (Nat.le_refl _) _⟩
        · skip
          cases c5 : ((last.length : Int) == 0)
          · skip
            have HV : Hid (headOkB ⟨1, t, last, vals, next, data⟩ = false) := by
              have c3' := c3
              rw [b3.out] at c3'
              have c4' := c4
              rw [b4.out] at c4'
              have c5' := c5
              rw [b5.out] at c5'
              unfold Hid headOkB
              simp only [if_true, inB_one, c2, c3', c4', c5']
              first | rfl | simp | (simp; omega)
            go_enter Tryd.func18, Tryd.ntmps18
            go_wp2_with (go_at_call 58; refine (l1In_b _ _ _ _).mono ?_; rintro e w' ⟨rfl, rfl⟩)
            go_ret
            exact ⟨ret_bool (by rw [HV.out]; first | done | rfl | (simp; omega) | simp), (Below.refl _ _).alloc (Nat.le_refl _) _⟩
          · skip
            by_cases c6 : data.length ≤ 20
            · skip
              have HV : Hid (headOkB ⟨1, t, last, vals, next, data⟩ = true) := by
                have c3' := c3
                rw [b3.out] at c3'
                have c4' := c4
                rw [b4.out] at c4'
                have c5' := c5
                rw [b5.out] at c5'
                unfold Hid headOkB
                simp only [if_true, inB_one, c2, c3', c4', c5', c6]
                first | rfl | simp | (simp; omega)
              go_enter Tryd.func18, Tryd.ntmps18
              go_wp2_with (go_at_call 58; refine (l1In_b _ _ _ _).mono ?_; rintro e w' ⟨rfl, rfl⟩)
              go_ret
              exact ⟨ret_bool (by rw [HV.out]; first | done | rfl | (simp; omega) | simp), (Below.refl _ _).alloc (Nat.le_refl _) _⟩
            · skip
              have HV : Hid (headOkB ⟨1, t, last, vals, next, data⟩ = false) := by
                have c3' := c3
                rw [b3.out] at c3'
                have c4' := c4
                rw [b4.out] at c4'
                have c5' := c5
                rw [b5.out] at c5'
                unfold Hid headOkB
                simp only [if_true, inB_one, c2, c3', c4', c5', c6]
                first | rfl | simp | (simp; omega)
              go_enter Tryd.func18, Tryd.ntmps18
              go_wp2_with (go_at_call 58; refine (l1In_b _ _ _ _).mono ?_; rintro e w' ⟨rfl, rfl⟩)
              go_ret
              exact ⟨ret_bool (by rw [HV.out]; first | done | rfl | (simp; omega) | simp), (Below.refl _ _).alloc (Nat.le_refl _) _⟩
  · have hne : (h == 1) = false := by simpa using e1
    have b5 := Lib.hid (beq_nat8 last.length)
    have HNE := Lib.hid e1
    clear e1
    cases c1 : inB h 1 1000000
    · skip
      have HV : Hid (headOkB ⟨h, t, last, vals, next, data⟩ = false) := by
        unfold Hid headOkB
        simp only [if_neg HNE.out, c1]
        first | rfl | simp | (simp; omega)
      go_enter Tryd.func18, Tryd.ntmps18
      go_wp2_with (go_at_call 58; refine (l1In_b _ _ _ _).mono ?_; rintro e w' ⟨rfl, rfl⟩)
      go_ret
      exact ⟨ret_bool (by rw [HV.out]; first | done | rfl | (simp; omega) | simp), (Below.refl _ _).alloc (Nat.le_refl _) _⟩
    · skip
      cases c2 : inB t 0 1000000
      · skip
        have HV : Hid (headOkB ⟨h, t, last, vals, next, data⟩ = false) := by
          unfold Hid headOkB
          simp only [if_neg HNE.out, c1, c2]
          first | rfl | simp | (simp; omega)
        go_enter Tryd.func18, Tryd.ntmps18
        go_wp2_with (go_at_call 58; refine (l1In_b _ _ _ _).mono ?_; rintro e w' ⟨rfl, rfl⟩)
        go_ret
        exact ⟨ret_bool (by rw [HV.out]; first | done | rfl | (simp; omega) | simp), (Below.refl _ _).alloc (Nat.le_refl _) _⟩
      · skip
        cases c3 : ((vals.length : Int) == 8)
        · skip
          have HV : Hid (headOkB ⟨h, t, last, vals, next, data⟩ = false) := by
            have c3' := c3
            rw [b3.out] at c3'
            unfold Hid headOkB
            simp only [if_neg HNE.out, c1, c2, c3']
            first | rfl | simp | (simp; omega)
          go_enter Tryd.func18, Tryd.ntmps18
          go_wp2_with (go_at_call 58; refine (l1In_b _ _ _ _).mono ?_; rintro e w' ⟨rfl, rfl⟩)
          go_ret
          exact ⟨ret_bool (by rw [HV.out]; first | done | rfl | (simp; omega) | simp), (Below.refl _ _).alloc (Nat.le_refl _) _⟩
        · skip
          cases c4 : ((next.length : Int) == 8)
          · skip
            have HV : Hid (headOkB ⟨h, t, last, vals, next, data⟩ = false) := by
              have c3' := c3
              rw [b3.out] at c3'
              have c4' := c4
              rw [b4.out] at c4'
              unfold Hid headOkB
              simp only [if_neg HNE.out, c1, c2, c3', c4']
              first | rfl | simp | (simp; omega)
            go_enter Tryd.func18, Tryd.ntmps18
            go_wp2_with (go_at_call 58; refine (l1In_b _ _ _ _).mono ?_; rintro e w' ⟨rfl, rfl⟩)
            go_ret
            exact ⟨ret_bool (by rw [HV.out]; first | done | rfl | (simp; omega) | simp), (Below.refl _ _).alloc (Nat.le_refl _) _⟩
          · skip
            cases c5 : ((last.length : Int) == 8)
            · skip
              have HV : Hid (headOkB ⟨h, t, last, vals, next, data⟩ = false) := by
                have c3' := c3
                rw [b3.out] at c3'
                have c4' := c4
                rw [b4.out] at c4'
                have c5' := c5
                rw [b5.out] at c5'
                unfold Hid headOkB
                simp only [if_neg HNE.out, c1, c2, c3', c4', c5']
                first | rfl | simp | (simp; omega)
              go_enter Tryd.func18, Tryd.ntmps18
              go_wp2_with (go_at_call 58; refine (l1In_b _ _ _ _).mono ?_; rintro e w' ⟨rfl, rfl⟩)
              go_ret
              exact ⟨ret_bool (by rw [HV.out]; first | done | rfl | (simp; omega) | simp), (Below.refl _ _).alloc (Nat.le_refl _) _⟩
            · skip
              by_cases c6 : data.length ≤ 20
              · skip
                have HV : Hid (headOkB ⟨h, t, last, vals, next, data⟩ = true) := by
                  have c3' := c3
                  rw [b3.out] at c3'
                  have c4' := c4
                  rw [b4.out] at c4'
                  have c5' := c5
                  rw [b5.out] at c5'
                  unfold Hid headOkB
                  simp only [if_neg HNE.out, c1, c2, c3', c4', c5', c6]
                  first | rfl | simp | (simp; omega)
                go_enter Tryd.func18, Tryd.ntmps18
                go_wp2_with (go_at_call 58; refine (l1In_b _ _ _ _).mono ?_; rintro e w' ⟨rfl, rfl⟩)
                go_ret
                exact ⟨ret_bool (by rw [HV.out]; first | done | rfl | (simp; omega) | simp), (Below.refl _ _).alloc (Nat.le_refl _) _⟩
              · skip
                have HV : Hid (headOkB ⟨h, t, last, vals, next, data⟩ = false) := by
                  have c3' := c3
                  rw [b3.out] at c3'
                  have c4' := c4
                  rw [b4.out] at c4'
                  have c5' := c5
                  rw [b5.out] at c5'
                  unfold Hid headOkB
                  simp only [if_neg HNE.out, c1, c2, c3', c4', c5', c6]
                  first | rfl | simp | (simp; omega)
                go_enter Tryd.func18, Tryd.ntmps18
                go_wp2_with (go_at_call 58; refine (l1In_b _ _ _ _).mono ?_; rintro e w' ⟨rfl, rfl⟩)
                go_ret
                exact ⟨ret_bool (by rw [HV.out]; first | done | rfl | (simp; omega) | simp), (Below.refl _ _).alloc (Nat.le_refl _) _⟩

theorem iHeaderOk_any (x : HeadT) (w : World) (h1 : x.last.length ≤ 9223372036854775807) (h2 : x.vals.length ≤ 9223372036854775807) (h3 : x.next.length ≤ 9223372036854775807) (h4 : x.data.length ≤ 9223372036854775807) :
    Calls Tryd.prog 45 #[x.val] w fun e w' => e = .returned (.bool (headOkB x)) ∧ Below w.heap.size w w' := by
  obtain ⟨h, t, last, vals, next, data⟩ := x
  simp only [HeadT.val] at h1 h2 h3 h4 ⊢
  have b3 := Lib.hid (beq_nat8 vals.length)
  have b4 := Lib.hid (beq_nat8 next.length)
  by_cases e1 : h = 1
  · subst e1
    have b5 := Lib.hid (beq_nat0 last.length)
    have hin := inB_one
    cases c2 : inB t 0 1000000
    · skip
      have HV : Hid (headOkB ⟨1, t, last, vals, next, data⟩ = false) := by
        unfold Hid headOkB
        simp only [if_true, inB_one, c2]
        first | rfl | simp | (simp; omega)
      go_enter Tryd.func45, Tryd.ntmps45
      go_wp2_with (first | (go_at_call 54; refine (isHeight_b _ _).mono ?_; rintro e w' ⟨rfl, rfl⟩) | (go_at_call 87; refine (isTime_b _ _).mono ?_; rintro e w' ⟨rfl, rfl⟩))
      go_ret
      exact ⟨ret_bool (by rw [HV.out]; first | done | rfl | (simp; omega) | simp), (Below.refl _ _).alloc (Nat.le_refl _) _⟩
    · skip
      cases c3 : ((vals.length : Int) == 8)
      · skip
        have HV : Hid (headOkB ⟨1, t, last, vals, next, data⟩ = false) := by
          have c3' := c3
          rw [b3.out] at c3'
          unfold Hid headOkB
          simp only [if_true, inB_one, c2, c3']
          first | rfl | simp | (simp; omega)
        go_enter Tryd.func45, Tryd.ntmps45
        go_wp2_with (first | (go_at_call 54; refine (isHeight_b _ _).mono ?_; rintro e w' ⟨rfl, rfl⟩) | (go_at_call 87; refine (isTime_b _ _).mono ?_; rintro e w' ⟨rfl, rfl⟩))
        go_ret
        exact ⟨ret_bool (by rw [HV.out]; first | done | rfl | (simp; omega) | simp), (Below.refl _ _).alloc (Nat.le_refl _) _⟩
      · skip
        cases c4 : ((next.length : Int) == 8)
        · skip
          have HV : Hid (headOkB ⟨1, t, last, vals, next, data⟩ = false) := by
            have c3' := c3
            rw [b3.out] at c3'
            have c4' := c4
            rw [b4.out] at c4'
            unfold Hid headOkB
            simp only [if_true, inB_one, c2, c3', c4']
            first | rfl | simp | (simp; omega)
          go_enter Tryd.func45, Tryd.ntmps45
          go_wp2_with (first | (go_at_call 54; refine (isHeight_b _ _).mono ?_; rintro e w' ⟨rfl, rfl⟩) | (go_at_call 87; refine (isTime_b _ _).mono ?_; rintro e w' ⟨rfl, rfl⟩))
          go_ret
          exact ⟨ret_bool (by rw [HV.out]; first | done | rfl | (simp; omega) | simp), (Below.refl _ _).alloc (Nat.le_refl _) _⟩
        · skip
          cases c5 : ((last.length : Int) == 0)
          · skip
            have HV : Hid (headOkB ⟨1, t, last, vals, next, data⟩ = false) := by
              have c3' := c3
              rw [b3.out] at c3'
              have c4' := c4
              rw [b4.out] at c4'
              have c5' := c5
              rw [b5.out] at c5'
              unfold Hid headOkB
              simp only [if_true, inB_one, c2, c3', c4', c5']
              first | rfl | simp | (simp; omega)
            go_enter Tryd.func45, Tryd.ntmps45
            go_wp2_with (first | (go_at_call 54; refine (isHeight_b _ _).mono ?_; rintro e w' ⟨rfl, rfl⟩) | (go_at_call 87; refine (isTime_b _ _).mono ?_; rintro e w' ⟨rfl, rfl⟩))
            go_ret
            exact ⟨ret_bool (by rw [HV.out]; first | done | rfl | (simp; omega) | simp), (Below.refl _ _).alloc (Nat.le_refl _) _⟩
          · skip
            by_cases c6 : data.length ≤ 20
            · skip
              have HV : Hid (headOkB ⟨1, t, last, vals, next, data⟩ = true) := by
                have c3' := c3
                rw [b3.out] at c3'
                have c4' := c4
                rw [b4.out] at c4'
                have c5' := c5
                rw [b5.out] at c5'
                unfold Hid headOkB
                simp only [if_true, inB_one, c2, c3', c4', c5', c6]
                first | rfl | simp | (simp; omega)
              go_enter Tryd.func45, Tryd.ntmps45
              go_wp2_with (first | (go_at_call 54; refine (isHeight_b _ _).mono ?_; rintro e w' ⟨rfl, rfl⟩) | (go_at_call 87; refine (isTime_b _ _).mono ?_; rintro e w' ⟨rfl, rfl⟩))
              go_ret
              exact ⟨ret_bool (by rw [HV.out]; first | done | rfl | (simp; omega) | simp), (Below.refl _ _).alloc (Nat.le_refl _) _⟩
            · skip
              have HV : Hid (headOkB ⟨1, t, last, vals, next, data⟩ = false) := by
                have c3' := c3
                rw [b3.out] at c3'
                have c4' := c4
                rw [b4.out] at c4'
                have c5' := c5
                rw [b5.out] at c5'
                unfold Hid headOkB
                simp only [if_true, inB_one, c2, c3', c4', c5', c6]
                first | rfl | simp | (simp; omega)
              go_enter Tryd.func45, Tryd.ntmps45
              go_wp2_with (first | (go_at_call 54; refine (isHeight_b _ _).mono ?_; rintro e w' ⟨rfl, rfl⟩) | (go_at_call 87; refine (isTime_b _ _).mono ?_; rintro e w' ⟨rfl, rfl⟩))
              go_ret
              exact ⟨ret_bool (by rw [HV.out]; first | done | rfl | (simp; omega) | simp), (Below.refl _ _).alloc (Nat.le_refl _) _⟩
  · have hne : (h == 1) = false := by simpa using e1
    have b5 := Lib.hid (beq_nat8 last.length)
    have HNE := Lib.hid e1
    clear e1
    cases c1 : inB h 1 1000000
    · skip
      have HV : Hid (headOkB ⟨h, t, last, vals, next, data⟩ = false) := by
        unfold Hid headOkB
        simp only [if_neg HNE.out, c1]
        first | rfl | simp | (simp; omega)
      go_enter Tryd.func45, Tryd.ntmps45
      go_wp2_with (first | (go_at_call 54; refine (isHeight_b _ _).mono ?_; rintro e w' ⟨rfl, rfl⟩) | (go_at_call 87; refine (isTime_b _ _).mono ?_; rintro e w' ⟨rfl, rfl⟩))
      go_ret
      exact ⟨ret_bool (by rw [HV.out]; first | done | rfl | (simp; omega) | simp), (Below.refl _ _).alloc (Nat.le_refl _) _⟩
    · skip
      cases c2 : inB t 0 1000000
      · skip
        have HV : Hid (headOkB ⟨h, t, last, vals, next, data⟩ = false) := by
          unfold Hid headOkB
          simp only [if_neg HNE.out, c1, c2]
          first | rfl | simp | (simp; omega)
        go_enter Tryd.func45, Tryd.ntmps45
        go_wp2_with (first | (go_at_call 54; refine (isHeight_b _ _).mono ?_; rintro e w' ⟨rfl, rfl⟩) | (go_at_call 87; refine (isTime_b _ _).mono ?_; rintro e w' ⟨rfl, rfl⟩))
        go_ret
        exact ⟨ret_bool (by rw [HV.out]; first | done | rfl | (simp; omega) | simp), (Below.refl _ _).alloc (Nat.le_refl _) _⟩
      · skip
        cases c3 : ((vals.length : Int) == 8)
        · skip
          have HV : Hid (headOkB ⟨h, t, last, vals, next, data⟩ = false) := by
            have c3' := c3
            rw [b3.out] at c3'
            unfold Hid headOkB
            simp only [if_neg HNE.out, c1, c2, c3']
            first | rfl | simp | (simp; omega)
          go_enter Tryd.func45, Tryd.ntmps45
          go_wp2_with (first | (go_at_call 54; refine (isHeight_b _ _).mono ?_; rintro e w' ⟨rfl, rfl⟩) | (go_at_call 87; refine (isTime_b _ _).mono ?_; rintro e w' ⟨rfl, rfl⟩))
          go_ret
          exact ⟨ret_bool (by rw [HV.out]; first | done | rfl | (simp; omega) | simp), (Below.refl _ _).alloc (Nat.le_refl _) _⟩
        · skip
          cases c4 : ((next.length : Int) == 8)
          · skip
            have HV : Hid (headOkB ⟨h, t, last, vals, next, data⟩ = false) := by
              have c3' := c3
              rw [b3.out] at c3'
              have c4' := c4
              rw [b4.out] at c4'
              unfold Hid headOkB
              simp only [if_neg HNE.out, c1, c2, c3', c4']
              first | rfl | simp | (simp; omega)
            go_enter Tryd.func45, Tryd.ntmps45
            go_wp2_with (first | (go_at_call 54; refine (isHeight_b _ _).mono ?_; rintro e w' ⟨rfl, rfl⟩) | (go_at_call 87; refine (isTime_b _ _).mono ?_; rintro e w' ⟨rfl, rfl⟩))
            go_ret
            exact ⟨ret_bool (by rw [HV.out]; first | done | rfl | (simp; omega) | simp), (Below.refl _ _).alloc (Nat.le_refl _) _⟩
          · skip
            cases c5 : ((last.length : Int) == 8)
            · skip
              have HV : Hid (headOkB ⟨h, t, last, vals, next, data⟩ = false) := by
                have c3' := c3
                rw [b3.out] at c3'
                have c4' := c4
                rw [b4.out] at c4'
                have c5' := c5
                rw [b5.out] at c5'
                unfold Hid headOkB
                simp only [if_neg HNE.out, c1, c2, c3', c4', c5']
                first | rfl | simp | (simp; omega)
              go_enter Tryd.func45, Tryd.ntmps45
              go_wp2_with (first | (go_at_call 54; refine (isHeight_b _ _).mono ?_; rintro e w' ⟨rfl, rfl⟩) | (go_at_call 87; refine (isTime_b _ _).mono ?_; rintro e w' ⟨rfl, rfl⟩))
              go_ret
              exact ⟨ret_bool (by rw [HV.out]; first | done | rfl | (simp; omega) | simp), (Below.refl _ _).alloc (Nat.le_refl _) _⟩
            · skip
              by_cases c6 : data.length ≤ 20
              · skip
                have HV : Hid (headOkB ⟨h, t, last, vals, next, data⟩ = true) := by
                  have c3' := c3
                  rw [b3.out] at c3'
                  have c4' := c4
                  rw [b4.out] at c4'
                  have c5' := c5
                  rw [b5.out] at c5'
                  unfold Hid headOkB
                  simp only [if_neg HNE.out, c1, c2, c3', c4', c5', c6]
                  first | rfl | simp | (simp; omega)
                go_enter Tryd.func45, Tryd.ntmps45
                go_wp2_with (first | (go_at_call 54; refine (isHeight_b _ _).mono ?_; rintro e w' ⟨rfl, rfl⟩) | (go_at_call 87; refine (isTime_b _ _).mono ?_; rintro e w' ⟨rfl, rfl⟩))
                go_ret
                exact ⟨ret_bool (by rw [HV.out]; first | done | rfl | (simp; omega) | simp), (Below.refl _ _).alloc (Nat.le_refl _) _⟩
              · skip
                have HV : Hid (headOkB ⟨h, t, last, vals, next, data⟩ = false) := by
                  have c3' := c3
                  rw [b3.out] at c3'
                  have c4' := c4
                  rw [b4.out] at c4'
                  have c5' := c5
                  rw [b5.out] at c5'
                  unfold Hid headOkB
                  simp only [if_neg HNE.out, c1, c2, c3', c4', c5', c6]
                  first | rfl | simp | (simp; omega)
                go_enter Tryd.func45, Tryd.ntmps45
                go_wp2_with (first | (go_at_call 54; refine (isHeight_b _ _).mono ?_; rintro e w' ⟨rfl, rfl⟩) | (go_at_call 87; refine (isTime_b _ _).mono ?_; rintro e w' ⟨rfl, rfl⟩))
                go_ret
                exact ⟨ret_bool (by rw [HV.out]; first | done | rfl | (simp; omega) | simp), (Below.refl _ _).alloc (Nat.le_refl _) _⟩
end Go.Proofs.YtecimgkgdpnaeaaDoor
