/-
  Texts of this proof, laid into one: DrH2, Id2, Sg1, Sig1.
-/
import Derived.Test.YtecimgkgdpnaeaaDoorGFnHeaders19
import Derived.Test.YtecimgkgdpnaeaaDoorGFnHeaders3
import Derived.Test.YtecimgkgdpnaeaaDoorGFnHeaders12
import Derived.Test.YtecimgkgdpnaeaaDoorGFnHeaders13
import Derived.Test.YtecimgkgdpnaeaaDoorGFnHeaders8
import Derived.Deep.RegionHeld3
import Derived.Deep.RegionWith
import Derived.Test.YtecimgkgdpnaeaaDoorGFnHeaders9
/-
  DrawShowHeader, DrawReadHeader.
-/
namespace Go.Proofs.YtecimgkgdpnaeaaDoor
open Go.ChangeShapes Go.WideShapes Go.ChangeAt Go.RowKit
set_option linter.unusedVariables false
set_option linter.unusedSimpArgs false
set_option maxRecDepth 100000

theorem drawShowHeader_in (K : Cd) (w : World) (hl : K.l.length ≤ 1048576) (hR : BReads w w.heap.size K.A K.l) :
    Calls Tryd.prog 8 #[.slice K.A K.l.length K.c] w fun e w' => ∃ (h t : Int) (la va ne da : List UInt8), e = .returned (.agg #[.int .i64 h, .int .i64 t, .string (S la), .string (S va), .string (S ne), .string (S da)]) ∧ (-1 ≤ h ∧ h ≤ 1000001 ∧ -1 ≤ t ∧ t ≤ 1000001 ∧ la.length ≤ 21 ∧ va.length ≤ 21 ∧ ne.length ≤ 21 ∧ da.length ≤ 21) ∧ Below w.heap.size w w' := by
  have hR0 := H6.new w 25 (.int .i64 0) (.int .i64 0) (.string ⟨#[]⟩) (.string ⟨#[]⟩) (.string ⟨#[]⟩) (.string ⟨#[]⟩)
  have hb0 := (Below.refl w.heap.size w).alloc (Nat.le_refl _) (.cells #[.int .i64 0, .int .i64 0, .string ⟨#[]⟩, .string ⟨#[]⟩, .string ⟨#[]⟩, .string ⟨#[]⟩] 25)
  have HN := Lib.hid fun (W : World) (h : Below w.heap.size w W) => new_in K W hl ((hR.below h (Nat.le_refl _)).more h.size)
  have H7 := Lib.hid fun (B : Nat) (W : World) (h : CurX W B K) => l7Head_in B K W h hl
  clear hR
  go_enter Tryd.func8, Tryd.ntmps8
  go_wp2_with fail
  generalize hW0 : w.alloc (.cells #[.int .i64 0, .int .i64 0, .string ⟨#[]⟩, .string ⟨#[]⟩, .string ⟨#[]⟩, .string ⟨#[]⟩] 25) = W0 at *
  have hz0 : W0.heap.size = w.heap.size + 1 := by rw [← hW0]; simp
  refine (HN.out _ hb0).mono ?_
  rintro e w1 ⟨rfl, c1, b1⟩
  have hR1 := hR0.next b1
  have hb1 := Below.next hb0 b1
  rw [hz0] at c1 ⊢
  clear hR0 hb0 b1 HN hW0 hz0 W0
  generalize hB : w.heap.size + 1 = B at *
  go_wp2_with fail
  refine (H7.out B _ c1).mono ?_
  rintro e w2 ⟨h, t, la, va, ne, da, rfl, hlen, c2, b2⟩
  have hb2 := Below.trans hb1 (b2.below (by omega) hb1.size)
  obtain ⟨hRl, r0, r1, r2, r3, r4, r5, rf⟩ := hR1.but b2 (by omega)
  go_wp2_with fail
  refine bodyPost_ret (v := .agg #[.int .i64 h, .int .i64 t, .string (S la), .string (S va), .string (S ne), .string (S da)]) (by simp [results, Tryd.results8, go_sem, *]) rfl ⟨h, t, la, va, ne, da, rfl, hlen, ?_⟩
  repeat (first | with_reducible exact hb2 | with_reducible refine Below.drew ?_ | with_reducible refine Below.setCell ?_ (by first | omega | (simp <;> omega)) _)
theorem drawReadHeader_in (K : Cd) (w : World) (hl : K.l.length ≤ 1048576) (hR : BReads w w.heap.size K.A K.l) :
    Calls Tryd.prog 11 #[.slice K.A K.l.length K.c] w fun e w' => ∃ t : List UInt8, e = .returned (.string (S t)) ∧ t.length ≤ 1001 ∧ Below w.heap.size w w' := by
  have HN := Lib.hid (new_in K w hl hR)
  have H7 := Lib.hid fun (B : Nat) (W : World) (h : CurX W B K) => l7Head_in B K W h hl
  have HO := Lib.hid fun (B : Nat) (W : World) (h : CurX W B K) => once_in B K 3 W h hl (by omega) (by omega)
  have HSP := Lib.hid fun (B : Nat) (W : World) (t : List UInt8) (h : CurX W B K) (h2 : t.length ≤ 1000) => spoil_in B K t W h h2 hl
  go_enter Tryd.func11, Tryd.ntmps11
  go_wp2_with fail
  refine HN.out.mono ?_
  rintro e w1 ⟨rfl, c1, b1⟩
  have hz1 := b1.size
  go_wp2_with fail
  refine (H7.out w.heap.size _ c1).mono ?_
  rintro e w2 ⟨h, t, la, va, ne, da, rfl, hlen, c2, b2⟩
  have hs := showHeadS_len ⟨h, t, la, va, ne, da⟩
  have HSH : Hid (∀ W : World, Calls Tryd.prog 48 #[.agg #[.int .i64 h, .int .i64 t, .string (S la), .string (S va), .string (S ne), .string (S da)]] W fun e w' => e = .returned (.string (S (showHeadS ⟨h, t, la, va, ne, da⟩))) ∧ Below W.heap.size W w') := fun W => sShowHeader_any ⟨h, t, la, va, ne, da⟩ W (by simp only; omega) (by simp only; omega) (by simp only; omega) (by simp only; omega)
  generalize showHeadS ⟨h, t, la, va, ne, da⟩ = s at *
  have hb2 := b1.trans (b2.below (Nat.le_refl _) hz1)
  go_wp2_with fail
  refine (HSH.out _).mono ?_
  rintro e w3 ⟨rfl, b3⟩
  have c3 := c2.next b3
  have hb3 := hb2.trans (b3.mono hb2.size)
  go_wp2_with fail
  refine (HO.out w.heap.size _ c3).mono ?_
  rintro e w4 ⟨o, rfl, c4, b4⟩
  have hb4 := hb3.trans (b4.below (Nat.le_refl _) hb3.size)
  cases o
  · go_wp2
    go_ret
    exact ⟨s, rfl, by omega, hb4⟩
  · go_wp2_with fail
    refine (HSP.out w.heap.size _ s c4 (by omega)).mono ?_
    rintro e w5 ⟨t', rfl, ht', c5, b5⟩
    have hb5 := hb4.trans (b5.below (Nat.le_refl _) hb4.size)
    go_wp2
    go_ret
    exact ⟨t', rfl, ht', hb5⟩
end Go.Proofs.YtecimgkgdpnaeaaDoor

/-
  ValsHash, both sides.
-/
namespace Go.Proofs.YtecimgkgdpnaeaaDoor
open Go.ChangeShapes Go.WideShapes Go.ChangeAt Go.RowKit
set_option linter.unusedVariables false
set_option linter.unusedSimpArgs false
set_option maxRecDepth 100000

/-- What ValsHash returns. -/
def valsHashS (l : List ValT) : List UInt8 := if valsOkB l then shortS (showValsS l) else []
theorem showValsS_len (l : List ValT) : (showValsS l).length ≤ 200 := by
  unfold showValsS
  cases hok : valsOkB l
  · simp
  · have h1 : l.length ≤ 7 := by
      unfold valsOkB at hok
      simp only [Bool.and_eq_true] at hok
      have := inB_true hok.1
      omega
    have h2 := showVal_len l
    have h3 := varS_len (l.length : Int)
    simp only [if_true, List.length_append]
    omega
theorem iValsHash_any (A : Option Addr) (c : Nat) (l : List ValT) (w : World) (hl : l.length ≤ 4194304) (hR : VReads w w.heap.size A l) (hK : HasK w) :
    Calls Tryd.prog 74 #[.slice A l.length c] w fun e w' => e = .returned (.string (S (valsHashS l))) ∧ Below w.heap.size w w' := by
  have HK := Lib.hid hK
  have HR := Lib.hid hR
  have HSH := Lib.hid fun (W : World) (h : HasK W) => iShort_any (showValsS l) W (by have := showValsS_len l; omega) h
  clear hR hK
  have hb := Below.refl w.heap.size w
  cases hok : valsOkB l
  · have HV : Hid (valsHashS l = []) := by unfold Hid valsHashS; rw [hok]; rfl
    go_enter Tryd.func74, Tryd.ntmps74
    go_wp2_with (go_at_call 73; refine (iValsOk_any _ _ _ _ hl HR.out).mono ?_; rintro e wn ⟨rfl, hbn⟩; have hb := Below.next (w := w) (by repeat (first | with_reducible exact hb | with_reducible exact Below.refl _ _ | refine Below.drew ?_ | refine Below.setCell ?_ (by simp <;> omega) _ | refine Below.alloc ?_ (by simp <;> omega) _)) hbn; clear hbn)
    go_ret
    exact ⟨ret_string (by rw [HV.out]; rfl), hb⟩
  · have HV : Hid (valsHashS l = shortS (showValsS l)) := by unfold Hid valsHashS; rw [hok]; rfl
    go_enter Tryd.func74, Tryd.ntmps74
    go_wp2_with (first | (go_at_call 73; refine (iValsOk_any _ _ _ _ hl HR.out).mono ?_; rintro e wn ⟨rfl, hbn⟩; have hb := Below.next (w := w) (by repeat (first | with_reducible exact hb | with_reducible exact Below.refl _ _ | refine Below.drew ?_ | refine Below.setCell ?_ (by simp <;> omega) _ | refine Below.alloc ?_ (by simp <;> omega) _)) hbn; clear hbn) | (go_at_call 105; refine (iShowVals_any _ _ _ _ hl (HR.out.to hb)).mono ?_; rintro e wn ⟨rfl, hbn⟩; have hb := Below.next (w := w) (by repeat (first | with_reducible exact hb | with_reducible exact Below.refl _ _ | refine Below.drew ?_ | refine Below.setCell ?_ (by simp <;> omega) _ | refine Below.alloc ?_ (by simp <;> omega) _)) hbn; clear hbn) | (go_at_call 63; refine (HSH.out _ (HK.out.to hb)).mono ?_; rintro e wn ⟨rfl, hbn⟩; have hb := Below.next (w := w) (by repeat (first | with_reducible exact hb | with_reducible exact Below.refl _ _ | refine Below.drew ?_ | refine Below.setCell ?_ (by simp <;> omega) _ | refine Below.alloc ?_ (by simp <;> omega) _)) hbn; clear hbn))
    go_ret
    exact ⟨ret_string (by rw [HV.out]), hb⟩
theorem sValsHash_any (A : Option Addr) (c : Nat) (l : List ValT) (w : World) (hl : l.length ≤ 4194304) (hR : VReads w w.heap.size A l) :
    Calls Tryd.prog 77 #[.slice A l.length c] w fun e w' => e = .returned (.string (S (valsHashS l))) ∧ Below w.heap.size w w' := by
  have HR := Lib.hid hR
  have HSH := Lib.hid fun (W : World) => sShort_any (showValsS l) W (by have := showValsS_len l; omega)
  clear hR
  have hb := Below.refl w.heap.size w
  cases hok : valsOkB l
  · have HV : Hid (valsHashS l = []) := by unfold Hid valsHashS; rw [hok]; rfl
    go_enter Tryd.func77, Tryd.ntmps77
    go_wp2_with (go_at_call 76; refine (sValsOk_any _ _ _ _ hl HR.out).mono ?_; rintro e wn ⟨rfl, hbn⟩; have hb := Below.next (w := w) (by repeat (first | with_reducible exact hb | with_reducible exact Below.refl _ _ | refine Below.drew ?_ | refine Below.setCell ?_ (by simp <;> omega) _ | refine Below.alloc ?_ (by simp <;> omega) _)) hbn; clear hbn)
    go_ret
    exact ⟨ret_string (by rw [HV.out]; rfl), hb⟩
  · have HV : Hid (valsHashS l = shortS (showValsS l)) := by unfold Hid valsHashS; rw [hok]; rfl
    go_enter Tryd.func77, Tryd.ntmps77
    go_wp2_with (first | (go_at_call 76; refine (sValsOk_any _ _ _ _ hl HR.out).mono ?_; rintro e wn ⟨rfl, hbn⟩; have hb := Below.next (w := w) (by repeat (first | with_reducible exact hb | with_reducible exact Below.refl _ _ | refine Below.drew ?_ | refine Below.setCell ?_ (by simp <;> omega) _ | refine Below.alloc ?_ (by simp <;> omega) _)) hbn; clear hbn) | (go_at_call 110; refine (sShowVals_any _ _ _ _ hl (HR.out.to hb)).mono ?_; rintro e wn ⟨rfl, hbn⟩; have hb := Below.next (w := w) (by repeat (first | with_reducible exact hb | with_reducible exact Below.refl _ _ | refine Below.drew ?_ | refine Below.setCell ?_ (by simp <;> omega) _ | refine Below.alloc ?_ (by simp <;> omega) _)) hbn; clear hbn) | (go_at_call 64; refine (HSH.out _).mono ?_; rintro e wn ⟨rfl, hbn⟩; have hb := Below.next (w := w) (by repeat (first | with_reducible exact hb | with_reducible exact Below.refl _ _ | refine Below.drew ?_ | refine Below.setCell ?_ (by simp <;> omega) _ | refine Below.alloc ?_ (by simp <;> omega) _)) hbn; clear hbn))
    go_ret
    exact ⟨ret_string (by rw [HV.out]), hb⟩
end Go.Proofs.YtecimgkgdpnaeaaDoor

/-
  SignAs: both sides.
-/
namespace Go.Proofs.YtecimgkgdpnaeaaDoor
open Go.ChangeShapes Go.WideShapes Go.ChangeAt Go.RowKit
set_option linter.unusedVariables false
set_option linter.unusedSimpArgs false
set_option maxRecDepth 100000

/-! SignAs. -/
theorem sSignAs_any (v : Int) (d : List UInt8) (w : World) (hl : d.length ≤ 4194000) :
    Calls Tryd.prog 95 #[.int .i64 v, .string (S d)] w fun e w' => e = .returned (.string (S (signAsS v d))) ∧ Below w.heap.size w w' := by
  have hb := Below.refl w.heap.size w
  by_cases h1 : inB v 1 99 = true
  · have HV : Hid (signAsS v d = shortS (4 :: (fixedS v 2 ++ d))) := by unfold Hid signAsS; rw [h1]; rfl
    obtain ⟨b1, b2⟩ := inB_true h1
    have hS := S_cons1 4 (fixedS v 2)
    have hfl : (fixedS v 2).length ≤ 7 := by unfold fixedS; split <;> simp
    have HF := Lib.hid fun W : World => sFixed_any v 2 W (by omega)
    have HSH := Lib.hid fun W : World => sShort_any (4 :: (fixedS v 2 ++ d)) W (by simp; omega)
    generalize fixedS v 2 = f at *
    go_enter Tryd.func95, Tryd.ntmps95
    go_wp2_with (first | (go_at_call 58; refine (l1In_b _ _ _ _).mono ?_; rintro e w' ⟨rfl, rfl⟩) | (go_at_call 115; refine (HF.out _).mono ?_; rintro e wn ⟨rfl, hbn⟩; have hb := Below.next (w := w) (by repeat (first | with_reducible exact hb | with_reducible exact Below.refl _ _ | refine Below.drew ?_ | refine Below.setCell ?_ (by simp <;> omega) _ | refine Below.alloc ?_ (by simp <;> omega) _)) hbn; clear hbn) | (go_at_call 64; refine (HSH.out _).mono ?_; rintro e wn ⟨rfl, hbn⟩; have hb := Below.next (w := w) (by repeat (first | with_reducible exact hb | with_reducible exact Below.refl _ _ | refine Below.drew ?_ | refine Below.setCell ?_ (by simp <;> omega) _ | refine Below.alloc ?_ (by simp <;> omega) _)) hbn; clear hbn))
    go_ret
    exact ⟨ret_string (by rw [HV.out]), hb⟩
  · have h1' : inB v 1 99 = false := by simpa using h1
    have HV : Hid (signAsS v d = []) := by unfold Hid signAsS; rw [h1']; rfl
    clear h1
    go_enter Tryd.func95, Tryd.ntmps95
    go_wp2_with (go_at_call 58; refine (l1In_b _ _ _ _).mono ?_; rintro e w' ⟨rfl, rfl⟩)
    go_ret
    exact ⟨ret_string (by rw [HV.out]; rfl), hb⟩
theorem isVal_in (x : Int) (w : World) :
    Calls Tryd.prog 57 #[.int .i64 x] w fun e w' => e = .returned (.bool (inB x 1 99)) ∧ w = w' := by
  go_enter Tryd.func57, Tryd.ntmps57
  go_wp2_with (go_at_call 55; refine (within_b _ _ _ _).mono ?_; rintro e w' ⟨rfl, rfl⟩)
  go_ret
  exact ⟨rfl, rfl⟩
theorem iSignAs_any (v : Int) (d : List UInt8) (w : World) (hl : d.length ≤ 4194000) (hK : HasK w) :
    Calls Tryd.prog 99 #[.int .i64 v, .string (S d)] w fun e w' => e = .returned (.string (S (signAsS v d))) ∧ Below w.heap.size w w' := by
  have hb := Below.refl w.heap.size w
  have HK := Lib.hid hK
  clear hK
  by_cases h1 : inB v 1 99 = true
  · have HV : Hid (signAsS v d = shortS (4 :: (fixedS v 2 ++ d))) := by unfold Hid signAsS; rw [h1]; rfl
    obtain ⟨b1, b2⟩ := inB_true h1
    have hS := S_cons1 4 (fixedS v 2)
    have hfl : (fixedS v 2).length ≤ 7 := by unfold fixedS; split <;> simp
    have HF := Lib.hid fun W : World => iFixed_any v 2 W (by omega)
    have HSH := Lib.hid fun (W : World) (h : HasK W) => iShort_any (4 :: (fixedS v 2 ++ d)) W (by simp; omega) h
    generalize fixedS v 2 = f at *
    go_enter Tryd.func99, Tryd.ntmps99
    go_wp2_with (first | (go_at_call 57; refine (isVal_in _ _).mono ?_; rintro e w' ⟨rfl, rfl⟩) | (go_at_call 111; refine (HF.out _).mono ?_; rintro e wn ⟨rfl, hbn⟩; have hb := Below.next (w := w) (by repeat (first | with_reducible exact hb | with_reducible exact Below.refl _ _ | refine Below.drew ?_ | refine Below.setCell ?_ (by simp <;> omega) _ | refine Below.alloc ?_ (by simp <;> omega) _)) hbn; clear hbn) | (go_at_call 63; refine (HSH.out _ (HK.out.to hb)).mono ?_; rintro e wn ⟨rfl, hbn⟩; have hb := Below.next (w := w) (by repeat (first | with_reducible exact hb | with_reducible exact Below.refl _ _ | refine Below.drew ?_ | refine Below.setCell ?_ (by simp <;> omega) _ | refine Below.alloc ?_ (by simp <;> omega) _)) hbn; clear hbn))
    go_ret
    exact ⟨ret_string (by rw [HV.out]), hb⟩
  · have h1' : inB v 1 99 = false := by simpa using h1
    have HV : Hid (signAsS v d = []) := by unfold Hid signAsS; rw [h1']; rfl
    clear h1
    go_enter Tryd.func99, Tryd.ntmps99
    go_wp2_with (go_at_call 57; refine (isVal_in _ _).mono ?_; rintro e w' ⟨rfl, rfl⟩)
    go_ret
    exact ⟨ret_string (by rw [HV.out]; rfl), hb⟩
end Go.Proofs.YtecimgkgdpnaeaaDoor

/-
  Signed, both sides.
-/
namespace Go.Proofs.YtecimgkgdpnaeaaDoor
open Go.ChangeShapes Go.WideShapes Go.ChangeAt Go.RowKit
set_option linter.unusedVariables false
set_option linter.unusedSimpArgs false
set_option maxRecDepth 100000

/-- What Signed returns. -/
def signedB (x : VoteT) (sig : List UInt8) : Bool := voteOkB x && sig == signAsS x.v (digestS x)
theorem digestS_len (x : VoteT) : (digestS x).length ≤ 60 := by
  unfold digestS
  cases hok : voteOkB x
  · simp
  · have q1 := varS_len x.h
    have q2 := varS_len x.r
    have q3 := varS_len x.s
    have hil : x.id.length ≤ 8 := by
      unfold voteOkB at hok
      simp only [Bool.and_eq_true] at hok
      have := hok.1.2
      unfold isIdB at this
      simp only [Bool.or_eq_true, beq_iff_eq] at this
      omega
    simp only [if_true, List.length_append]
    omega
/-- Five cells of block B are held over a call that makes memory. -/
theorem held5 {w cur wm : World} {B : Nat} {u0 u1 u2 u3 u4 : Value}
    (H : Below w.heap.size w cur ∧ B < cur.heap.size ∧ cur.cell? ⟨B, 0, none⟩ = some u0 ∧ cur.cell? ⟨B, 1, none⟩ = some u1 ∧ cur.cell? ⟨B, 2, none⟩ = some u2 ∧ cur.cell? ⟨B, 3, none⟩ = some u3 ∧ cur.cell? ⟨B, 4, none⟩ = some u4) (hb : Below cur.heap.size cur wm) :
    Below w.heap.size w wm ∧ B < wm.heap.size ∧ wm.cell? ⟨B, 0, none⟩ = some u0 ∧ wm.cell? ⟨B, 1, none⟩ = some u1 ∧ wm.cell? ⟨B, 2, none⟩ = some u2 ∧ wm.cell? ⟨B, 3, none⟩ = some u3 ∧ wm.cell? ⟨B, 4, none⟩ = some u4 := by
  obtain ⟨h1, h2, c0, c1, c2, c3, c4⟩ := H
  have k : ∀ i, wm.cell? ⟨B, i, none⟩ = cur.cell? ⟨B, i, none⟩ := fun i => hb.cell (p := ⟨B, i, none⟩) h2
  exact ⟨Below.next h1 hb, Nat.lt_of_lt_of_le h2 hb.size, (k 0).trans c0, (k 1).trans c1, (k 2).trans c2, (k 3).trans c3, (k 4).trans c4⟩

set_option maxHeartbeats 1600000 in
theorem iSigned_any (x : VoteT) (sig : List UInt8) (w : World) (hl : x.id.length ≤ 9223372036854775807) (hK : HasK w) :
    Calls Tryd.prog 68 #[x.val, .string (S sig)] w fun e w' => e = .returned (.bool (signedB x sig)) ∧ Below w.heap.size w w' := by
  have HK := Lib.hid hK
  clear hK
  have HO := Lib.hid fun (W : World) => iVoteOk_any x W hl
  have HD := Lib.hid fun (W : World) => iDigest_any x W hl
  have HS := Lib.hid fun (W : World) (h : HasK W) => iSignAs_any x.v (digestS x) W (by have := digestS_len x; omega) h
  have HV : Hid (signedB x sig = (voteOkB x && sig == signAsS x.v (digestS x))) := rfl
  generalize signAsS x.v (digestS x) = g at *
  generalize digestS x = d at *
  generalize signedB x sig = R at *
  generalize voteOkB x = ok at *
  obtain ⟨h, r, s, id, v⟩ := x
  have hv : VoteT.val ⟨h, r, s, id, v⟩ = .agg #[.int .i64 h, .int .i64 r, .int .i64 s, .string (S id), .int .i64 v] := rfl
  simp only [hv] at HO HD HS hl ⊢
  cases ok
  · go_enter Tryd.func68, Tryd.ntmps68
    go_wp2_with fail
    first | go_region_with (go_at_call 98; refine (HO.out _).mono ?_; rintro e wm ⟨rfl, hbm⟩) | fail
    all_goals
      have hbx : Below w.heap.size w wm := Below.next (((Below.refl _ _).alloc (Nat.le_refl _) _).drew) hbm
      go_wp2
      go_ret
      exact ⟨ret_bool (by rw [HV.out]; rfl), hbx⟩
  · by_cases hs : sig = g
    · have hbe : (sig == g) = true := by rw [hs]; simp
      clear hs
      go_enter Tryd.func68, Tryd.ntmps68
      go_wp2_with fail
      go_region_held3 (fun w' => Below w.heap.size w w' ∧ w.heap.size < w'.heap.size ∧ w'.cell? ⟨w.heap.size, 0, none⟩ = some (.int .i64 h) ∧ w'.cell? ⟨w.heap.size, 1, none⟩ = some (.int .i64 r) ∧ w'.cell? ⟨w.heap.size, 2, none⟩ = some (.int .i64 s) ∧ w'.cell? ⟨w.heap.size, 3, none⟩ = some (.string (S id)) ∧ w'.cell? ⟨w.heap.size, 4, none⟩ = some (.int .i64 v)) (first | exact ⟨((Below.refl _ _).alloc (Nat.le_refl _) _).drew, by simp, by go_simp, by go_simp, by go_simp, by go_simp, by go_simp⟩ | exact held5 (by assumption) hbm | go_keep)
        (first | (go_at_call 98; refine (HO.out _).mono ?_; rintro e wm ⟨rfl, hbm⟩) | (go_at_call 100; refine (HD.out _).mono ?_; rintro e wm ⟨rfl, hbm⟩) | (go_at_call 99; refine (HS.out _ (HK.out.to (And.left (by assumption)))).mono ?_; rintro e wm ⟨rfl, hbm⟩))
      all_goals
        have hbx : Below w.heap.size w wm := by apply And.left; assumption
        go_wp2
        go_ret
        exact ⟨ret_bool (by rw [HV.out, hbe]; rfl), hbx⟩
    · have hbe : (sig == g) = false := by simpa using hs
      clear hs
      go_enter Tryd.func68, Tryd.ntmps68
      go_wp2_with fail
      go_region_held3 (fun w' => Below w.heap.size w w' ∧ w.heap.size < w'.heap.size ∧ w'.cell? ⟨w.heap.size, 0, none⟩ = some (.int .i64 h) ∧ w'.cell? ⟨w.heap.size, 1, none⟩ = some (.int .i64 r) ∧ w'.cell? ⟨w.heap.size, 2, none⟩ = some (.int .i64 s) ∧ w'.cell? ⟨w.heap.size, 3, none⟩ = some (.string (S id)) ∧ w'.cell? ⟨w.heap.size, 4, none⟩ = some (.int .i64 v)) (first | exact ⟨((Below.refl _ _).alloc (Nat.le_refl _) _).drew, by simp, by go_simp, by go_simp, by go_simp, by go_simp, by go_simp⟩ | exact held5 (by assumption) hbm | go_keep)
        (first | (go_at_call 98; refine (HO.out _).mono ?_; rintro e wm ⟨rfl, hbm⟩) | (go_at_call 100; refine (HD.out _).mono ?_; rintro e wm ⟨rfl, hbm⟩) | (go_at_call 99; refine (HS.out _ (HK.out.to (And.left (by assumption)))).mono ?_; rintro e wm ⟨rfl, hbm⟩))
      all_goals
        have hbx : Below w.heap.size w wm := by apply And.left; assumption
        go_wp2
        go_ret
        exact ⟨ret_bool (by rw [HV.out, hbe]; rfl), hbx⟩


set_option maxHeartbeats 1600000 in
theorem sSigned_any (x : VoteT) (sig : List UInt8) (w : World) (hl : x.id.length ≤ 9223372036854775807) :
    Calls Tryd.prog 66 #[x.val, .string (S sig)] w fun e w' => e = .returned (.bool (signedB x sig)) ∧ Below w.heap.size w w' := by
  have HO := Lib.hid fun (W : World) => sVoteOk_any x W hl
  have HD := Lib.hid fun (W : World) => sDigest_any x W hl
  have HS := Lib.hid fun (W : World) => sSignAs_any x.v (digestS x) W (by have := digestS_len x; omega)
  have HV : Hid (signedB x sig = (voteOkB x && sig == signAsS x.v (digestS x))) := rfl
  generalize signAsS x.v (digestS x) = g at *
  generalize digestS x = d at *
  generalize signedB x sig = R at *
  generalize voteOkB x = ok at *
  obtain ⟨h, r, s, id, v⟩ := x
  have hv : VoteT.val ⟨h, r, s, id, v⟩ = .agg #[.int .i64 h, .int .i64 r, .int .i64 s, .string (S id), .int .i64 v] := rfl
  simp only [hv] at HO HD HS hl ⊢
  cases ok
  · go_enter Tryd.func66, Tryd.ntmps66
    go_wp2_with fail
    first | go_region_with (go_at_call 59; refine (HO.out _).mono ?_; rintro e wm ⟨rfl, hbm⟩) | fail
    all_goals
      have hbx : Below w.heap.size w wm := Below.next (((Below.refl _ _).alloc (Nat.le_refl _) _).drew) hbm
      go_wp2
      go_ret
      exact ⟨ret_bool (by rw [HV.out]; rfl), hbx⟩
  · by_cases hs : sig = g
    · have hbe : (sig == g) = true := by rw [hs]; simp
      clear hs
      go_enter Tryd.func66, Tryd.ntmps66
      go_wp2_with fail
      go_region_held3 (fun w' => Below w.heap.size w w' ∧ w.heap.size < w'.heap.size ∧ w'.cell? ⟨w.heap.size, 0, none⟩ = some (.int .i64 h) ∧ w'.cell? ⟨w.heap.size, 1, none⟩ = some (.int .i64 r) ∧ w'.cell? ⟨w.heap.size, 2, none⟩ = some (.int .i64 s) ∧ w'.cell? ⟨w.heap.size, 3, none⟩ = some (.string (S id)) ∧ w'.cell? ⟨w.heap.size, 4, none⟩ = some (.int .i64 v)) (first | exact ⟨((Below.refl _ _).alloc (Nat.le_refl _) _).drew, by simp, by go_simp, by go_simp, by go_simp, by go_simp, by go_simp⟩ | exact held5 (by assumption) hbm | go_keep)
        (first | (go_at_call 59; refine (HO.out _).mono ?_; rintro e wm ⟨rfl, hbm⟩) | (go_at_call 96; refine (HD.out _).mono ?_; rintro e wm ⟨rfl, hbm⟩) | (go_at_call 95; refine (HS.out _).mono ?_; rintro e wm ⟨rfl, hbm⟩))
      all_goals
        have hbx : Below w.heap.size w wm := by apply And.left; assumption
        go_wp2
        go_ret
        exact ⟨ret_bool (by rw [HV.out, hbe]; rfl), hbx⟩
    · have hbe : (sig == g) = false := by simpa using hs
      clear hs
      go_enter Tryd.func66, Tryd.ntmps66
      go_wp2_with fail
      go_region_held3 (fun w' => Below w.heap.size w w' ∧ w.heap.size < w'.heap.size ∧ w'.cell? ⟨w.heap.size, 0, none⟩ = some (.int .i64 h) ∧ w'.cell? ⟨w.heap.size, 1, none⟩ = some (.int .i64 r) ∧ w'.cell? ⟨w.heap.size, 2, none⟩ = some (.int .i64 s) ∧ w'.cell? ⟨w.heap.size, 3, none⟩ = some (.string (S id)) ∧ w'.cell? ⟨w.heap.size, 4, none⟩ = some (.int .i64 v)) (first | exact ⟨((Below.refl _ _).alloc (Nat.le_refl _) _).drew, by simp, by go_simp, by go_simp, by go_simp, by go_simp, by go_simp⟩ | exact held5 (by assumption) hbm | go_keep)
        (first | (go_at_call 59; refine (HO.out _).mono ?_; rintro e wm ⟨rfl, hbm⟩) | (go_at_call 96; refine (HD.out _).mono ?_; rintro e wm ⟨rfl, hbm⟩) | (go_at_call 95; refine (HS.out _).mono ?_; rintro e wm ⟨rfl, hbm⟩))
      all_goals
        have hbx : Below w.heap.size w wm := by apply And.left; assumption
        go_wp2
        go_ret
        exact ⟨ret_bool (by rw [HV.out, hbe]; rfl), hbx⟩
end Go.Proofs.YtecimgkgdpnaeaaDoor
