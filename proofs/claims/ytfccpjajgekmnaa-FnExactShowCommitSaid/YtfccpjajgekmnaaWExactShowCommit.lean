/-
  The law FnExactShowCommit: the walk.
-/
import Derived.Test.YtfccpjajgekmnaaCom1
import Derived.Test.YtfccpjajgekmnaaLawC2
import Derived.Deep.RegionWith
import Derived.Deep.RegionHeld3
namespace Go.Proofs.Ytfccpjajgekmnaa.fnExactShowCommit
open Go.ChangeShapes Go.WideShapes Go.ChangeAt Go.RowKit
set_option linter.unusedVariables false
set_option maxRecDepth 100000

set_option maxHeartbeats 4000000 in
theorem walk (x : CommitT) (A : Option Addr) (c : Nat) (w : World) (hx : -9223372036854775808 ≤ x.h ∧ x.h ≤ 9223372036854775807 ∧ -9223372036854775808 ≤ x.r ∧ x.r ≤ 9223372036854775807 ∧ x.id.length ≤ 9223372036854775807) (hn : x.sigs.length ≤ 9223372036854775807) (hm : ∀ s ∈ x.sigs, s.sig.length ≤ 9223372036854775807) (hR : SReads w w.heap.size A x.sigs) :
    Calls Try.prog 4 #[.agg #[.int .i64 x.h, .int .i64 x.r, .string (S x.id), .slice A x.sigs.length c]] w fun e w' => e = .returned (.bool true) ∧ Below w.heap.size w w' := by
  obtain ⟨h, r, id, l⟩ := x
  simp only at hx hn hm hR ⊢
  have hid := hx.2.2.2.2
  have HR := Lib.hid hR
  have HM := Lib.hid hm
  have hb := Below.refl w.heap.size w
  have HI := Lib.hid fun (A : Option Addr) (c : Nat) (W : World) (hR : SReads W W.heap.size A l) => show Calls Try.prog 21 #[.agg #[.int .i64 h, .int .i64 r, .string (S id), .slice A l.length c]] W fun e w' => e = .returned (.string (S (showCommitS ⟨h, r, id, l⟩))) ∧ Below W.heap.size W w' from by
    cases hh : headC ⟨h, r, id, l⟩
    · exact iShowCommit_no h r id l A c W hid hn hR hh
    · exact iShowCommit_yes h r id l A c W hid hn hR hm hh
  have HS := Lib.hid fun (A : Option Addr) (c : Nat) (W : World) (hR : SReads W W.heap.size A l) => show Calls Try.prog 19 #[.agg #[.int .i64 h, .int .i64 r, .string (S id), .slice A l.length c]] W fun e w' => e = .returned (.string (S (showCommitS ⟨h, r, id, l⟩))) ∧ Below W.heap.size W w' from by
    cases hh : headC ⟨h, r, id, l⟩
    · exact sShowCommit_no h r id l A c W hid hn hR hh
    · exact sShowCommit_yes h r id l A c W hid hn hR hm hh
  clear hR hm hx
  generalize showCommitS ⟨h, r, id, l⟩ = V at *
  go_enter Try.func4, Try.ntmps4
  go_wp2_with fail
  refine (szCommit_any h r id A c l _ hid hn HM.out (HR.out.to (by repeat (first | with_reducible exact hb | with_reducible exact Below.refl _ _ | refine Below.drew ?_ | refine Below.setCell ?_ (by simp <;> omega) _ | refine Below.alloc ?_ (by simp <;> omega) _)))).mono ?_
  rintro e w0 ⟨q, rfl, b0, hq | ⟨hq, hi, hl⟩⟩
  · have hb0 : Below w.heap.size w w0 := Below.next (w := w) (by repeat (first | with_reducible exact hb | with_reducible exact Below.refl _ _ | refine Below.drew ?_ | refine Below.setCell ?_ (by simp <;> omega) _ | refine Below.alloc ?_ (by simp <;> omega) _)) b0
    go_wp2
    go_ret
    exact ⟨rfl, hb0⟩
  · have hq' : ¬ q < 0 := by omega
    have hb : Below w.heap.size w w0 := Below.next (w := w) (by repeat (first | with_reducible exact hb | with_reducible exact Below.refl _ _ | refine Below.drew ?_ | refine Below.setCell ?_ (by simp <;> omega) _ | refine Below.alloc ?_ (by simp <;> omega) _)) b0
    obtain ⟨hc0, hf0⟩ := bcell b0
    have hz0 := b0.size
    have hs0 := hb.size
    (try simp at hz0)
    (try have hy0 : w.heap.size < w0.heap.size := (by omega))
    go_wp2_with fail
    refine (toCommit_any h r id A c l _ (by omega) (HR.out.to (by repeat (first | with_reducible exact hb | with_reducible exact Below.refl _ _ | refine Below.drew ?_ | refine Below.setCell ?_ (by simp <;> omega) _ | refine Below.alloc ?_ (by simp <;> omega) _)))).mono ?_
    rintro e w1 ⟨G1, rfl, s1, b1⟩
    have hb : Below w.heap.size w w1 := Below.next (w := w) (by repeat (first | with_reducible exact hb | with_reducible exact Below.refl _ _ | refine Below.drew ?_ | refine Below.setCell ?_ (by simp <;> omega) _ | refine Below.alloc ?_ (by simp <;> omega) _)) b1
    obtain ⟨hc1, hf1⟩ := bcell b1
    have hz1 := b1.size
    have hs1 := hb.size
    (try simp at hz1)
    (try have hy1 : w.heap.size < w1.heap.size := (by omega))
    go_wp2_with fail
    refine (HS.out _ _ _ s1).mono ?_
    rintro e w2 ⟨rfl, b2⟩
    have hb : Below w.heap.size w w2 := Below.next (w := w) (by repeat (first | with_reducible exact hb | with_reducible exact Below.refl _ _ | refine Below.drew ?_ | refine Below.setCell ?_ (by simp <;> omega) _ | refine Below.alloc ?_ (by simp <;> omega) _)) b2
    obtain ⟨hc2, hf2⟩ := bcell b2
    have hz2 := b2.size
    have hs2 := hb.size
    (try simp at hz2)
    (try have hy2 : w.heap.size < w2.heap.size := (by omega))
    go_wp2_with fail
    refine (toCommit_any h r id A c l _ (by omega) (HR.out.to (by repeat (first | with_reducible exact hb | with_reducible exact Below.refl _ _ | refine Below.drew ?_ | refine Below.setCell ?_ (by simp <;> omega) _ | refine Below.alloc ?_ (by simp <;> omega) _)))).mono ?_
    rintro e w3 ⟨G3, rfl, s3, b3⟩
    have hb : Below w.heap.size w w3 := Below.next (w := w) (by repeat (first | with_reducible exact hb | with_reducible exact Below.refl _ _ | refine Below.drew ?_ | refine Below.setCell ?_ (by simp <;> omega) _ | refine Below.alloc ?_ (by simp <;> omega) _)) b3
    have S3 := Lib.hid s3
    obtain ⟨hc3, hf3⟩ := bcell b3
    have hz3 := b3.size
    have hs3 := hb.size
    (try simp at hz3)
    (try have hy3 : w.heap.size < w3.heap.size := (by omega))
    have hr3 := Below.refl w3.heap.size w3
    go_wp2_with fail
    refine (HI.out _ _ _ (S3.out.to (by repeat (first | with_reducible exact Below.refl _ _ | refine Below.alloc ?_ (by simp <;> omega) _)))).mono ?_
    rintro e w4 ⟨rfl, b4⟩
    have hb : Below w.heap.size w w4 := Below.next (w := w) (hb.alloc hb.size _) b4
    have S4 := Lib.hid (SReads.to (SReads.to s3 (by repeat (first | with_reducible exact Below.refl _ _ | refine Below.alloc ?_ (by simp <;> omega) _))) b4)
    obtain ⟨hc4, hf4⟩ := bcell b4
    have hz4 := b4.size
    have hs4 := hb.size
    (try simp at hz4)
    (try have hy4 : w.heap.size < w4.heap.size := (by omega))
    have e0 : w4.cell? ⟨w3.heap.size, 0, none⟩ = some (.int .i64 h) := by rw [hc4 _ _ (by simp)]; go_simp
    have e1 : w4.cell? ⟨w3.heap.size, 1, none⟩ = some (.int .i64 r) := by rw [hc4 _ _ (by simp)]; go_simp
    have e2 : w4.cell? ⟨w3.heap.size, 2, none⟩ = some (.string (S id)) := by rw [hc4 _ _ (by simp)]; go_simp
    have e3 : w4.cell? ⟨w3.heap.size, 3, none⟩ = some (.slice (some ⟨G3, 0, none⟩) l.length l.length) := by rw [hc4 _ _ (by simp)]; go_simp
    have hq3 : w3.heap.size < w4.heap.size := by omega
    have d0 : w4.cell? ⟨w.heap.size, 0, none⟩ = some (.int .i64 h) := by go_simp
    have d1 : w4.cell? ⟨w.heap.size, 1, none⟩ = some (.int .i64 r) := by go_simp
    have d2 : w4.cell? ⟨w.heap.size, 2, none⟩ = some (.string (S id)) := by go_simp
    have d3 : w4.cell? ⟨w.heap.size, 3, none⟩ = some (.slice A l.length c) := by go_simp
    have hqq : w.heap.size < w4.heap.size := by omega
    clear hc0 hc1 hc2 hc3 hc4 hf0 hf1 hf2 hf3 hf4
    go_wp2_with fail
    go_region_with (first
      | (go_at_call 20; refine (toCommit_any h r id A c l _ (by omega) (HR.out.to (by repeat (first | with_reducible exact hb | with_reducible exact Below.refl _ _ | refine Below.drew ?_ | refine Below.setCell ?_ (by simp <;> omega) _ | refine Below.alloc ?_ (by simp <;> omega) _)))).mono ?_; rintro e w5 ⟨G5, rfl, s5, b5⟩; have hb : Below w.heap.size w w5 := Below.next (w := w) (by repeat (first | with_reducible exact hb | with_reducible exact Below.refl _ _ | refine Below.drew ?_ | refine Below.setCell ?_ (by simp <;> omega) _ | refine Below.alloc ?_ (by simp <;> omega) _)) b5; have S5 := Lib.hid (SReads.to (w := w4.drew) S4.out b5); have e0 := (b5.cell (p := ⟨w3.heap.size, 0, none⟩) hq3).trans e0; have e1 := (b5.cell (p := ⟨w3.heap.size, 1, none⟩) hq3).trans e1; have e2 := (b5.cell (p := ⟨w3.heap.size, 2, none⟩) hq3).trans e2; have e3 := (b5.cell (p := ⟨w3.heap.size, 3, none⟩) hq3).trans e3; have d0 := (b5.cell (p := ⟨w.heap.size, 0, none⟩) hqq).trans d0; have d1 := (b5.cell (p := ⟨w.heap.size, 1, none⟩) hqq).trans d1; have d2 := (b5.cell (p := ⟨w.heap.size, 2, none⟩) hqq).trans d2; have d3 := (b5.cell (p := ⟨w.heap.size, 3, none⟩) hqq).trans d3; have hz5 := b5.size; have hs5 := hb.size; (try simp at hz5))
      | (go_at_call 22; refine (eqCommit_same h r id _ _ _ _ l _ (by omega) S5.out s5).mono ?_; rintro e w6 ⟨rfl, b6⟩; have hb : Below w.heap.size w w6 := Below.next (w := w) (by repeat (first | with_reducible exact hb | with_reducible exact Below.refl _ _ | refine Below.drew ?_ | refine Below.setCell ?_ (by simp <;> omega) _ | refine Below.alloc ?_ (by simp <;> omega) _)) b6))
    all_goals
      go_wp2
      go_ret
      exact ⟨rfl, hb⟩
end Go.Proofs.Ytfccpjajgekmnaa.fnExactShowCommit
