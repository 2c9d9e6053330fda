/-
  Texts of this proof, laid into one: WExactCommitVals.
-/
import Derived.Test.YtecimgkgdpnaeaaDoorGFnExactCommitVals19
import Derived.Test.YtecimgkgdpnaeaaDoorGFnExactCommitVals12
import Derived.Test.YtecimgkgdpnaeaaDoorGFnExactCommitVals13
import Derived.Test.YtecimgkgdpnaeaaDoorGFnExactCommitVals6
/-
  The law FnExactCommitVals: the walk.
-/
namespace Go.Proofs.YtecimgkgdpnaeaaDoor.fnExactCommitVals
open Go.ChangeShapes Go.WideShapes Go.ChangeAt Go.RowKit
set_option linter.unusedVariables false
set_option maxRecDepth 100000

theorem own_ireadsV {w : World} {base : Nat} {e : TypeId} {A : Option Addr} {n c : Nat} {l : List Int} (h : w.ownsRow base e 1 (.slice A n c) n (l.map iv)) (hn : l.length = n) : IReads w w.heap.size A l := by subst hn; exact IReads.of_own h
/-- The cells of two commits, held over calls that make memory. -/
theorem cvl_keep {w0 cur wm : World} {b B : Nat} {v0 v1 v2 v3 u0 u1 u2 u3 : Value} (hb1 : b < w0.heap.size) (hb2 : B < w0.heap.size)
    (H : Below w0.heap.size w0 cur) (c0 : w0.cell? ⟨b, 0, none⟩ = some v0) (c1 : w0.cell? ⟨b, 1, none⟩ = some v1) (c2 : w0.cell? ⟨b, 2, none⟩ = some v2) (c3 : w0.cell? ⟨b, 3, none⟩ = some v3) (e0 : w0.cell? ⟨B, 0, none⟩ = some u0) (e1 : w0.cell? ⟨B, 1, none⟩ = some u1) (e2 : w0.cell? ⟨B, 2, none⟩ = some u2) (e3 : w0.cell? ⟨B, 3, none⟩ = some u3) (hb : Below cur.heap.size cur wm) :
    Below w0.heap.size w0 wm ∧ wm.cell? ⟨b, 0, none⟩ = some v0 ∧ wm.cell? ⟨b, 1, none⟩ = some v1 ∧ wm.cell? ⟨b, 2, none⟩ = some v2 ∧ wm.cell? ⟨b, 3, none⟩ = some v3 ∧ wm.cell? ⟨B, 0, none⟩ = some u0 ∧ wm.cell? ⟨B, 1, none⟩ = some u1 ∧ wm.cell? ⟨B, 2, none⟩ = some u2 ∧ wm.cell? ⟨B, 3, none⟩ = some u3 := by
  have h := Below.next H hb
  exact ⟨h, (h.cell (p := ⟨b, 0, none⟩) hb1).trans c0, (h.cell (p := ⟨b, 1, none⟩) hb1).trans c1, (h.cell (p := ⟨b, 2, none⟩) hb1).trans c2, (h.cell (p := ⟨b, 3, none⟩) hb1).trans c3, (h.cell (p := ⟨B, 0, none⟩) hb2).trans e0, (h.cell (p := ⟨B, 1, none⟩) hb2).trans e1, (h.cell (p := ⟨B, 2, none⟩) hb2).trans e2, (h.cell (p := ⟨B, 3, none⟩) hb2).trans e3⟩

set_option maxHeartbeats 4000000 in
theorem walk (x : CommitT) (A : Option Addr) (c : Nat) (w : World) (hx : -9223372036854775808 ≤ x.h ∧ x.h ≤ 9223372036854775807 ∧ -9223372036854775808 ≤ x.r ∧ x.r ≤ 9223372036854775807 ∧ x.id.length ≤ 9223372036854775807) (hn : x.sigs.length ≤ 9223372036854775807) (hm : ∀ s ∈ x.sigs, s.sig.length ≤ 9223372036854775807) (hR : SReads w w.heap.size A x.sigs) (hK : HasK w) :
    Calls Tryd.prog 4 #[.agg #[.int .i64 x.h, .int .i64 x.r, .string (S x.id), .slice A x.sigs.length c]] w fun e w' => e = .returned (.bool true) ∧ Below w.heap.size w w' := by
  have hid := hx.2.2.2.2
  have hvl := comVals_len x
  have HS := Lib.hid fun (A : Option Addr) (c : Nat) (W : World) (hR : SReads W W.heap.size A x.sigs) => sCommitVals_any x A c W hid hn hm hR
  have HI := Lib.hid fun (A : Option Addr) (c : Nat) (W : World) (hR : SReads W W.heap.size A x.sigs) (hK : HasK W) => iCommitVals_any x A c W hid hn hm hR hK
  obtain ⟨h, r, id, l⟩ := x
  simp only at hid hn hm hR HS HI hvl ⊢
  generalize comValsS ⟨h, r, id, l⟩ = V at *
  have HR := Lib.hid hR
  have HM := Lib.hid hm
  have HK := Lib.hid hK
  clear hR hm hx hK
  have hbW := (Below.refl w.heap.size w).alloc (Nat.le_refl _) (.cells #[.int .i64 h, .int .i64 r, .string (S id), .slice A l.length c] 41)
  have hz0 : (w.alloc (.cells #[.int .i64 h, .int .i64 r, .string (S id), .slice A l.length c] 41)).heap.size = w.heap.size + 1 := by simp
  have e0 : (w.alloc (.cells #[.int .i64 h, .int .i64 r, .string (S id), .slice A l.length c] 41)).cell? ⟨w.heap.size, 0, none⟩ = some (.int .i64 h) := by go_simp
  have e1 : (w.alloc (.cells #[.int .i64 h, .int .i64 r, .string (S id), .slice A l.length c] 41)).cell? ⟨w.heap.size, 1, none⟩ = some (.int .i64 r) := by go_simp
  have e2 : (w.alloc (.cells #[.int .i64 h, .int .i64 r, .string (S id), .slice A l.length c] 41)).cell? ⟨w.heap.size, 2, none⟩ = some (.string (S id)) := by go_simp
  have e3 : (w.alloc (.cells #[.int .i64 h, .int .i64 r, .string (S id), .slice A l.length c] 41)).cell? ⟨w.heap.size, 3, none⟩ = some (.slice A l.length c) := by go_simp
  go_enter Tryd.func4, Tryd.ntmps4
  go_wp2_with fail
  generalize w.alloc (.cells #[.int .i64 h, .int .i64 r, .string (S id), .slice A l.length c] 41) = W0 at *
  have hwl : w.heap.size < W0.heap.size := by omega
  have HC := Lib.hid fun (W : World) (hb : Below W0.heap.size W0 W) => (⟨(hb.cell (p := ⟨w.heap.size, 0, none⟩) hwl).trans e0, (hb.cell (p := ⟨w.heap.size, 1, none⟩) hwl).trans e1, (hb.cell (p := ⟨w.heap.size, 2, none⟩) hwl).trans e2, (hb.cell (p := ⟨w.heap.size, 3, none⟩) hwl).trans e3⟩ : W.cell? ⟨w.heap.size, 0, none⟩ = some (.int .i64 h) ∧ W.cell? ⟨w.heap.size, 1, none⟩ = some (.int .i64 r) ∧ W.cell? ⟨w.heap.size, 2, none⟩ = some (.string (S id)) ∧ W.cell? ⟨w.heap.size, 3, none⟩ = some (.slice A l.length c))
  have HRW := Lib.hid (HR.out.to hbW)
  have HKW := Lib.hid (HK.out.to hbW)
  have HBW := Lib.hid hbW
  clear hbW e0 e1 e2 e3 HR HK
  refine (szCommit_any h r id A c l _ hid hn HM.out HRW.out).mono ?_
  rintro e w1 ⟨q, rfl, b1, hq | ⟨hq, hi, hl⟩⟩
  · have hb1 : Below w.heap.size w w1 := Below.next HBW.out b1
    go_wp2
    go_ret
    exact ⟨rfl, hb1⟩
  · have hq' : ¬ q < 0 := by omega
    obtain ⟨d0, d1, d2, d3⟩ := HC.out _ b1
    go_wp2_with fail
    refine (toCommit_own h r id A c l _ (by omega) (HRW.out.to b1)).mono ?_
    rintro e w2 ⟨G1, rfl, o1, g1, g1', b2⟩
    have hb2 := Below.next b1 b2
    clear b1 b2 d0 d1 d2 d3
    go_wp2_with fail
    refine (HS.out _ _ _ (SReads.of_own o1)).mono ?_
    rintro e w3 ⟨A1, c1, rfl, ow, b3⟩
    have hb3 := Below.next hb2 b3
    have z23 := b3.size
    have z03 := hb3.size
    clear o1 hb2 b3
    obtain ⟨d0, d1, d2, d3⟩ := HC.out _ hb3
    go_wp2_with fail
    refine (toCommit_own h r id A c l _ (by omega) (HRW.out.to hb3)).mono ?_
    rintro e w4 ⟨G2, rfl, ox, g2, g2', b4⟩
    have hb4 := Below.next hb3 b4
    have ow4 := own_below ow b4
    have lw := ow.lt
    have z34 := b4.size
    clear hb3 b4 ow d0 d1 d2 d3
    have hzw := hb4.size
    have hX5 : w4.heap.size < (w4.alloc (.cells #[.int .i64 h, .int .i64 r, .string (S id), .slice (some ⟨G2, 0, none⟩) l.length l.length] 33)).heap.size := by simp
    have p0 : (w4.alloc (.cells #[.int .i64 h, .int .i64 r, .string (S id), .slice (some ⟨G2, 0, none⟩) l.length l.length] 33)).cell? ⟨w4.heap.size, 0, none⟩ = some (.int .i64 h) := by go_simp
    have p1 : (w4.alloc (.cells #[.int .i64 h, .int .i64 r, .string (S id), .slice (some ⟨G2, 0, none⟩) l.length l.length] 33)).cell? ⟨w4.heap.size, 1, none⟩ = some (.int .i64 r) := by go_simp
    have p2 : (w4.alloc (.cells #[.int .i64 h, .int .i64 r, .string (S id), .slice (some ⟨G2, 0, none⟩) l.length l.length] 33)).cell? ⟨w4.heap.size, 2, none⟩ = some (.string (S id)) := by go_simp
    have p3 : (w4.alloc (.cells #[.int .i64 h, .int .i64 r, .string (S id), .slice (some ⟨G2, 0, none⟩) l.length l.length] 33)).cell? ⟨w4.heap.size, 3, none⟩ = some (.slice (some ⟨G2, 0, none⟩) l.length l.length) := by go_simp
    have hb5 := hb4.alloc hzw (.cells #[.int .i64 h, .int .i64 r, .string (S id), .slice (some ⟨G2, 0, none⟩) l.length l.length] 33)
    have ox5 := ox.alloc (.cells #[.int .i64 h, .int .i64 r, .string (S id), .slice (some ⟨G2, 0, none⟩) l.length l.length] 33)
    have ow5 := ow4.alloc (.cells #[.int .i64 h, .int .i64 r, .string (S id), .slice (some ⟨G2, 0, none⟩) l.length l.length] 33)
    clear ox ow4
    go_wp2_with fail
    generalize w4.alloc (.cells #[.int .i64 h, .int .i64 r, .string (S id), .slice (some ⟨G2, 0, none⟩) l.length l.length] 33) = W5 at *
    have HP := Lib.hid fun (W : World) (hb : Below W5.heap.size W5 W) => (⟨(hb.cell (p := ⟨w4.heap.size, 0, none⟩) hX5).trans p0, (hb.cell (p := ⟨w4.heap.size, 1, none⟩) hX5).trans p1, (hb.cell (p := ⟨w4.heap.size, 2, none⟩) hX5).trans p2, (hb.cell (p := ⟨w4.heap.size, 3, none⟩) hX5).trans p3⟩ : W.cell? ⟨w4.heap.size, 0, none⟩ = some (.int .i64 h) ∧ W.cell? ⟨w4.heap.size, 1, none⟩ = some (.int .i64 r) ∧ W.cell? ⟨w4.heap.size, 2, none⟩ = some (.string (S id)) ∧ W.cell? ⟨w4.heap.size, 3, none⟩ = some (.slice (some ⟨G2, 0, none⟩) l.length l.length))
    clear p0 p1 p2 p3
    refine (HI.out _ _ _ (SReads.of_own ox5) (HKW.out.to hb5)).mono ?_
    rintro e w6 ⟨A2, c2, rfl, og, b6⟩
    have hb6 := Below.next hb5 b6
    have ow6 := own_below ow5 b6
    have ox6 := own_below ox5 b6
    have lg := og.lt
    clear ow5 ox5 hb4 hb5
    go_wp2_with fail
    refine (eqIntS_same A2 A1 c2 c1 V _ (by omega) (own_ireadsV og rfl) (own_ireadsV ow6 rfl)).mono ?_
    rintro e w7 ⟨rfl, b7⟩
    have hb7 := Below.next hb6 b7
    have ow7 := own_below ow6 b7
    have ox7 := own_below ox6 b7
    have og7 := own_below og b7
    have hx7 := Below.next b6 b7
    have z57 := hx7.size
    obtain ⟨d0, d1, d2, d3⟩ := HC.out _ hb7
    obtain ⟨p0, p1, p2, p3⟩ := HP.out _ hx7
    have HX7 := Lib.hid fun (W : World) (hb : Below w7.drew.heap.size w7.drew W) => SReads.to (w := w7.drew) (SReads.of_own ox7) hb
    have HR7 := Lib.hid fun (W : World) (hb : Below w7.drew.heap.size w7.drew W) => HRW.out.to (Below.next hb7.drew hb)
    have hw7 : w.heap.size < w7.drew.heap.size := by show w.heap.size < w7.heap.size; omega
    have hx7' : w4.heap.size < w7.drew.heap.size := by show w4.heap.size < w7.heap.size; omega
    have hC := cvl_keep (w0 := w7.drew) hw7 hx7' (Below.refl _ _) d0 d1 d2 d3 p0 p1 p2 p3 (Below.refl _ _)
    clear b6 b7 hb6 ow6 ox6 og
    go_wp2_with fail
    go_region_held3 (fun w' => Below w7.drew.heap.size w7.drew w' ∧ w'.cell? ⟨w.heap.size, 0, none⟩ = some (.int .i64 h) ∧ w'.cell? ⟨w.heap.size, 1, none⟩ = some (.int .i64 r) ∧ w'.cell? ⟨w.heap.size, 2, none⟩ = some (.string (S id)) ∧ w'.cell? ⟨w.heap.size, 3, none⟩ = some (.slice A l.length c) ∧ w'.cell? ⟨w4.heap.size, 0, none⟩ = some (.int .i64 h) ∧ w'.cell? ⟨w4.heap.size, 1, none⟩ = some (.int .i64 r) ∧ w'.cell? ⟨w4.heap.size, 2, none⟩ = some (.string (S id)) ∧ w'.cell? ⟨w4.heap.size, 3, none⟩ = some (.slice (some ⟨G2, 0, none⟩) l.length l.length)) (first | exact hC | exact cvl_keep hw7 hx7' (And.left (by assumption)) d0 d1 d2 d3 p0 p1 p2 p3 hbm | go_keep)
      (first | (go_at_call 24; refine (toCommit_own h r id A c l _ (by omega) (HR7.out _ (And.left (by assumption)))).mono ?_; rintro e wm ⟨G3, rfl, o8, g3, g3', hbm⟩) | (go_at_call 27; refine (eqCommit_same h r id _ _ _ _ l _ (by omega) (HX7.out _ (And.left (by assumption))) (SReads.of_own o8)).mono ?_; rintro e wm ⟨rfl, hbm⟩))
    all_goals
      have hbx : Below w7.drew.heap.size w7.drew wm := by apply And.left; assumption
      have ow8 := own_below (w := w7.drew) ow7 hbx
      have ox8 := own_below (w := w7.drew) ox7 hbx
      have og8 := own_below (w := w7.drew) og7 hbx
      have hb8 := Below.next hb7.drew hbx
      have z78 : w7.heap.size ≤ wm.heap.size := hbx.size
      have q0 := (hbx.cell (p := ⟨w4.heap.size, 0, none⟩) hx7').trans p0
      have q1 := (hbx.cell (p := ⟨w4.heap.size, 1, none⟩) hx7').trans p1
      have q2 := (hbx.cell (p := ⟨w4.heap.size, 2, none⟩) hx7').trans p2
      have q3 := (hbx.cell (p := ⟨w4.heap.size, 3, none⟩) hx7').trans p3
      have hk1 : ¬ (1 + 2 * (l.length : Int)) < 0 := by omega
      have HR8 := Lib.hid (HRW.out.to hb8)
      clear d0 d1 d2 d3 p0 p1 p2 p3 hC HX7 HR7 hb7 ow7 ox7 og7 hx7 hbx
      go_wp2_with fail
      refine (markCommit_keep w3.heap.size h r id _ _ l 1 _ (by omega) (by omega) (by omega) (by omega) ox8).mono ?_
      rintro e w9 ⟨rfl, o9, b9, gb9⟩
      have ow9 := own_gb ow8 gb9 (fun q hq => by have h1 := (lw q hq).2; intro e; have e' : q = G2 := by simpa using e
                                                 omega)
      have og9 := own_gb og8 gb9 (fun q hq => by have h1 := (lg q hq).1; intro e; have e' : q = G2 := by simpa using e
                                                 omega)
      have hb9 := hb8.trans (b9.mono (by omega))
      have z89 := b9.size
      clear ow8 og8 ox8 q0 q1 q2 q3 hb8 b9 gb9 o9
      go_wp2_with fail
      refine (eqIntS_same A2 A1 c2 c1 V _ (by omega) (own_ireadsV og9 rfl) (own_ireadsV ow9 rfl)).mono ?_
      rintro e w10 ⟨rfl, b10⟩
      have hb10 := Below.next hb9 b10
      have ow10 := own_below ow9 b10
      have og10 := own_below og9 b10
      have z910 := b10.size
      clear hb9 ow9 og9 b10
      go_wp2_with fail
      refine (markIntS_keep W5.heap.size A2 c2 V 1 w10 (by omega) (by omega) (by omega) og10).mono ?_
      rintro e w11 ⟨rfl, o11, b11, gb11⟩
      have ow11 := own_gb ow10 gb11 (fun q hq => by
        have h1 := (lw q hq).2
        intro e
        cases A2 with
        | none => simp at e
        | some a => (have := (lg q (by simpa [Value.ownBlock] using e.symm)).1; omega))
      have hb11 := hb10.trans (b11.mono (by omega))
      clear hb10 ow10 og10 b11 gb11
      go_wp2_with fail
      refine (heldIntS_any A2 c2 V.length 1 w11 (by omega) (by omega) (by omega) (own_ireadsV o11 (marksI_len _ _))).mono ?_
      rintro e w12 ⟨rfl, b12⟩
      have hb12 := Below.next hb11 b12
      have ow12 := own_below ow11 b12
      have o12 := own_below o11 b12
      clear hb11 ow11 o11 b12
      obtain ⟨d0, d1, d2, d3⟩ := HC.out _ hb12
      have hk2 : ¬ (1 + (V.length : Int)) < 0 := by omega
      go_wp2_with fail
      refine (toCommit_own h r id A c l _ (by omega) (HRW.out.to hb12)).mono ?_
      rintro e w13 ⟨G4, rfl, o13, g4, g4', b13⟩
      have hb13 := Below.next hb12 b13
      have ow13 := own_below ow12 b13
      have oz13 := own_below o12 b13
      clear hb12 ow12 o12 b13 d0 d1 d2 d3
      go_wp2_with fail
      refine (HI.out _ _ _ (SReads.of_own o13) (HKW.out.to hb13)).mono ?_
      rintro e w14 ⟨A3, c3, rfl, oh, b14⟩
      have hb14 := Below.next hb13 b14
      have ow14 := own_below ow13 b14
      have oz14 := own_below oz13 b14
      clear hb13 ow13 oz13 b14 o13
      go_wp2_with fail
      refine (eqIntS_same A3 A1 c3 c1 V _ (by omega) (own_ireadsV oh rfl) (own_ireadsV ow14 rfl)).mono ?_
      rintro e w15 ⟨rfl, b15⟩
      have hb15 := Below.next hb14 b15
      have oz15 := own_below oz14 b15
      clear hb14 ow14 oz14 b15 oh
      go_wp2_with fail
      refine (heldIntS_any A2 c2 V.length 1 w15 (by omega) (by omega) (by omega) (own_ireadsV oz15 (marksI_len _ _))).mono ?_
      rintro e w16 ⟨rfl, b16⟩
      have hb16 := Below.next HBW.out (Below.next hb15 b16)
      clear oz15 hb15 b16
      go_wp2
      go_ret
      exact ⟨rfl, hb16⟩
end Go.Proofs.YtecimgkgdpnaeaaDoor.fnExactCommitVals
