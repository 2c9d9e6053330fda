/-
  Texts of this proof, laid into one: WCommit.
-/
import Derived.Test.YtecimgkgdpnaeaaDoorGFnCommit22
import Derived.Test.YtecimgkgdpnaeaaDoorGFnCommit5
import Derived.Test.YtecimgkgdpnaeaaDoorGFnCommit12
import Derived.Test.YtecimgkgdpnaeaaDoorGFnCommit21
import Derived.Test.YtecimgkgdpnaeaaDoorGFnCommit7
import Derived.Test.YtecimgkgdpnaeaaDoorGFnCommit19
import Derived.Test.YtecimgkgdpnaeaaDoorGFnCommit2
/-
  The law FnCommit: the walk.
-/
namespace Go.Proofs.YtecimgkgdpnaeaaDoor.fnCommit
open Go.ChangeShapes Go.WideShapes Go.ChangeAt Go.RowKit
set_option linter.unusedVariables false
set_option maxRecDepth 100000

set_option linter.unusedSimpArgs false
theorem iCommitVals_flat (h r : Int) (id : List UInt8) (l : List SigT) (A : Option Addr) (c : Nat) (w : World) (hid : id.length ≤ 9223372036854775807) (hn : l.length ≤ 9223372036854775807) (hsl : ∀ s ∈ l, s.sig.length ≤ 9223372036854775807) (hR : SReads w w.heap.size A l) (hK : HasK w) :
    Calls Tryd.prog 25 #[.agg #[.int .i64 h, .int .i64 r, .string (S id), .slice A l.length c]] w fun e w' => ∃ (A' : Option Addr) (c' : Nat), e = .returned (.slice A' (comValsS ⟨h, r, id, l⟩).length c') ∧ w'.ownsRow w.heap.size 3 1 (.slice A' (comValsS ⟨h, r, id, l⟩).length c') (comValsS ⟨h, r, id, l⟩).length ((comValsS ⟨h, r, id, l⟩).map iv) ∧ Below w.heap.size w w' := iCommitVals_any ⟨h, r, id, l⟩ A c w hid hn hsl hR hK
theorem sCommitVals_flat (h r : Int) (id : List UInt8) (l : List SigT) (A : Option Addr) (c : Nat) (w : World) (hid : id.length ≤ 9223372036854775807) (hn : l.length ≤ 9223372036854775807) (hsl : ∀ s ∈ l, s.sig.length ≤ 9223372036854775807) (hR : SReads w w.heap.size A l) :
    Calls Tryd.prog 23 #[.agg #[.int .i64 h, .int .i64 r, .string (S id), .slice A l.length c]] w fun e w' => ∃ (A' : Option Addr) (c' : Nat), e = .returned (.slice A' (comValsS ⟨h, r, id, l⟩).length c') ∧ w'.ownsRow w.heap.size 3 1 (.slice A' (comValsS ⟨h, r, id, l⟩).length c') (comValsS ⟨h, r, id, l⟩).length ((comValsS ⟨h, r, id, l⟩).map iv) ∧ Below w.heap.size w w' := sCommitVals_any ⟨h, r, id, l⟩ A c w hid hn hsl hR
theorem sHeadId_flat (h t : Int) (la va ne da : List UInt8) (W : World) (h1 : la.length ≤ 9223372036854775807) (h2 : va.length ≤ 9223372036854775807) (h3 : ne.length ≤ 9223372036854775807) (h4 : da.length ≤ 9223372036854775807) :
    Calls Tryd.prog 21 #[.agg #[.int .i64 h, .int .i64 t, .string (S la), .string (S va), .string (S ne), .string (S da)]] W fun e w' => e = .returned (.string (S (headIdS ⟨h, t, la, va, ne, da⟩))) ∧ Below W.heap.size W w' := sHeadId_any ⟨h, t, la, va, ne, da⟩ W h1 h2 h3 h4
theorem all_twice {l : List SigT} {P : SigT → Prop} (h : ∀ s ∈ l, P s) : ∀ s ∈ l ++ l, P s := by
  intro s hs
  rcases List.mem_append.1 hs with h1 | h1 <;> exact h s h1

set_option maxHeartbeats 4000000 in
theorem walk (A : Option Addr) (c : Nat) (l : List UInt8) (w : World) (hl : l.length ≤ 9223372036854775807) (hR : BReads w w.heap.size A l) (hK : HasK w) :
    Calls Tryd.prog 5 #[.slice A l.length c] w fun e w' => e = .returned (.bool true) ∧ Below w.heap.size w w' := by
  have hb := Below.refl w.heap.size w
  by_cases h : l.length ≤ 1048576
  · have hbig : decide (1048576 < l.length) = false := by simp; omega
    have HD := Lib.hid (drawCommitOk_in ⟨A, c, l⟩ w h hR)
    have HK := Lib.hid hK
    clear hK hR
    go_enter Tryd.func5, Tryd.ntmps5
    go_wp2_with fail
    refine (big_any _ _ _ _ hl).mono ?_
    rintro e w' ⟨rfl, hw⟩
    have hw := hw.symm
    subst hw
    rw [hbig]
    clear h hbig hl
    go_wp2_with fail
    refine HD.out.mono ?_
    rintro e w1 ⟨L, Av, vc, h, t, la, va, ne, da, ch, cr, id, l, Ac, cc, rfl, ⟨hL4, hh1, hh2, ht1, ht2, hla, hva, hne, hda, hc1, hc2, hr1, hr2, hid, hl13, hAc⟩, hsg, hvr, hsr, b⟩
    clear HD
    have hb := Below.next hb b
    clear b
    have hG := (H6.new w1 25 (.int .i64 h) (.int .i64 t) (.string (S la)) (.string (S va)) (.string (S ne)) (.string (S da))).alloc (.cells #[.int .i64 ch, .int .i64 cr, .string (S id), .slice Ac l.length cc] 33)
    have hC := H4.new (w1.alloc (.cells #[.int .i64 h, .int .i64 t, .string (S la), .string (S va), .string (S ne), .string (S da)] 25)) 33 (.int .i64 ch) (.int .i64 cr) (.string (S id)) (.slice Ac l.length cc)
    have hsz : (w1.alloc (.cells #[.int .i64 h, .int .i64 t, .string (S la), .string (S va), .string (S ne), .string (S da)] 25)).heap.size = w1.heap.size + 1 := by simp
    rw [hsz] at hC
    have hbW := (((Below.refl _ w1).alloc (Nat.le_refl _) (.cells #[.int .i64 h, .int .i64 t, .string (S la), .string (S va), .string (S ne), .string (S da)] 25)).alloc (by simp) (.cells #[.int .i64 ch, .int .i64 cr, .string (S id), .slice Ac l.length cc] 33))
    have HVR := Lib.hid (hvr.out.to hbW)
    have HSR := Lib.hid (hsr.out.to hbW)
    have hb := (hb.alloc hb.size (.cells #[.int .i64 h, .int .i64 t, .string (S la), .string (S va), .string (S ne), .string (S da)] 25)).alloc (by simp; have := hb.size; omega) (.cells #[.int .i64 ch, .int .i64 cr, .string (S id), .slice Ac l.length cc] 33)
    clear hvr hsr hbW hsz hc1 hc2 hr1 hr2
    go_wp2_with fail
    generalize hB4 : w1.heap.size = b4 at *
    generalize hB5 : b4 + 1 = b5 at *
    generalize hW3 : (w1.alloc (.cells #[.int .i64 h, .int .i64 t, .string (S la), .string (S va), .string (S ne), .string (S da)] 25)).alloc (.cells #[.int .i64 ch, .int .i64 cr, .string (S id), .slice Ac l.length cc] 33) = W3 at *
    clear hW3
    have hq := Below.refl W3.heap.size W3
    have HKF := Lib.hid fun (W : World) (q : Below W3.heap.size W3 W) => HK.out.to (Below.next hb q)
    have HSL := Lib.hid (fun s hs => by have := hsg.out s hs; omega : ∀ s ∈ l, s.sig.length ≤ 9223372036854775807)
    have HCV := Lib.hid fun (W : World) (q : Below W3.heap.size W3 W) => iCommitVals_flat ch cr id l Ac cc W (by omega) (by omega) HSL.out (HSR.out.to q) (HKF.out W q)
    have HCS := Lib.hid fun (W : World) (q : Below W3.heap.size W3 W) => sCommitVals_flat ch cr id l Ac cc W (by omega) (by omega) HSL.out (HSR.out.to q)
    have HOK := Lib.hid fun (W : World) (q : Below W3.heap.size W3 W) => iCommitOk_any L Av vc h t la va ne da ch cr id l Ac cc W (by omega) (HVR.out.to q) (by omega) (by omega) (by omega) (by omega) (by omega) (by omega) HSL.out (HSR.out.to q) (HKF.out W q)
    have HOS := Lib.hid fun (W : World) (q : Below W3.heap.size W3 W) => sCommitOk_any L Av vc h t la va ne da ch cr id l Ac cc W (by omega) (HVR.out.to q) (by omega) (by omega) (by omega) (by omega) (by omega) (by omega) HSL.out (HSR.out.to q)
    have HGK := Lib.hid fun (W : World) (q : Below W3.heap.size W3 W) => iCommitOk_any L Av vc h (t + 1) la va ne da ch cr id l Ac cc W (by omega) (HVR.out.to q) (by omega) (by omega) (by omega) (by omega) (by omega) (by omega) HSL.out (HSR.out.to q) (HKF.out W q)
    have HDK := Lib.hid fun (W : World) (A9 : Option Addr) (c9 : Nat) (q : Below W3.heap.size W3 W) (hs9 : SReads W W.heap.size A9 (l ++ l)) => iCommitOk_any L Av vc h t la va ne da ch cr id (l ++ l) A9 c9 W (by omega) (HVR.out.to q) (by omega) (by omega) (by omega) (by omega) (by omega) (by rw [List.length_append]; omega) (all_twice HSL.out) hs9 (HKF.out W q)
    rw [List.length_append] at HDK
    have HIG := Lib.hid fun (W : World) => sHeadId_flat h (t + 1) la va ne da W (by omega) (by omega) (by omega) (by omega)
    have HIH := Lib.hid fun (W : World) => sHeadId_flat h t la va ne da W (by omega) (by omega) (by omega) (by omega)
    have hVl := comVals_len ⟨ch, cr, id, l⟩
    have HE := Lib.hid fun (W : World) (A' : Option Addr) (c' : Nat) (q : Below W3.heap.size W3 W) (qi : IReads W W.heap.size A' (comValsS ⟨ch, cr, id, l⟩)) => sEnough_any Av vc L A' c' (comValsS ⟨ch, cr, id, l⟩) W (by omega) (by omega) (HVR.out.to q) qi
    have HSM := Lib.hid fun (W : World) (A1 A2 : Option Addr) (c1 c2 : Nat) (q1 : IReads W W.heap.size A1 (comValsS ⟨ch, cr, id, l⟩)) (q2 : IReads W W.heap.size A2 (comValsS ⟨ch, cr, id, l⟩)) => sameInts_same A1 A2 c1 c2 (comValsS ⟨ch, cr, id, l⟩) W (by omega) q1 q2
    have hen : comOkB L ⟨h, t, la, va, ne, da⟩ ⟨ch, cr, id, l⟩ = true → enoughB L (comValsS ⟨ch, cr, id, l⟩) = true := comOk_enough
    have hps : comOkB L ⟨h, t, la, va, ne, da⟩ ⟨ch, cr, id, l⟩ = true → 0 < (comValsS ⟨ch, cr, id, l⟩).length := comOk_some
    have hgt : comOkB L ⟨h, t, la, va, ne, da⟩ ⟨ch, cr, id, l⟩ = true → comOkB L ⟨h, t + 1, la, va, ne, da⟩ ⟨ch, cr, id, l⟩ = true → headIdS ⟨h, t + 1, la, va, ne, da⟩ = headIdS ⟨h, t, la, va, ne, da⟩ := comOk_time
    have htw : comOkB L ⟨h, t, la, va, ne, da⟩ ⟨ch, cr, id, l⟩ = true → l.length + l.length ≤ 12 → comOkB L ⟨h, t, la, va, ne, da⟩ ⟨ch, cr, id, l ++ l⟩ = true := comOk_twice
    generalize comValsS ⟨ch, cr, id, l⟩ = V at *
    generalize comOkB L ⟨h, t, la, va, ne, da⟩ ⟨ch, cr, id, l⟩ = ok at *
    generalize comOkB L ⟨h, t + 1, la, va, ne, da⟩ ⟨ch, cr, id, l⟩ = gk at *
    generalize comOkB L ⟨h, t, la, va, ne, da⟩ ⟨ch, cr, id, l ++ l⟩ = dk at *
    generalize headIdS ⟨h, t + 1, la, va, ne, da⟩ = ig at *
    generalize headIdS ⟨h, t, la, va, ne, da⟩ = ih at *
    generalize enoughB L V = en at *
    have HPS := Lib.hid hps
    have HEN := Lib.hid hen
    have HGT := Lib.hid hgt
    have HTW := Lib.hid htw
    clear hen hgt htw hps
    obtain ⟨hCl, m0, m1, m2, m3, mf⟩ := _root_.id hC
    go_wp2_with fail
    refine (HCV.out _ hq).mono ?_
    rintro e w4 ⟨Ai, ci, rfl, oi, b⟩
    clear hCl m0 m1 m2 m3 mf
    have hC := hC.next b
    have hG := hG.next b
    have hq := Below.next hq b
    have hb := Below.next hb b
    clear b
    have HI := Lib.hid (IReads.of_own oi)
    clear oi HCV
    have hp := Below.refl w4.heap.size w4
    obtain ⟨hCl, m0, m1, m2, m3, mf⟩ := _root_.id hC
    obtain ⟨hGl, g0, g1, g2, g3, g4, g5, gf⟩ := _root_.id hG
    go_wp2_with fail
    refine (HOK.out _ hq).mono ?_
    rintro e w5 ⟨rfl, b⟩
    clear hCl m0 m1 m2 m3 mf hGl g0 g1 g2 g3 g4 g5 gf
    have hC := hC.next b
    have hG := hG.next b
    have hq := Below.next hq b
    have hb := Below.next hb b
    have hp := Below.next hp b
    clear b
    go_upto_region 6 with fail
    go_cut [7, 45] from 10 to 44 (fun u r wx => u = .bool ok ∧ r = .bool false ∧ H4 wx b5 (.int .i64 ch) (.int .i64 cr) (.string (S id)) (.slice Ac l.length cc) ∧ H6 wx b4 (.int .i64 h) (.int .i64 t) (.string (S la)) (.string (S va)) (.string (S ne)) (.string (S da)) ∧ Below W3.heap.size W3 wx ∧ Below w.heap.size w wx ∧ Below w4.heap.size w4 wx)
    case first =>
      obtain ⟨hCl, m0, m1, m2, m3, mf⟩ := _root_.id hC
      obtain ⟨hGl, g0, g1, g2, g3, g4, g5, gf⟩ := _root_.id hG
      go_wp2_with fail
      refine (HCS.out _ hq).mono ?_
      rintro e wa ⟨A2, c2, rfl, o2, b⟩
      clear hCl m0 m1 m2 m3 mf hGl g0 g1 g2 g3 g4 g5 gf
      have hC := hC.next b
      have hG := hG.next b
      have hq := Below.next hq b
      have hb := Below.next hb b
      have hp := Below.next hp b
      clear b
      have hI2 := IReads.of_own o2
      have hI1 := HI.out.to hp
      clear o2
      go_wp2_with fail
      refine (HSM.out _ _ _ _ _ hI1 hI2).mono ?_
      rintro e wb ⟨rfl, b⟩
      clear hI1 hI2
      have hC := hC.next b
      have hG := hG.next b
      have hq := Below.next hq b
      have hb := Below.next hb b
      have hp := Below.next hp b
      clear b
      obtain ⟨hCl, m0, m1, m2, m3, mf⟩ := _root_.id hC
      obtain ⟨hGl, g0, g1, g2, g3, g4, g5, gf⟩ := _root_.id hG
      go_wp2_with fail
      refine (HOS.out _ hq).mono ?_
      rintro e wc ⟨rfl, b⟩
      clear hCl m0 m1 m2 m3 mf hGl g0 g1 g2 g3 g4 g5 gf
      have hC := hC.next b
      have hG := hG.next b
      have hq := Below.next hq b
      have hb := Below.next hb b
      have hp := Below.next hp b
      clear b
      cases ok
      · go_wp2_with fail
        go_meet
        case rel => exact ⟨rfl, rfl, hC, hG, hq, hb, hp⟩
      · have hen := HEN.out rfl
        subst hen
        go_wp2_with fail
        refine (HE.out _ _ _ hq (HI.out.to hp)).mono ?_
        rintro e wd ⟨rfl, b⟩
        have hC := hC.next b
        have hG := hG.next b
        have hq := Below.next hq b
        have hb := Below.next hb b
        have hp := Below.next hp b
        clear b
        go_wp2_with fail
        go_meet
        case rel => exact ⟨rfl, rfl, hC, hG, hq, hb, hp⟩
    case rest =>
      obtain ⟨rfl, rfl, hC, hG, hq, hb, hp⟩ := hcut
      rename World => W6
      clear HOK HOS HCS HE HSM HEN
      obtain ⟨hCl, m0, m1, m2, m3, mf⟩ := _root_.id hC
      obtain ⟨hGl, g0, g1, g2, g3, g4, g5, gf⟩ := _root_.id hG
      have hwt : IntKind.i64.wrap (t + 1) = t + 1 := by rw [IntKind.wrap_i64]; omega
      go_upto_region 11 with fail
      clear hCl m0 m1 m2 m3 mf hGl g0 g1 g2 g3 g4 g5 gf
      have hGg := (H6.new W6 25 (.int .i64 h) (.int .i64 (t + 1)) (.string (S la)) (.string (S va)) (.string (S ne)) (.string (S da))).alloc (.cells #[.int .i64 ch, .int .i64 cr, .string (S id), .slice Ac l.length cc] 33)
      have hD := H4.new (W6.alloc (.cells #[.int .i64 h, .int .i64 (t + 1), .string (S la), .string (S va), .string (S ne), .string (S da)] 25)) 33 (.int .i64 ch) (.int .i64 cr) (.string (S id)) (.slice Ac l.length cc)
      have hsz : (W6.alloc (.cells #[.int .i64 h, .int .i64 (t + 1), .string (S la), .string (S va), .string (S ne), .string (S da)] 25)).heap.size = W6.heap.size + 1 := by simp
      rw [hsz] at hD
      have hsz2 : ((W6.alloc (.cells #[.int .i64 h, .int .i64 (t + 1), .string (S la), .string (S va), .string (S ne), .string (S da)] 25)).alloc (.cells #[.int .i64 ch, .int .i64 cr, .string (S id), .slice Ac l.length cc] 33)).heap.size = W6.heap.size + 1 + 1 := by simp
      have hb4l : b4 < W6.heap.size := hG.1
      have hb5l : b5 < W6.heap.size := hC.1
      have hC := (hC.alloc (.cells #[.int .i64 h, .int .i64 (t + 1), .string (S la), .string (S va), .string (S ne), .string (S da)] 25)).alloc (.cells #[.int .i64 ch, .int .i64 cr, .string (S id), .slice Ac l.length cc] 33)
      have hG := (hG.alloc (.cells #[.int .i64 h, .int .i64 (t + 1), .string (S la), .string (S va), .string (S ne), .string (S da)] 25)).alloc (.cells #[.int .i64 ch, .int .i64 cr, .string (S id), .slice Ac l.length cc] 33)
      have hz3 := hq.size
      have hz4 := hp.size
      have hz0 := hb.size
      have hq := (hq.alloc hz3 (.cells #[.int .i64 h, .int .i64 (t + 1), .string (S la), .string (S va), .string (S ne), .string (S da)] 25)).alloc (by omega) (.cells #[.int .i64 ch, .int .i64 cr, .string (S id), .slice Ac l.length cc] 33)
      have hb := (hb.alloc hz0 (.cells #[.int .i64 h, .int .i64 (t + 1), .string (S la), .string (S va), .string (S ne), .string (S da)] 25)).alloc (by omega) (.cells #[.int .i64 ch, .int .i64 cr, .string (S id), .slice Ac l.length cc] 33)
      have hp := (hp.alloc hz4 (.cells #[.int .i64 h, .int .i64 (t + 1), .string (S la), .string (S va), .string (S ne), .string (S da)] 25)).alloc (by omega) (.cells #[.int .i64 ch, .int .i64 cr, .string (S id), .slice Ac l.length cc] 33)
      generalize hBG : W6.heap.size = bg at *
      generalize hBD : bg + 1 = bd at *
      generalize hW10 : (W6.alloc (.cells #[.int .i64 h, .int .i64 (t + 1), .string (S la), .string (S va), .string (S ne), .string (S da)] 25)).alloc (.cells #[.int .i64 ch, .int .i64 cr, .string (S id), .slice Ac l.length cc] 33) = W10 at *
      have hsz3 : W10.heap.size ≤ bd + 1 ∧ bd + 1 ≤ W10.heap.size := by omega
      clear hW10 hsz hsz2
      obtain ⟨i0, hi, hzA, hzB, hzC⟩ := info_parts info_csig
      have HC5 := Lib.hid hC
      have HKS := Lib.hid fun (W : World) (q : Below bd W10 W) => (⟨q, (HC5.out.low q (by omega)).2.2.2.2.1⟩ : Below bd W10 W ∧ W.cell? ⟨b5, 3, none⟩ = some (.slice Ac l.length cc))
      have HTO := Lib.hid fun (W : World) (q : Below bd W10 W) => hq.trans (q.mono (by omega))
      have hJ := (World.ownsRow_lit (e := 85) (size := 2) (base := W10.heap.size) W10 #[] 0 (Nat.le_refl _) (by simp [maxLen]) rfl).drew
      have hB0 : Below bd W10 (W10.alloc (.cells #[] 85)).drew := ((Below.refl bd W10).alloc (by omega) _).drew
      refine wp_region_held_drew (S := fun w' => Below bd W10 w' ∧ w'.cell? ⟨b5, 3, none⟩ = some (.slice Ac l.length cc)) (by kernel_rfl) (by (try dsimp only); exact HKS.out _ (Below.refl bd W10).drew) (fun hHeld => ?_)
      refine wpAnyH_take (i := 1) (oi := _) (v := ?v0) rfl (by kernel_rfl) (by kernel_rfl) (by kernel_rfl) (fun _ _ _ h => h) (Or.inl ⟨by kernel_rfl, ?hy0⟩) (by assumption) ?rest0
      case hy0 => (intro w' hSw; (try dsimp only at hSw); go_simp; try with_reducible rfl)
      try simp only [Act.put, List.getElem_toArray, List.getElem_cons_succ, List.getElem_cons_zero, List.setIfInBounds_toArray, List.set_cons_zero, List.set_cons_succ]
      refine wpAnyH_take (i := 2) (oi := _) (v := ?v1) rfl (by kernel_rfl) (by kernel_rfl) (by kernel_rfl) (fun _ _ _ h => h) (Or.inl ⟨by kernel_rfl, ?hy1⟩) (by assumption) ?rest1
      case hy1 => (intro w' hSw; (try dsimp only at hSw); go_simp; try with_reducible rfl)
      try simp only [Act.put, List.getElem_toArray, List.getElem_cons_succ, List.getElem_cons_zero, List.setIfInBounds_toArray, List.set_cons_zero, List.set_cons_succ]
      refine wpAnyH_take (i := 4) (oi := _) (v := ?v2) rfl (by kernel_rfl) (by kernel_rfl) (by kernel_rfl) (fun _ _ _ h => h) (Or.inl ⟨by kernel_rfl, ?hy2⟩) (by assumption) ?rest2
      case hy2 => (intro w' hSw; (try dsimp only at hSw); go_simp; try with_reducible rfl)
      try simp only [Act.put, List.getElem_toArray, List.getElem_cons_succ, List.getElem_cons_zero, List.setIfInBounds_toArray, List.set_cons_zero, List.set_cons_succ]
      refine wpAnyH_take (i := 5) (oi := _) (v := ?v3) rfl (by kernel_rfl) (by kernel_rfl) (by kernel_rfl) (fun _ _ _ h => h) (Or.inl ⟨by kernel_rfl, ?hy3⟩) (by assumption) ?rest3
      case hy3 => (intro w' hSw; (try dsimp only at hSw); go_simp; try with_reducible rfl)
      try simp only [Act.put, List.getElem_toArray, List.getElem_cons_succ, List.getElem_cons_zero, List.setIfInBounds_toArray, List.set_cons_zero, List.set_cons_succ]
      refine wpAnyH_ready (rs := [0]) (by kernel_rfl) (by simp) ?_
      refine AllReadyH.cons (o := _) rfl (fun K hK => ?_) AllReadyH.nil
      go_simp
      refine hK.out _ _ ?_ (fun hHeld => ?_)
      · (try dsimp only); exact HKS.out _ hB0
      clear hK K
      try simp only [Act.put, List.getElem_toArray, List.getElem_cons_succ, List.getElem_cons_zero, List.setIfInBounds_toArray, List.set_cons_zero, List.set_cons_succ]
      have hbs : bd ≤ W10.heap.size := by omega
      have hza : W10.heap.size ≤ (W10.alloc (.cells #[] 85)).drew.heap.size := by show W10.heap.size ≤ (W10.alloc (.cells #[] 85)).heap.size; simp
      have HS1 := Lib.hid (HSR.out.to (HTO.out _ hB0))
      refine wpAnyH_ready (rs := [3]) (by kernel_rfl) (by simp) ?_
      refine AllReadyH.cons (o := _) rfl (fun K hK => ?_) AllReadyH.nil
      refine step_app_csigs (n := 0) (v := .slice (some ⟨W10.heap.size, 0, none⟩) 0 0) (xs := []) rfl _ _ 31 rfl Tryd.underlying31 hi hzA hzB hzC rfl hJ hza rfl HS1.out hAc (by omega) ?_
      intro v1 wA oA bA gA
      simp only [Nat.zero_add, List.nil_append, Array.toList_empty] at oA
      obtain ⟨A1, c1, rfl⟩ := own_slice oA
      have hB1 := hB0.trans (bA.mono hbs)
      refine hK.out _ _ ?_ (fun hHeld => ?_)
      · (try dsimp only); exact HKS.out _ hB1
      clear hK K
      try simp only [Act.put, List.getElem_toArray, List.getElem_cons_succ, List.getElem_cons_zero, List.setIfInBounds_toArray, List.set_cons_zero, List.set_cons_succ]
      have HS2 := Lib.hid (HSR.out.to (HTO.out _ hB1))
      have hzb := Nat.le_trans hza bA.size
      refine wpAnyH_ready (rs := [6]) (by kernel_rfl) (by simp) ?_
      refine AllReadyH.cons (o := _) rfl (fun K hK => ?_) AllReadyH.nil
      refine step_app_csigs (n := l.length) (v := .slice A1 l.length c1) rfl _ _ 31 rfl Tryd.underlying31 hi hzA hzB hzC rfl oA hzb rfl HS2.out hAc (by omega) ?_
      intro v2 wB oB bB gB
      obtain ⟨A2, c2, rfl⟩ := own_slice oB
      have hB2 := hB1.trans (bB.mono hbs)
      have hDB := ((hD.alloc (.cells #[] 85)).drew.low bA (by omega)).low bB (by omega)
      refine hK.out _ _ ?_ (fun hHeld => ?_)
      · (try dsimp only); exact HKS.out _ hB2
      clear hK K
      try simp only [Act.put, List.getElem_toArray, List.getElem_cons_succ, List.getElem_cons_zero, List.setIfInBounds_toArray, List.set_cons_zero, List.set_cons_succ]
      refine wpAnyH_take (i := 7) (oi := _) (v := ?v4) rfl (by kernel_rfl) (by kernel_rfl) (by kernel_rfl) (fun _ _ _ h => h) (Or.inl ⟨by kernel_rfl, ?hy4⟩) (by assumption) ?rest4
      case hy4 => (intro w' hSw; (try dsimp only at hSw); go_simp; try with_reducible rfl)
      try simp only [Act.put, List.getElem_toArray, List.getElem_cons_succ, List.getElem_cons_zero, List.setIfInBounds_toArray, List.set_cons_zero, List.set_cons_succ]
      obtain ⟨hDl, d0, d1, d2, d3, df⟩ := _root_.id hDB
      refine wpAnyH_ready (rs := [8]) (by kernel_rfl) (by simp) ?_
      refine AllReadyH.cons (o := _) rfl (fun K hK => ?_) AllReadyH.nil
      go_simp
      refine hK.out _ _ ?_ (fun hHeld => ?_)
      · (try dsimp only); exact HKS.out _ (hB2.setCell (Nat.le_refl bd) _)
      clear hK K
      try simp only [Act.put, List.getElem_toArray, List.getElem_cons_succ, List.getElem_cons_zero, List.setIfInBounds_toArray, List.set_cons_zero, List.set_cons_succ]
      refine wpAnyH_done (by kernel_rfl) ?_ _
      clear hHeld hDl d0 d1 d2 d3 df
      have hBF : Below bd W10 (wB.setCell ⟨bd, 3, none⟩ (.slice A2 (l.length + l.length) c2)) := hB2.setCell (Nat.le_refl bd) _
      have hDF := (hDB.set (.slice A2 (l.length + l.length) c2)).2.2.2
      rw [← scells_append] at oB
      have oF := own_set oB (g := bd) (fun q hq => by have := (oB.lt q hq).1; omega) 3 (.slice A2 (l.length + l.length) c2)
      generalize wB.setCell ⟨bd, 3, none⟩ (.slice A2 (l.length + l.length) c2) = WF at *
      have hSF := sreads_own (l := l ++ l) (by simp) oF
      have hCF := hC.low hBF (by omega)
      have hGF := hG.lowX hBF (by omega)
      have hGgF := hGg.lowX hBF (by omega)
      have hqF := hq.trans (hBF.mono (by omega))
      have hbF := hb.trans (hBF.mono (by omega))
      have hpF := hp.trans (hBF.mono (by omega))
      clear hJ hB0 HS1 HS2 oA bA gA oB bB gB hDB hB1 hB2 oF HKS HTO hC hG hGg hD hq hb hp HC5 hBF
      have hIF := HI.out.to hpF
      have HKS := Lib.hid fun (W : World) (q : Below WF.heap.size WF W) => (⟨q, (hGgF.lowX q hGgF.1).2.1, (hGgF.lowX q hGgF.1).2.2.1, (hGgF.lowX q hGgF.1).2.2.2.1, (hGgF.lowX q hGgF.1).2.2.2.2.1, (hGgF.lowX q hGgF.1).2.2.2.2.2.1, (hGgF.lowX q hGgF.1).2.2.2.2.2.2.1, (hGF.lowX q hGF.1).2.1, (hGF.lowX q hGF.1).2.2.1, (hGF.lowX q hGF.1).2.2.2.1, (hGF.lowX q hGF.1).2.2.2.2.1, (hGF.lowX q hGF.1).2.2.2.2.2.1, (hGF.lowX q hGF.1).2.2.2.2.2.2.1, (hCF.low q hCF.1).2.1, (hCF.low q hCF.1).2.2.1, (hCF.low q hCF.1).2.2.2.1, (hCF.low q hCF.1).2.2.2.2.1, (hDF.low q hDF.1).2.1, (hDF.low q hDF.1).2.2.1, (hDF.low q hDF.1).2.2.2.1, (hDF.low q hDF.1).2.2.2.2.1⟩ : Below WF.heap.size WF W ∧ W.cell? ⟨bg, 0, none⟩ = some (.int .i64 h) ∧ W.cell? ⟨bg, 1, none⟩ = some (.int .i64 (t + 1)) ∧ W.cell? ⟨bg, 2, none⟩ = some (.string (S la)) ∧ W.cell? ⟨bg, 3, none⟩ = some (.string (S va)) ∧ W.cell? ⟨bg, 4, none⟩ = some (.string (S ne)) ∧ W.cell? ⟨bg, 5, none⟩ = some (.string (S da)) ∧ W.cell? ⟨b4, 0, none⟩ = some (.int .i64 h) ∧ W.cell? ⟨b4, 1, none⟩ = some (.int .i64 t) ∧ W.cell? ⟨b4, 2, none⟩ = some (.string (S la)) ∧ W.cell? ⟨b4, 3, none⟩ = some (.string (S va)) ∧ W.cell? ⟨b4, 4, none⟩ = some (.string (S ne)) ∧ W.cell? ⟨b4, 5, none⟩ = some (.string (S da)) ∧ W.cell? ⟨b5, 0, none⟩ = some (.int .i64 ch) ∧ W.cell? ⟨b5, 1, none⟩ = some (.int .i64 cr) ∧ W.cell? ⟨b5, 2, none⟩ = some (.string (S id)) ∧ W.cell? ⟨b5, 3, none⟩ = some (.slice Ac l.length cc) ∧ W.cell? ⟨bd, 0, none⟩ = some (.int .i64 ch) ∧ W.cell? ⟨bd, 1, none⟩ = some (.int .i64 cr) ∧ W.cell? ⟨bd, 2, none⟩ = some (.string (S id)) ∧ W.cell? ⟨bd, 3, none⟩ = some (.slice A2 (l.length + l.length) c2))
      have HQ := Lib.hid fun (W : World) (q : Below WF.heap.size WF W) => Below.next hqF q
      have HD9 := Lib.hid fun (W : World) (q : Below WF.heap.size WF W) => HDK.out W A2 c2 (HQ.out W q) (hSF.to q)
      have HG9 := Lib.hid fun (W : World) (q : Below WF.heap.size WF W) => HGK.out W (HQ.out W q)
      have hVp : ok = true → ((0 : Int) < (V.length : Int)) := fun e => by have := HPS.out e; omega
      clear hSF hIF hGgF hGF hCF hDF hpF hqF HDK HGK HVR HSR HKF HK HSL HI HPS
      have hbz : Below w.heap.size w WF.drew := hbF.drew
      cases ok
      · go_wp2_with fail
        refine wp_region_held_drew (S := fun w' => Below WF.heap.size WF w' ∧ w'.cell? ⟨bg, 0, none⟩ = some (.int .i64 h) ∧ w'.cell? ⟨bg, 1, none⟩ = some (.int .i64 (t + 1)) ∧ w'.cell? ⟨bg, 2, none⟩ = some (.string (S la)) ∧ w'.cell? ⟨bg, 3, none⟩ = some (.string (S va)) ∧ w'.cell? ⟨bg, 4, none⟩ = some (.string (S ne)) ∧ w'.cell? ⟨bg, 5, none⟩ = some (.string (S da)) ∧ w'.cell? ⟨b4, 0, none⟩ = some (.int .i64 h) ∧ w'.cell? ⟨b4, 1, none⟩ = some (.int .i64 t) ∧ w'.cell? ⟨b4, 2, none⟩ = some (.string (S la)) ∧ w'.cell? ⟨b4, 3, none⟩ = some (.string (S va)) ∧ w'.cell? ⟨b4, 4, none⟩ = some (.string (S ne)) ∧ w'.cell? ⟨b4, 5, none⟩ = some (.string (S da)) ∧ w'.cell? ⟨b5, 0, none⟩ = some (.int .i64 ch) ∧ w'.cell? ⟨b5, 1, none⟩ = some (.int .i64 cr) ∧ w'.cell? ⟨b5, 2, none⟩ = some (.string (S id)) ∧ w'.cell? ⟨b5, 3, none⟩ = some (.slice Ac l.length cc) ∧ w'.cell? ⟨bd, 0, none⟩ = some (.int .i64 ch) ∧ w'.cell? ⟨bd, 1, none⟩ = some (.int .i64 cr) ∧ w'.cell? ⟨bd, 2, none⟩ = some (.string (S id)) ∧ w'.cell? ⟨bd, 3, none⟩ = some (.slice A2 (l.length + l.length) c2)) (by kernel_rfl) (by (try dsimp only); exact HKS.out _ (Below.refl _ _).drew) (fun hHeld => ?_)
        refine wpAnyH_take (i := 0) (oi := _) (v := ?v5) rfl (by kernel_rfl) (by kernel_rfl) (by kernel_rfl) (fun _ _ _ h => h) (Or.inl ⟨by kernel_rfl, ?hy5⟩) (by assumption) ?rest5
        case hy5 => (intro w' hSw; (try dsimp only at hSw); go_simp; try with_reducible rfl)
        try simp only [Act.put, List.getElem_toArray, List.getElem_cons_succ, List.getElem_cons_zero, List.setIfInBounds_toArray, List.set_cons_zero, List.set_cons_succ]
        refine wpAnyH_take (i := 1) (oi := _) (v := ?v6) rfl (by kernel_rfl) (by kernel_rfl) (by kernel_rfl) (fun _ _ _ h => h) (Or.inl ⟨by kernel_rfl, ?hy6⟩) (by assumption) ?rest6
        case hy6 => (intro w' hSw; (try dsimp only at hSw); go_simp; try with_reducible rfl)
        try simp only [Act.put, List.getElem_toArray, List.getElem_cons_succ, List.getElem_cons_zero, List.setIfInBounds_toArray, List.set_cons_zero, List.set_cons_succ]
        refine wpAnyH_take (i := 2) (oi := _) (v := ?v7) rfl (by kernel_rfl) (by kernel_rfl) (by kernel_rfl) (fun _ _ _ h => h) (Or.inl ⟨by kernel_rfl, ?hy7⟩) (by assumption) ?rest7
        case hy7 => (intro w' hSw; (try dsimp only at hSw); go_simp; try with_reducible rfl)
        try simp only [Act.put, List.getElem_toArray, List.getElem_cons_succ, List.getElem_cons_zero, List.setIfInBounds_toArray, List.set_cons_zero, List.set_cons_succ]
        refine wpAnyH_take (i := 3) (oi := _) (v := undef) rfl (by kernel_rfl) (by kernel_rfl) (by kernel_rfl) (fun _ _ _ h => h) (Or.inr ⟨by kernel_rfl, rfl⟩) (by assumption) ?_
        try simp only [Act.put, List.getElem_toArray, List.getElem_cons_succ, List.getElem_cons_zero, List.setIfInBounds_toArray, List.set_cons_zero, List.set_cons_succ]
        refine wpAnyH_take (i := 4) (oi := _) (v := undef) rfl (by kernel_rfl) (by kernel_rfl) (by kernel_rfl) (fun _ _ _ h => h) (Or.inr ⟨by kernel_rfl, rfl⟩) (by assumption) ?_
        try simp only [Act.put, List.getElem_toArray, List.getElem_cons_succ, List.getElem_cons_zero, List.setIfInBounds_toArray, List.set_cons_zero, List.set_cons_succ]
        refine wpAnyH_take (i := 5) (oi := _) (v := undef) rfl (by kernel_rfl) (by kernel_rfl) (by kernel_rfl) (fun _ _ _ h => h) (Or.inr ⟨by kernel_rfl, rfl⟩) (by assumption) ?_
        try simp only [Act.put, List.getElem_toArray, List.getElem_cons_succ, List.getElem_cons_zero, List.setIfInBounds_toArray, List.set_cons_zero, List.set_cons_succ]
        refine wpAnyH_take (i := 6) (oi := _) (v := undef) rfl (by kernel_rfl) (by kernel_rfl) (by kernel_rfl) (fun _ _ _ h => h) (Or.inr ⟨by kernel_rfl, rfl⟩) (by assumption) ?_
        try simp only [Act.put, List.getElem_toArray, List.getElem_cons_succ, List.getElem_cons_zero, List.setIfInBounds_toArray, List.set_cons_zero, List.set_cons_succ]
        refine wpAnyH_take (i := 7) (oi := _) (v := undef) rfl (by kernel_rfl) (by kernel_rfl) (by kernel_rfl) (fun _ _ _ h => h) (Or.inr ⟨by kernel_rfl, rfl⟩) (by assumption) ?_
        try simp only [Act.put, List.getElem_toArray, List.getElem_cons_succ, List.getElem_cons_zero, List.setIfInBounds_toArray, List.set_cons_zero, List.set_cons_succ]
        refine wpAnyH_take (i := 8) (oi := _) (v := undef) rfl (by kernel_rfl) (by kernel_rfl) (by kernel_rfl) (fun _ _ _ h => h) (Or.inr ⟨by kernel_rfl, rfl⟩) (by assumption) ?_
        try simp only [Act.put, List.getElem_toArray, List.getElem_cons_succ, List.getElem_cons_zero, List.setIfInBounds_toArray, List.set_cons_zero, List.set_cons_succ]
        refine wpAnyH_take (i := 9) (oi := _) (v := undef) rfl (by kernel_rfl) (by kernel_rfl) (by kernel_rfl) (fun _ _ _ h => h) (Or.inr ⟨by kernel_rfl, rfl⟩) (by assumption) ?_
        try simp only [Act.put, List.getElem_toArray, List.getElem_cons_succ, List.getElem_cons_zero, List.setIfInBounds_toArray, List.set_cons_zero, List.set_cons_succ]
        refine wpAnyH_take (i := 10) (oi := _) (v := undef) rfl (by kernel_rfl) (by kernel_rfl) (by kernel_rfl) (fun _ _ _ h => h) (Or.inr ⟨by kernel_rfl, rfl⟩) (by assumption) ?_
        try simp only [Act.put, List.getElem_toArray, List.getElem_cons_succ, List.getElem_cons_zero, List.setIfInBounds_toArray, List.set_cons_zero, List.set_cons_succ]
        refine wpAnyH_take (i := 11) (oi := _) (v := undef) rfl (by kernel_rfl) (by kernel_rfl) (by kernel_rfl) (fun _ _ _ h => h) (Or.inr ⟨by kernel_rfl, rfl⟩) (by assumption) ?_
        try simp only [Act.put, List.getElem_toArray, List.getElem_cons_succ, List.getElem_cons_zero, List.setIfInBounds_toArray, List.set_cons_zero, List.set_cons_succ]
        refine wpAnyH_take (i := 12) (oi := _) (v := undef) rfl (by kernel_rfl) (by kernel_rfl) (by kernel_rfl) (fun _ _ _ h => h) (Or.inr ⟨by kernel_rfl, rfl⟩) (by assumption) ?_
        try simp only [Act.put, List.getElem_toArray, List.getElem_cons_succ, List.getElem_cons_zero, List.setIfInBounds_toArray, List.set_cons_zero, List.set_cons_succ]
        refine wpAnyH_take (i := 13) (oi := _) (v := undef) rfl (by kernel_rfl) (by kernel_rfl) (by kernel_rfl) (fun _ _ _ h => h) (Or.inr ⟨by kernel_rfl, rfl⟩) (by assumption) ?_
        try simp only [Act.put, List.getElem_toArray, List.getElem_cons_succ, List.getElem_cons_zero, List.setIfInBounds_toArray, List.set_cons_zero, List.set_cons_succ]
        refine wpAnyH_take (i := 14) (oi := _) (v := undef) rfl (by kernel_rfl) (by kernel_rfl) (by kernel_rfl) (fun _ _ _ h => h) (Or.inr ⟨by kernel_rfl, rfl⟩) (by assumption) ?_
        try simp only [Act.put, List.getElem_toArray, List.getElem_cons_succ, List.getElem_cons_zero, List.setIfInBounds_toArray, List.set_cons_zero, List.set_cons_succ]
        refine wpAnyH_take (i := 15) (oi := _) (v := undef) rfl (by kernel_rfl) (by kernel_rfl) (by kernel_rfl) (fun _ _ _ h => h) (Or.inr ⟨by kernel_rfl, rfl⟩) (by assumption) ?_
        try simp only [Act.put, List.getElem_toArray, List.getElem_cons_succ, List.getElem_cons_zero, List.setIfInBounds_toArray, List.set_cons_zero, List.set_cons_succ]
        refine wpAnyH_take (i := 16) (oi := _) (v := undef) rfl (by kernel_rfl) (by kernel_rfl) (by kernel_rfl) (fun _ _ _ h => h) (Or.inr ⟨by kernel_rfl, rfl⟩) (by assumption) ?_
        try simp only [Act.put, List.getElem_toArray, List.getElem_cons_succ, List.getElem_cons_zero, List.setIfInBounds_toArray, List.set_cons_zero, List.set_cons_succ]
        refine wpAnyH_take (i := 17) (oi := _) (v := undef) rfl (by kernel_rfl) (by kernel_rfl) (by kernel_rfl) (fun _ _ _ h => h) (Or.inr ⟨by kernel_rfl, rfl⟩) (by assumption) ?_
        try simp only [Act.put, List.getElem_toArray, List.getElem_cons_succ, List.getElem_cons_zero, List.setIfInBounds_toArray, List.set_cons_zero, List.set_cons_succ]
        refine wpAnyH_take (i := 18) (oi := _) (v := undef) rfl (by kernel_rfl) (by kernel_rfl) (by kernel_rfl) (fun _ _ _ h => h) (Or.inr ⟨by kernel_rfl, rfl⟩) (by assumption) ?_
        try simp only [Act.put, List.getElem_toArray, List.getElem_cons_succ, List.getElem_cons_zero, List.setIfInBounds_toArray, List.set_cons_zero, List.set_cons_succ]
        refine wpAnyH_take (i := 19) (oi := _) (v := undef) rfl (by kernel_rfl) (by kernel_rfl) (by kernel_rfl) (fun _ _ _ h => h) (Or.inr ⟨by kernel_rfl, rfl⟩) (by assumption) ?_
        try simp only [Act.put, List.getElem_toArray, List.getElem_cons_succ, List.getElem_cons_zero, List.setIfInBounds_toArray, List.set_cons_zero, List.set_cons_succ]
        refine wpAnyH_take (i := 20) (oi := _) (v := undef) rfl (by kernel_rfl) (by kernel_rfl) (by kernel_rfl) (fun _ _ _ h => h) (Or.inr ⟨by kernel_rfl, rfl⟩) (by assumption) ?_
        try simp only [Act.put, List.getElem_toArray, List.getElem_cons_succ, List.getElem_cons_zero, List.setIfInBounds_toArray, List.set_cons_zero, List.set_cons_succ]
        refine wpAnyH_take (i := 21) (oi := _) (v := undef) rfl (by kernel_rfl) (by kernel_rfl) (by kernel_rfl) (fun _ _ _ h => h) (Or.inr ⟨by kernel_rfl, rfl⟩) (by assumption) ?_
        try simp only [Act.put, List.getElem_toArray, List.getElem_cons_succ, List.getElem_cons_zero, List.setIfInBounds_toArray, List.set_cons_zero, List.set_cons_succ]
        refine wpAnyH_take (i := 22) (oi := _) (v := undef) rfl (by kernel_rfl) (by kernel_rfl) (by kernel_rfl) (fun _ _ _ h => h) (Or.inr ⟨by kernel_rfl, rfl⟩) (by assumption) ?_
        try simp only [Act.put, List.getElem_toArray, List.getElem_cons_succ, List.getElem_cons_zero, List.setIfInBounds_toArray, List.set_cons_zero, List.set_cons_succ]
        refine wpAnyH_take (i := 23) (oi := _) (v := undef) rfl (by kernel_rfl) (by kernel_rfl) (by kernel_rfl) (fun _ _ _ h => h) (Or.inr ⟨by kernel_rfl, rfl⟩) (by assumption) ?_
        try simp only [Act.put, List.getElem_toArray, List.getElem_cons_succ, List.getElem_cons_zero, List.setIfInBounds_toArray, List.set_cons_zero, List.set_cons_succ]
        refine wpAnyH_take (i := 24) (oi := _) (v := undef) rfl (by kernel_rfl) (by kernel_rfl) (by kernel_rfl) (fun _ _ _ h => h) (Or.inr ⟨by kernel_rfl, rfl⟩) (by assumption) ?_
        try simp only [Act.put, List.getElem_toArray, List.getElem_cons_succ, List.getElem_cons_zero, List.setIfInBounds_toArray, List.set_cons_zero, List.set_cons_succ]
        refine wpAnyH_take (i := 25) (oi := _) (v := undef) rfl (by kernel_rfl) (by kernel_rfl) (by kernel_rfl) (fun _ _ _ h => h) (Or.inr ⟨by kernel_rfl, rfl⟩) (by assumption) ?_
        try simp only [Act.put, List.getElem_toArray, List.getElem_cons_succ, List.getElem_cons_zero, List.setIfInBounds_toArray, List.set_cons_zero, List.set_cons_succ]
        refine wpAnyH_take (i := 26) (oi := _) (v := undef) rfl (by kernel_rfl) (by kernel_rfl) (by kernel_rfl) (fun _ _ _ h => h) (Or.inr ⟨by kernel_rfl, rfl⟩) (by assumption) ?_
        try simp only [Act.put, List.getElem_toArray, List.getElem_cons_succ, List.getElem_cons_zero, List.setIfInBounds_toArray, List.set_cons_zero, List.set_cons_succ]
        refine wpAnyH_take (i := 27) (oi := _) (v := undef) rfl (by kernel_rfl) (by kernel_rfl) (by kernel_rfl) (fun _ _ _ h => h) (Or.inr ⟨by kernel_rfl, rfl⟩) (by assumption) ?_
        try simp only [Act.put, List.getElem_toArray, List.getElem_cons_succ, List.getElem_cons_zero, List.setIfInBounds_toArray, List.set_cons_zero, List.set_cons_succ]
        refine wpAnyH_take (i := 28) (oi := _) (v := undef) rfl (by kernel_rfl) (by kernel_rfl) (by kernel_rfl) (fun _ _ _ h => h) (Or.inr ⟨by kernel_rfl, rfl⟩) (by assumption) ?_
        try simp only [Act.put, List.getElem_toArray, List.getElem_cons_succ, List.getElem_cons_zero, List.setIfInBounds_toArray, List.set_cons_zero, List.set_cons_succ]
        refine wpAnyH_take (i := 29) (oi := _) (v := undef) rfl (by kernel_rfl) (by kernel_rfl) (by kernel_rfl) (fun _ _ _ h => h) (Or.inr ⟨by kernel_rfl, rfl⟩) (by assumption) ?_
        try simp only [Act.put, List.getElem_toArray, List.getElem_cons_succ, List.getElem_cons_zero, List.setIfInBounds_toArray, List.set_cons_zero, List.set_cons_succ]
        refine wpAnyH_take (i := 30) (oi := _) (v := undef) rfl (by kernel_rfl) (by kernel_rfl) (by kernel_rfl) (fun _ _ _ h => h) (Or.inr ⟨by kernel_rfl, rfl⟩) (by assumption) ?_
        try simp only [Act.put, List.getElem_toArray, List.getElem_cons_succ, List.getElem_cons_zero, List.setIfInBounds_toArray, List.set_cons_zero, List.set_cons_succ]
        refine wpAnyH_take (i := 31) (oi := _) (v := undef) rfl (by kernel_rfl) (by kernel_rfl) (by kernel_rfl) (fun _ _ _ h => h) (Or.inr ⟨by kernel_rfl, rfl⟩) (by assumption) ?_
        try simp only [Act.put, List.getElem_toArray, List.getElem_cons_succ, List.getElem_cons_zero, List.setIfInBounds_toArray, List.set_cons_zero, List.set_cons_succ]
        refine wpAnyH_take (i := 32) (oi := _) (v := ?v8) rfl (by kernel_rfl) (by kernel_rfl) (by kernel_rfl) (fun _ _ _ h => h) (Or.inl ⟨by kernel_rfl, ?hy8⟩) (by assumption) ?rest8
        case hy8 => (intro w' hSw; (try dsimp only at hSw); go_simp; try with_reducible rfl)
        try simp only [Act.put, List.getElem_toArray, List.getElem_cons_succ, List.getElem_cons_zero, List.setIfInBounds_toArray, List.set_cons_zero, List.set_cons_succ]
        refine wpAnyH_take (i := 33) (oi := _) (v := ?v9) rfl (by kernel_rfl) (by kernel_rfl) (by kernel_rfl) (fun _ _ _ h => h) (Or.inl ⟨by kernel_rfl, ?hy9⟩) (by assumption) ?rest9
        case hy9 => (intro w' hSw; (try dsimp only at hSw); go_simp; try with_reducible rfl)
        try simp only [Act.put, List.getElem_toArray, List.getElem_cons_succ, List.getElem_cons_zero, List.setIfInBounds_toArray, List.set_cons_zero, List.set_cons_succ]
        refine wpAnyH_done (by kernel_rfl) ?_ _
        have hqe := And.left hHeld
        clear hHeld
        go_wp2_with fail
        go_ret
        exact ⟨rfl, Below.next hbF hqe⟩
      · have hV0 := hVp rfl
        clear hVp
        by_cases h12 : 12 < l.length + l.length
        · have h12i : (12 : Int) < ((l.length + l.length : Nat) : Int) := by omega
          cases gk
          · go_wp2_with fail
            refine wp_region_held_drew (S := fun w' => Below WF.heap.size WF w' ∧ w'.cell? ⟨bg, 0, none⟩ = some (.int .i64 h) ∧ w'.cell? ⟨bg, 1, none⟩ = some (.int .i64 (t + 1)) ∧ w'.cell? ⟨bg, 2, none⟩ = some (.string (S la)) ∧ w'.cell? ⟨bg, 3, none⟩ = some (.string (S va)) ∧ w'.cell? ⟨bg, 4, none⟩ = some (.string (S ne)) ∧ w'.cell? ⟨bg, 5, none⟩ = some (.string (S da)) ∧ w'.cell? ⟨b4, 0, none⟩ = some (.int .i64 h) ∧ w'.cell? ⟨b4, 1, none⟩ = some (.int .i64 t) ∧ w'.cell? ⟨b4, 2, none⟩ = some (.string (S la)) ∧ w'.cell? ⟨b4, 3, none⟩ = some (.string (S va)) ∧ w'.cell? ⟨b4, 4, none⟩ = some (.string (S ne)) ∧ w'.cell? ⟨b4, 5, none⟩ = some (.string (S da)) ∧ w'.cell? ⟨b5, 0, none⟩ = some (.int .i64 ch) ∧ w'.cell? ⟨b5, 1, none⟩ = some (.int .i64 cr) ∧ w'.cell? ⟨b5, 2, none⟩ = some (.string (S id)) ∧ w'.cell? ⟨b5, 3, none⟩ = some (.slice Ac l.length cc) ∧ w'.cell? ⟨bd, 0, none⟩ = some (.int .i64 ch) ∧ w'.cell? ⟨bd, 1, none⟩ = some (.int .i64 cr) ∧ w'.cell? ⟨bd, 2, none⟩ = some (.string (S id)) ∧ w'.cell? ⟨bd, 3, none⟩ = some (.slice A2 (l.length + l.length) c2)) (by kernel_rfl) (by (try dsimp only); exact HKS.out _ (Below.refl _ _).drew) (fun hHeld => ?_)
            refine wpAnyH_take (i := 0) (oi := _) (v := ?v10) rfl (by kernel_rfl) (by kernel_rfl) (by kernel_rfl) (fun _ _ _ h => h) (Or.inl ⟨by kernel_rfl, ?hy10⟩) (by assumption) ?rest10
            case hy10 => (intro w' hSw; (try dsimp only at hSw); go_simp; try with_reducible rfl)
            try simp only [Act.put, List.getElem_toArray, List.getElem_cons_succ, List.getElem_cons_zero, List.setIfInBounds_toArray, List.set_cons_zero, List.set_cons_succ]
            refine wpAnyH_take (i := 1) (oi := _) (v := ?v11) rfl (by kernel_rfl) (by kernel_rfl) (by kernel_rfl) (fun _ _ _ h => h) (Or.inl ⟨by kernel_rfl, ?hy11⟩) (by assumption) ?rest11
            case hy11 => (intro w' hSw; (try dsimp only at hSw); go_simp; try with_reducible rfl)
            try simp only [Act.put, List.getElem_toArray, List.getElem_cons_succ, List.getElem_cons_zero, List.setIfInBounds_toArray, List.set_cons_zero, List.set_cons_succ]
            refine wpAnyH_take (i := 2) (oi := _) (v := ?v12) rfl (by kernel_rfl) (by kernel_rfl) (by kernel_rfl) (fun _ _ _ h => h) (Or.inl ⟨by kernel_rfl, ?hy12⟩) (by assumption) ?rest12
            case hy12 => (intro w' hSw; (try dsimp only at hSw); go_simp; try with_reducible rfl)
            try simp only [Act.put, List.getElem_toArray, List.getElem_cons_succ, List.getElem_cons_zero, List.setIfInBounds_toArray, List.set_cons_zero, List.set_cons_succ]
            refine wpAnyH_take (i := 3) (oi := _) (v := ?v13) rfl (by kernel_rfl) (by kernel_rfl) (by kernel_rfl) (fun _ _ _ h => h) (Or.inl ⟨by kernel_rfl, ?hy13⟩) (by assumption) ?rest13
            case hy13 => (intro w' hSw; (try dsimp only at hSw); go_simp; try with_reducible rfl)
            try simp only [Act.put, List.getElem_toArray, List.getElem_cons_succ, List.getElem_cons_zero, List.setIfInBounds_toArray, List.set_cons_zero, List.set_cons_succ]
            refine wpAnyH_take (i := 4) (oi := _) (v := ?v14) rfl (by kernel_rfl) (by kernel_rfl) (by kernel_rfl) (fun _ _ _ h => h) (Or.inl ⟨by kernel_rfl, ?hy14⟩) (by assumption) ?rest14
            case hy14 => (intro w' hSw; (try dsimp only at hSw); go_simp; try with_reducible rfl)
            try simp only [Act.put, List.getElem_toArray, List.getElem_cons_succ, List.getElem_cons_zero, List.setIfInBounds_toArray, List.set_cons_zero, List.set_cons_succ]
            refine wpAnyH_take (i := 5) (oi := _) (v := ?v15) rfl (by kernel_rfl) (by kernel_rfl) (by kernel_rfl) (fun _ _ _ h => h) (Or.inl ⟨by kernel_rfl, ?hy15⟩) (by assumption) ?rest15
            case hy15 => (intro w' hSw; (try dsimp only at hSw); go_simp; try with_reducible rfl)
            try simp only [Act.put, List.getElem_toArray, List.getElem_cons_succ, List.getElem_cons_zero, List.setIfInBounds_toArray, List.set_cons_zero, List.set_cons_succ]
            refine wpAnyH_ready (rs := [6]) (by kernel_rfl) (by simp) ?_
            refine AllReadyH.cons (o := _) rfl (fun K hK => ?_) AllReadyH.nil
            go_simp
            (go_at_call 32; refine (HG9.out _ (And.left hHeld)).mono ?_; rintro e wm ⟨rfl, hbm⟩)
            try go_wp2_with fail
            refine hK.out _ _ ?_ (fun hHeld => ?_)
            · (try dsimp only); exact HKS.out _ (Below.next (And.left hHeld) hbm)
            clear hK K
            try simp only [Act.put, List.getElem_toArray, List.getElem_cons_succ, List.getElem_cons_zero, List.setIfInBounds_toArray, List.set_cons_zero, List.set_cons_succ]
            refine wpAnyH_take (i := 7) (oi := _) (v := ?v16) rfl (by kernel_rfl) (by kernel_rfl) (by kernel_rfl) (fun _ _ _ h => h) (Or.inl ⟨by kernel_rfl, ?hy16⟩) (by assumption) ?rest16
            case hy16 => (intro w' hSw; (try dsimp only at hSw); go_simp; try with_reducible rfl)
            try simp only [Act.put, List.getElem_toArray, List.getElem_cons_succ, List.getElem_cons_zero, List.setIfInBounds_toArray, List.set_cons_zero, List.set_cons_succ]
            refine wpAnyH_take (i := 8) (oi := _) (v := ?v17) rfl (by kernel_rfl) (by kernel_rfl) (by kernel_rfl) (fun _ _ _ h => h) (Or.inl ⟨by kernel_rfl, ?hy17⟩) (by assumption) ?rest17
            case hy17 => (intro w' hSw; (try dsimp only at hSw); go_simp; try with_reducible rfl)
            try simp only [Act.put, List.getElem_toArray, List.getElem_cons_succ, List.getElem_cons_zero, List.setIfInBounds_toArray, List.set_cons_zero, List.set_cons_succ]
            refine wpAnyH_take (i := 9) (oi := _) (v := undef) rfl (by kernel_rfl) (by kernel_rfl) (by kernel_rfl) (fun _ _ _ h => h) (Or.inr ⟨by kernel_rfl, rfl⟩) (by assumption) ?_
            try simp only [Act.put, List.getElem_toArray, List.getElem_cons_succ, List.getElem_cons_zero, List.setIfInBounds_toArray, List.set_cons_zero, List.set_cons_succ]
            refine wpAnyH_take (i := 10) (oi := _) (v := undef) rfl (by kernel_rfl) (by kernel_rfl) (by kernel_rfl) (fun _ _ _ h => h) (Or.inr ⟨by kernel_rfl, rfl⟩) (by assumption) ?_
            try simp only [Act.put, List.getElem_toArray, List.getElem_cons_succ, List.getElem_cons_zero, List.setIfInBounds_toArray, List.set_cons_zero, List.set_cons_succ]
            refine wpAnyH_take (i := 11) (oi := _) (v := undef) rfl (by kernel_rfl) (by kernel_rfl) (by kernel_rfl) (fun _ _ _ h => h) (Or.inr ⟨by kernel_rfl, rfl⟩) (by assumption) ?_
            try simp only [Act.put, List.getElem_toArray, List.getElem_cons_succ, List.getElem_cons_zero, List.setIfInBounds_toArray, List.set_cons_zero, List.set_cons_succ]
            refine wpAnyH_take (i := 12) (oi := _) (v := undef) rfl (by kernel_rfl) (by kernel_rfl) (by kernel_rfl) (fun _ _ _ h => h) (Or.inr ⟨by kernel_rfl, rfl⟩) (by assumption) ?_
            try simp only [Act.put, List.getElem_toArray, List.getElem_cons_succ, List.getElem_cons_zero, List.setIfInBounds_toArray, List.set_cons_zero, List.set_cons_succ]
            refine wpAnyH_take (i := 13) (oi := _) (v := undef) rfl (by kernel_rfl) (by kernel_rfl) (by kernel_rfl) (fun _ _ _ h => h) (Or.inr ⟨by kernel_rfl, rfl⟩) (by assumption) ?_
            try simp only [Act.put, List.getElem_toArray, List.getElem_cons_succ, List.getElem_cons_zero, List.setIfInBounds_toArray, List.set_cons_zero, List.set_cons_succ]
            refine wpAnyH_take (i := 14) (oi := _) (v := ?v18) rfl (by kernel_rfl) (by kernel_rfl) (by kernel_rfl) (fun _ _ _ h => h) (Or.inl ⟨by kernel_rfl, ?hy18⟩) (by assumption) ?rest18
            case hy18 => (intro w' hSw; (try dsimp only at hSw); go_simp; try with_reducible rfl)
            try simp only [Act.put, List.getElem_toArray, List.getElem_cons_succ, List.getElem_cons_zero, List.setIfInBounds_toArray, List.set_cons_zero, List.set_cons_succ]
            refine wpAnyH_take (i := 15) (oi := _) (v := ?v19) rfl (by kernel_rfl) (by kernel_rfl) (by kernel_rfl) (fun _ _ _ h => h) (Or.inl ⟨by kernel_rfl, ?hy19⟩) (by assumption) ?rest19
            case hy19 => (intro w' hSw; (try dsimp only at hSw); go_simp; try with_reducible rfl)
            try simp only [Act.put, List.getElem_toArray, List.getElem_cons_succ, List.getElem_cons_zero, List.setIfInBounds_toArray, List.set_cons_zero, List.set_cons_succ]
            refine wpAnyH_take (i := 16) (oi := _) (v := ?v20) rfl (by kernel_rfl) (by kernel_rfl) (by kernel_rfl) (fun _ _ _ h => h) (Or.inl ⟨by kernel_rfl, ?hy20⟩) (by assumption) ?rest20
            case hy20 => (intro w' hSw; (try dsimp only at hSw); go_simp; try with_reducible rfl)
            try simp only [Act.put, List.getElem_toArray, List.getElem_cons_succ, List.getElem_cons_zero, List.setIfInBounds_toArray, List.set_cons_zero, List.set_cons_succ]
            refine wpAnyH_take (i := 17) (oi := _) (v := ?v21) rfl (by kernel_rfl) (by kernel_rfl) (by kernel_rfl) (fun _ _ _ h => h) (Or.inl ⟨by kernel_rfl, ?hy21⟩) (by assumption) ?rest21
            case hy21 => (intro w' hSw; (try dsimp only at hSw); go_simp; try with_reducible rfl)
            try simp only [Act.put, List.getElem_toArray, List.getElem_cons_succ, List.getElem_cons_zero, List.setIfInBounds_toArray, List.set_cons_zero, List.set_cons_succ]
            refine wpAnyH_take (i := 18) (oi := _) (v := ?v22) rfl (by kernel_rfl) (by kernel_rfl) (by kernel_rfl) (fun _ _ _ h => h) (Or.inl ⟨by kernel_rfl, ?hy22⟩) (by assumption) ?rest22
            case hy22 => (intro w' hSw; (try dsimp only at hSw); go_simp; try with_reducible rfl)
            try simp only [Act.put, List.getElem_toArray, List.getElem_cons_succ, List.getElem_cons_zero, List.setIfInBounds_toArray, List.set_cons_zero, List.set_cons_succ]
            refine wpAnyH_take (i := 19) (oi := _) (v := .bool true) rfl (by kernel_rfl) (by kernel_rfl) (by kernel_rfl) (fun _ _ _ h => h) (Or.inl ⟨by kernel_rfl, ?hy23⟩) (by assumption) ?rest23
            case hy23 => (intro w' hSw; (try dsimp only at hSw); go_simp; (first | done | omega | (congr 1; simp; omega) | (congr 1; rw [decide_eq_true_eq]; omega) | (congr 1; rw [decide_eq_false_iff_not]; omega)))
            try simp only [Act.put, List.getElem_toArray, List.getElem_cons_succ, List.getElem_cons_zero, List.setIfInBounds_toArray, List.set_cons_zero, List.set_cons_succ]
            refine wpAnyH_take (i := 20) (oi := _) (v := ?v24) rfl (by kernel_rfl) (by kernel_rfl) (by kernel_rfl) (fun _ _ _ h => h) (Or.inl ⟨by kernel_rfl, ?hy24⟩) (by assumption) ?rest24
            case hy24 => (intro w' hSw; (try dsimp only at hSw); go_simp; try with_reducible rfl)
            try simp only [Act.put, List.getElem_toArray, List.getElem_cons_succ, List.getElem_cons_zero, List.setIfInBounds_toArray, List.set_cons_zero, List.set_cons_succ]
            refine wpAnyH_take (i := 21) (oi := _) (v := undef) rfl (by kernel_rfl) (by kernel_rfl) (by kernel_rfl) (fun _ _ _ h => h) (Or.inr ⟨by kernel_rfl, rfl⟩) (by assumption) ?_
            try simp only [Act.put, List.getElem_toArray, List.getElem_cons_succ, List.getElem_cons_zero, List.setIfInBounds_toArray, List.set_cons_zero, List.set_cons_succ]
            refine wpAnyH_take (i := 22) (oi := _) (v := undef) rfl (by kernel_rfl) (by kernel_rfl) (by kernel_rfl) (fun _ _ _ h => h) (Or.inr ⟨by kernel_rfl, rfl⟩) (by assumption) ?_
            try simp only [Act.put, List.getElem_toArray, List.getElem_cons_succ, List.getElem_cons_zero, List.setIfInBounds_toArray, List.set_cons_zero, List.set_cons_succ]
            refine wpAnyH_take (i := 23) (oi := _) (v := undef) rfl (by kernel_rfl) (by kernel_rfl) (by kernel_rfl) (fun _ _ _ h => h) (Or.inr ⟨by kernel_rfl, rfl⟩) (by assumption) ?_
            try simp only [Act.put, List.getElem_toArray, List.getElem_cons_succ, List.getElem_cons_zero, List.setIfInBounds_toArray, List.set_cons_zero, List.set_cons_succ]
            refine wpAnyH_take (i := 24) (oi := _) (v := undef) rfl (by kernel_rfl) (by kernel_rfl) (by kernel_rfl) (fun _ _ _ h => h) (Or.inr ⟨by kernel_rfl, rfl⟩) (by assumption) ?_
            try simp only [Act.put, List.getElem_toArray, List.getElem_cons_succ, List.getElem_cons_zero, List.setIfInBounds_toArray, List.set_cons_zero, List.set_cons_succ]
            refine wpAnyH_take (i := 25) (oi := _) (v := ?v25) rfl (by kernel_rfl) (by kernel_rfl) (by kernel_rfl) (fun _ _ _ h => h) (Or.inl ⟨by kernel_rfl, ?hy25⟩) (by assumption) ?rest25
            case hy25 => (intro w' hSw; (try dsimp only at hSw); go_simp; try with_reducible rfl)
            try simp only [Act.put, List.getElem_toArray, List.getElem_cons_succ, List.getElem_cons_zero, List.setIfInBounds_toArray, List.set_cons_zero, List.set_cons_succ]
            refine wpAnyH_take (i := 26) (oi := _) (v := ?v26) rfl (by kernel_rfl) (by kernel_rfl) (by kernel_rfl) (fun _ _ _ h => h) (Or.inl ⟨by kernel_rfl, ?hy26⟩) (by assumption) ?rest26
            case hy26 => (intro w' hSw; (try dsimp only at hSw); go_simp; try with_reducible rfl)
            try simp only [Act.put, List.getElem_toArray, List.getElem_cons_succ, List.getElem_cons_zero, List.setIfInBounds_toArray, List.set_cons_zero, List.set_cons_succ]
            refine wpAnyH_take (i := 27) (oi := _) (v := ?v27) rfl (by kernel_rfl) (by kernel_rfl) (by kernel_rfl) (fun _ _ _ h => h) (Or.inl ⟨by kernel_rfl, ?hy27⟩) (by assumption) ?rest27
            case hy27 => (intro w' hSw; (try dsimp only at hSw); go_simp; try with_reducible rfl)
            try simp only [Act.put, List.getElem_toArray, List.getElem_cons_succ, List.getElem_cons_zero, List.setIfInBounds_toArray, List.set_cons_zero, List.set_cons_succ]
            refine wpAnyH_take (i := 28) (oi := _) (v := ?v28) rfl (by kernel_rfl) (by kernel_rfl) (by kernel_rfl) (fun _ _ _ h => h) (Or.inl ⟨by kernel_rfl, ?hy28⟩) (by assumption) ?rest28
            case hy28 => (intro w' hSw; (try dsimp only at hSw); go_simp; try with_reducible rfl)
            try simp only [Act.put, List.getElem_toArray, List.getElem_cons_succ, List.getElem_cons_zero, List.setIfInBounds_toArray, List.set_cons_zero, List.set_cons_succ]
            refine wpAnyH_take (i := 29) (oi := _) (v := ?v29) rfl (by kernel_rfl) (by kernel_rfl) (by kernel_rfl) (fun _ _ _ h => h) (Or.inl ⟨by kernel_rfl, ?hy29⟩) (by assumption) ?rest29
            case hy29 => (intro w' hSw; (try dsimp only at hSw); go_simp; try with_reducible rfl)
            try simp only [Act.put, List.getElem_toArray, List.getElem_cons_succ, List.getElem_cons_zero, List.setIfInBounds_toArray, List.set_cons_zero, List.set_cons_succ]
            refine wpAnyH_take (i := 30) (oi := _) (v := .bool true) rfl (by kernel_rfl) (by kernel_rfl) (by kernel_rfl) (fun _ _ _ h => h) (Or.inl ⟨by kernel_rfl, ?hy30⟩) (by assumption) ?rest30
            case hy30 => (intro w' hSw; (try dsimp only at hSw); go_simp; (first | done | omega | (congr 1; simp; omega) | (congr 1; rw [decide_eq_true_eq]; omega) | (congr 1; rw [decide_eq_false_iff_not]; omega)))
            try simp only [Act.put, List.getElem_toArray, List.getElem_cons_succ, List.getElem_cons_zero, List.setIfInBounds_toArray, List.set_cons_zero, List.set_cons_succ]
            refine wpAnyH_take (i := 31) (oi := _) (v := ?v31) rfl (by kernel_rfl) (by kernel_rfl) (by kernel_rfl) (fun _ _ _ h => h) (Or.inl ⟨by kernel_rfl, ?hy31⟩) (by assumption) ?rest31
            case hy31 => (intro w' hSw; (try dsimp only at hSw); go_simp; try with_reducible rfl)
            try simp only [Act.put, List.getElem_toArray, List.getElem_cons_succ, List.getElem_cons_zero, List.setIfInBounds_toArray, List.set_cons_zero, List.set_cons_succ]
            refine wpAnyH_take (i := 32) (oi := _) (v := ?v32) rfl (by kernel_rfl) (by kernel_rfl) (by kernel_rfl) (fun _ _ _ h => h) (Or.inl ⟨by kernel_rfl, ?hy32⟩) (by assumption) ?rest32
            case hy32 => (intro w' hSw; (try dsimp only at hSw); go_simp; try with_reducible rfl)
            try simp only [Act.put, List.getElem_toArray, List.getElem_cons_succ, List.getElem_cons_zero, List.setIfInBounds_toArray, List.set_cons_zero, List.set_cons_succ]
            refine wpAnyH_take (i := 33) (oi := _) (v := ?v33) rfl (by kernel_rfl) (by kernel_rfl) (by kernel_rfl) (fun _ _ _ h => h) (Or.inl ⟨by kernel_rfl, ?hy33⟩) (by assumption) ?rest33
            case hy33 => (intro w' hSw; (try dsimp only at hSw); go_simp; try with_reducible rfl)
            try simp only [Act.put, List.getElem_toArray, List.getElem_cons_succ, List.getElem_cons_zero, List.setIfInBounds_toArray, List.set_cons_zero, List.set_cons_succ]
            refine wpAnyH_done (by kernel_rfl) ?_ _
            have hqe := And.left hHeld
            clear hHeld
            go_wp2_with fail
            go_ret
            exact ⟨rfl, Below.next hbF hqe⟩
          · have hgi := HGT.out rfl rfl
            subst hgi
            go_wp2_with fail
            refine wp_region_held_drew (S := fun w' => Below WF.heap.size WF w' ∧ w'.cell? ⟨bg, 0, none⟩ = some (.int .i64 h) ∧ w'.cell? ⟨bg, 1, none⟩ = some (.int .i64 (t + 1)) ∧ w'.cell? ⟨bg, 2, none⟩ = some (.string (S la)) ∧ w'.cell? ⟨bg, 3, none⟩ = some (.string (S va)) ∧ w'.cell? ⟨bg, 4, none⟩ = some (.string (S ne)) ∧ w'.cell? ⟨bg, 5, none⟩ = some (.string (S da)) ∧ w'.cell? ⟨b4, 0, none⟩ = some (.int .i64 h) ∧ w'.cell? ⟨b4, 1, none⟩ = some (.int .i64 t) ∧ w'.cell? ⟨b4, 2, none⟩ = some (.string (S la)) ∧ w'.cell? ⟨b4, 3, none⟩ = some (.string (S va)) ∧ w'.cell? ⟨b4, 4, none⟩ = some (.string (S ne)) ∧ w'.cell? ⟨b4, 5, none⟩ = some (.string (S da)) ∧ w'.cell? ⟨b5, 0, none⟩ = some (.int .i64 ch) ∧ w'.cell? ⟨b5, 1, none⟩ = some (.int .i64 cr) ∧ w'.cell? ⟨b5, 2, none⟩ = some (.string (S id)) ∧ w'.cell? ⟨b5, 3, none⟩ = some (.slice Ac l.length cc) ∧ w'.cell? ⟨bd, 0, none⟩ = some (.int .i64 ch) ∧ w'.cell? ⟨bd, 1, none⟩ = some (.int .i64 cr) ∧ w'.cell? ⟨bd, 2, none⟩ = some (.string (S id)) ∧ w'.cell? ⟨bd, 3, none⟩ = some (.slice A2 (l.length + l.length) c2)) (by kernel_rfl) (by (try dsimp only); exact HKS.out _ (Below.refl _ _).drew) (fun hHeld => ?_)
            refine wpAnyH_take (i := 0) (oi := _) (v := ?v34) rfl (by kernel_rfl) (by kernel_rfl) (by kernel_rfl) (fun _ _ _ h => h) (Or.inl ⟨by kernel_rfl, ?hy34⟩) (by assumption) ?rest34
            case hy34 => (intro w' hSw; (try dsimp only at hSw); go_simp; try with_reducible rfl)
            try simp only [Act.put, List.getElem_toArray, List.getElem_cons_succ, List.getElem_cons_zero, List.setIfInBounds_toArray, List.set_cons_zero, List.set_cons_succ]
            refine wpAnyH_take (i := 1) (oi := _) (v := ?v35) rfl (by kernel_rfl) (by kernel_rfl) (by kernel_rfl) (fun _ _ _ h => h) (Or.inl ⟨by kernel_rfl, ?hy35⟩) (by assumption) ?rest35
            case hy35 => (intro w' hSw; (try dsimp only at hSw); go_simp; try with_reducible rfl)
            try simp only [Act.put, List.getElem_toArray, List.getElem_cons_succ, List.getElem_cons_zero, List.setIfInBounds_toArray, List.set_cons_zero, List.set_cons_succ]
            refine wpAnyH_take (i := 2) (oi := _) (v := ?v36) rfl (by kernel_rfl) (by kernel_rfl) (by kernel_rfl) (fun _ _ _ h => h) (Or.inl ⟨by kernel_rfl, ?hy36⟩) (by assumption) ?rest36
            case hy36 => (intro w' hSw; (try dsimp only at hSw); go_simp; try with_reducible rfl)
            try simp only [Act.put, List.getElem_toArray, List.getElem_cons_succ, List.getElem_cons_zero, List.setIfInBounds_toArray, List.set_cons_zero, List.set_cons_succ]
            refine wpAnyH_take (i := 3) (oi := _) (v := ?v37) rfl (by kernel_rfl) (by kernel_rfl) (by kernel_rfl) (fun _ _ _ h => h) (Or.inl ⟨by kernel_rfl, ?hy37⟩) (by assumption) ?rest37
            case hy37 => (intro w' hSw; (try dsimp only at hSw); go_simp; try with_reducible rfl)
            try simp only [Act.put, List.getElem_toArray, List.getElem_cons_succ, List.getElem_cons_zero, List.setIfInBounds_toArray, List.set_cons_zero, List.set_cons_succ]
            refine wpAnyH_take (i := 4) (oi := _) (v := ?v38) rfl (by kernel_rfl) (by kernel_rfl) (by kernel_rfl) (fun _ _ _ h => h) (Or.inl ⟨by kernel_rfl, ?hy38⟩) (by assumption) ?rest38
            case hy38 => (intro w' hSw; (try dsimp only at hSw); go_simp; try with_reducible rfl)
            try simp only [Act.put, List.getElem_toArray, List.getElem_cons_succ, List.getElem_cons_zero, List.setIfInBounds_toArray, List.set_cons_zero, List.set_cons_succ]
            refine wpAnyH_take (i := 5) (oi := _) (v := ?v39) rfl (by kernel_rfl) (by kernel_rfl) (by kernel_rfl) (fun _ _ _ h => h) (Or.inl ⟨by kernel_rfl, ?hy39⟩) (by assumption) ?rest39
            case hy39 => (intro w' hSw; (try dsimp only at hSw); go_simp; try with_reducible rfl)
            try simp only [Act.put, List.getElem_toArray, List.getElem_cons_succ, List.getElem_cons_zero, List.setIfInBounds_toArray, List.set_cons_zero, List.set_cons_succ]
            refine wpAnyH_ready (rs := [6]) (by kernel_rfl) (by simp) ?_
            refine AllReadyH.cons (o := _) rfl (fun K hK => ?_) AllReadyH.nil
            go_simp
            (go_at_call 32; refine (HG9.out _ (And.left hHeld)).mono ?_; rintro e wm ⟨rfl, hbm⟩)
            try go_wp2_with fail
            refine hK.out _ _ ?_ (fun hHeld => ?_)
            · (try dsimp only); exact HKS.out _ (Below.next (And.left hHeld) hbm)
            clear hK K
            try simp only [Act.put, List.getElem_toArray, List.getElem_cons_succ, List.getElem_cons_zero, List.setIfInBounds_toArray, List.set_cons_zero, List.set_cons_succ]
            refine wpAnyH_take (i := 7) (oi := _) (v := ?v40) rfl (by kernel_rfl) (by kernel_rfl) (by kernel_rfl) (fun _ _ _ h => h) (Or.inl ⟨by kernel_rfl, ?hy40⟩) (by assumption) ?rest40
            case hy40 => (intro w' hSw; (try dsimp only at hSw); go_simp; try with_reducible rfl)
            try simp only [Act.put, List.getElem_toArray, List.getElem_cons_succ, List.getElem_cons_zero, List.setIfInBounds_toArray, List.set_cons_zero, List.set_cons_succ]
            refine wpAnyH_take (i := 8) (oi := _) (v := ?v41) rfl (by kernel_rfl) (by kernel_rfl) (by kernel_rfl) (fun _ _ _ h => h) (Or.inl ⟨by kernel_rfl, ?hy41⟩) (by assumption) ?rest41
            case hy41 => (intro w' hSw; (try dsimp only at hSw); go_simp; try with_reducible rfl)
            try simp only [Act.put, List.getElem_toArray, List.getElem_cons_succ, List.getElem_cons_zero, List.setIfInBounds_toArray, List.set_cons_zero, List.set_cons_succ]
            refine wpAnyH_take (i := 9) (oi := _) (v := ?v42) rfl (by kernel_rfl) (by kernel_rfl) (by kernel_rfl) (fun _ _ _ h => h) (Or.inl ⟨by kernel_rfl, ?hy42⟩) (by assumption) ?rest42
            case hy42 => (intro w' hSw; (try dsimp only at hSw); go_simp; try with_reducible rfl)
            try simp only [Act.put, List.getElem_toArray, List.getElem_cons_succ, List.getElem_cons_zero, List.setIfInBounds_toArray, List.set_cons_zero, List.set_cons_succ]
            refine wpAnyH_take (i := 11) (oi := _) (v := ?v43) rfl (by kernel_rfl) (by kernel_rfl) (by kernel_rfl) (fun _ _ _ h => h) (Or.inl ⟨by kernel_rfl, ?hy43⟩) (by assumption) ?rest43
            case hy43 => (intro w' hSw; (try dsimp only at hSw); go_simp; try with_reducible rfl)
            try simp only [Act.put, List.getElem_toArray, List.getElem_cons_succ, List.getElem_cons_zero, List.setIfInBounds_toArray, List.set_cons_zero, List.set_cons_succ]
            refine wpAnyH_ready (rs := [10]) (by kernel_rfl) (by simp) ?_
            refine AllReadyH.cons (o := _) rfl (fun K hK => ?_) AllReadyH.nil
            go_simp
            (go_at_call 21; refine (HIG.out _).mono ?_; rintro e wm ⟨rfl, hbm⟩)
            try go_wp2_with fail
            refine hK.out _ _ ?_ (fun hHeld => ?_)
            · (try dsimp only); exact HKS.out _ (Below.next (And.left hHeld) hbm)
            clear hK K
            try simp only [Act.put, List.getElem_toArray, List.getElem_cons_succ, List.getElem_cons_zero, List.setIfInBounds_toArray, List.set_cons_zero, List.set_cons_succ]
            refine wpAnyH_ready (rs := [12]) (by kernel_rfl) (by simp) ?_
            refine AllReadyH.cons (o := _) rfl (fun K hK => ?_) AllReadyH.nil
            go_simp
            (go_at_call 21; refine (HIH.out _).mono ?_; rintro e wm ⟨rfl, hbm⟩)
            try go_wp2_with fail
            refine hK.out _ _ ?_ (fun hHeld => ?_)
            · (try dsimp only); exact HKS.out _ (Below.next (And.left hHeld) hbm)
            clear hK K
            try simp only [Act.put, List.getElem_toArray, List.getElem_cons_succ, List.getElem_cons_zero, List.setIfInBounds_toArray, List.set_cons_zero, List.set_cons_succ]
            refine wpAnyH_take (i := 13) (oi := _) (v := .bool true) rfl (by kernel_rfl) (by kernel_rfl) (by kernel_rfl) (fun _ _ _ h => h) (Or.inl ⟨by kernel_rfl, ?hy44⟩) (by assumption) ?rest44
            case hy44 => (intro w' hSw; (try dsimp only at hSw); go_simp; (first | done | simp))
            try simp only [Act.put, List.getElem_toArray, List.getElem_cons_succ, List.getElem_cons_zero, List.setIfInBounds_toArray, List.set_cons_zero, List.set_cons_succ]
            refine wpAnyH_take (i := 14) (oi := _) (v := ?v45) rfl (by kernel_rfl) (by kernel_rfl) (by kernel_rfl) (fun _ _ _ h => h) (Or.inl ⟨by kernel_rfl, ?hy45⟩) (by assumption) ?rest45
            case hy45 => (intro w' hSw; (try dsimp only at hSw); go_simp; try with_reducible rfl)
            try simp only [Act.put, List.getElem_toArray, List.getElem_cons_succ, List.getElem_cons_zero, List.setIfInBounds_toArray, List.set_cons_zero, List.set_cons_succ]
            refine wpAnyH_take (i := 15) (oi := _) (v := ?v46) rfl (by kernel_rfl) (by kernel_rfl) (by kernel_rfl) (fun _ _ _ h => h) (Or.inl ⟨by kernel_rfl, ?hy46⟩) (by assumption) ?rest46
            case hy46 => (intro w' hSw; (try dsimp only at hSw); go_simp; try with_reducible rfl)
            try simp only [Act.put, List.getElem_toArray, List.getElem_cons_succ, List.getElem_cons_zero, List.setIfInBounds_toArray, List.set_cons_zero, List.set_cons_succ]
            refine wpAnyH_take (i := 16) (oi := _) (v := ?v47) rfl (by kernel_rfl) (by kernel_rfl) (by kernel_rfl) (fun _ _ _ h => h) (Or.inl ⟨by kernel_rfl, ?hy47⟩) (by assumption) ?rest47
            case hy47 => (intro w' hSw; (try dsimp only at hSw); go_simp; try with_reducible rfl)
            try simp only [Act.put, List.getElem_toArray, List.getElem_cons_succ, List.getElem_cons_zero, List.setIfInBounds_toArray, List.set_cons_zero, List.set_cons_succ]
            refine wpAnyH_take (i := 17) (oi := _) (v := ?v48) rfl (by kernel_rfl) (by kernel_rfl) (by kernel_rfl) (fun _ _ _ h => h) (Or.inl ⟨by kernel_rfl, ?hy48⟩) (by assumption) ?rest48
            case hy48 => (intro w' hSw; (try dsimp only at hSw); go_simp; try with_reducible rfl)
            try simp only [Act.put, List.getElem_toArray, List.getElem_cons_succ, List.getElem_cons_zero, List.setIfInBounds_toArray, List.set_cons_zero, List.set_cons_succ]
            refine wpAnyH_take (i := 18) (oi := _) (v := ?v49) rfl (by kernel_rfl) (by kernel_rfl) (by kernel_rfl) (fun _ _ _ h => h) (Or.inl ⟨by kernel_rfl, ?hy49⟩) (by assumption) ?rest49
            case hy49 => (intro w' hSw; (try dsimp only at hSw); go_simp; try with_reducible rfl)
            try simp only [Act.put, List.getElem_toArray, List.getElem_cons_succ, List.getElem_cons_zero, List.setIfInBounds_toArray, List.set_cons_zero, List.set_cons_succ]
            refine wpAnyH_take (i := 19) (oi := _) (v := .bool true) rfl (by kernel_rfl) (by kernel_rfl) (by kernel_rfl) (fun _ _ _ h => h) (Or.inl ⟨by kernel_rfl, ?hy50⟩) (by assumption) ?rest50
            case hy50 => (intro w' hSw; (try dsimp only at hSw); go_simp; (first | done | omega | (congr 1; simp; omega) | (congr 1; rw [decide_eq_true_eq]; omega) | (congr 1; rw [decide_eq_false_iff_not]; omega)))
            try simp only [Act.put, List.getElem_toArray, List.getElem_cons_succ, List.getElem_cons_zero, List.setIfInBounds_toArray, List.set_cons_zero, List.set_cons_succ]
            refine wpAnyH_take (i := 20) (oi := _) (v := ?v51) rfl (by kernel_rfl) (by kernel_rfl) (by kernel_rfl) (fun _ _ _ h => h) (Or.inl ⟨by kernel_rfl, ?hy51⟩) (by assumption) ?rest51
            case hy51 => (intro w' hSw; (try dsimp only at hSw); go_simp; try with_reducible rfl)
            try simp only [Act.put, List.getElem_toArray, List.getElem_cons_succ, List.getElem_cons_zero, List.setIfInBounds_toArray, List.set_cons_zero, List.set_cons_succ]
            refine wpAnyH_take (i := 21) (oi := _) (v := undef) rfl (by kernel_rfl) (by kernel_rfl) (by kernel_rfl) (fun _ _ _ h => h) (Or.inr ⟨by kernel_rfl, rfl⟩) (by assumption) ?_
            try simp only [Act.put, List.getElem_toArray, List.getElem_cons_succ, List.getElem_cons_zero, List.setIfInBounds_toArray, List.set_cons_zero, List.set_cons_succ]
            refine wpAnyH_take (i := 22) (oi := _) (v := undef) rfl (by kernel_rfl) (by kernel_rfl) (by kernel_rfl) (fun _ _ _ h => h) (Or.inr ⟨by kernel_rfl, rfl⟩) (by assumption) ?_
            try simp only [Act.put, List.getElem_toArray, List.getElem_cons_succ, List.getElem_cons_zero, List.setIfInBounds_toArray, List.set_cons_zero, List.set_cons_succ]
            refine wpAnyH_take (i := 23) (oi := _) (v := undef) rfl (by kernel_rfl) (by kernel_rfl) (by kernel_rfl) (fun _ _ _ h => h) (Or.inr ⟨by kernel_rfl, rfl⟩) (by assumption) ?_
            try simp only [Act.put, List.getElem_toArray, List.getElem_cons_succ, List.getElem_cons_zero, List.setIfInBounds_toArray, List.set_cons_zero, List.set_cons_succ]
            refine wpAnyH_take (i := 24) (oi := _) (v := undef) rfl (by kernel_rfl) (by kernel_rfl) (by kernel_rfl) (fun _ _ _ h => h) (Or.inr ⟨by kernel_rfl, rfl⟩) (by assumption) ?_
            try simp only [Act.put, List.getElem_toArray, List.getElem_cons_succ, List.getElem_cons_zero, List.setIfInBounds_toArray, List.set_cons_zero, List.set_cons_succ]
            refine wpAnyH_take (i := 25) (oi := _) (v := ?v52) rfl (by kernel_rfl) (by kernel_rfl) (by kernel_rfl) (fun _ _ _ h => h) (Or.inl ⟨by kernel_rfl, ?hy52⟩) (by assumption) ?rest52
            case hy52 => (intro w' hSw; (try dsimp only at hSw); go_simp; try with_reducible rfl)
            try simp only [Act.put, List.getElem_toArray, List.getElem_cons_succ, List.getElem_cons_zero, List.setIfInBounds_toArray, List.set_cons_zero, List.set_cons_succ]
            refine wpAnyH_take (i := 26) (oi := _) (v := ?v53) rfl (by kernel_rfl) (by kernel_rfl) (by kernel_rfl) (fun _ _ _ h => h) (Or.inl ⟨by kernel_rfl, ?hy53⟩) (by assumption) ?rest53
            case hy53 => (intro w' hSw; (try dsimp only at hSw); go_simp; try with_reducible rfl)
            try simp only [Act.put, List.getElem_toArray, List.getElem_cons_succ, List.getElem_cons_zero, List.setIfInBounds_toArray, List.set_cons_zero, List.set_cons_succ]
            refine wpAnyH_take (i := 27) (oi := _) (v := ?v54) rfl (by kernel_rfl) (by kernel_rfl) (by kernel_rfl) (fun _ _ _ h => h) (Or.inl ⟨by kernel_rfl, ?hy54⟩) (by assumption) ?rest54
            case hy54 => (intro w' hSw; (try dsimp only at hSw); go_simp; try with_reducible rfl)
            try simp only [Act.put, List.getElem_toArray, List.getElem_cons_succ, List.getElem_cons_zero, List.setIfInBounds_toArray, List.set_cons_zero, List.set_cons_succ]
            refine wpAnyH_take (i := 28) (oi := _) (v := ?v55) rfl (by kernel_rfl) (by kernel_rfl) (by kernel_rfl) (fun _ _ _ h => h) (Or.inl ⟨by kernel_rfl, ?hy55⟩) (by assumption) ?rest55
            case hy55 => (intro w' hSw; (try dsimp only at hSw); go_simp; try with_reducible rfl)
            try simp only [Act.put, List.getElem_toArray, List.getElem_cons_succ, List.getElem_cons_zero, List.setIfInBounds_toArray, List.set_cons_zero, List.set_cons_succ]
            refine wpAnyH_take (i := 29) (oi := _) (v := ?v56) rfl (by kernel_rfl) (by kernel_rfl) (by kernel_rfl) (fun _ _ _ h => h) (Or.inl ⟨by kernel_rfl, ?hy56⟩) (by assumption) ?rest56
            case hy56 => (intro w' hSw; (try dsimp only at hSw); go_simp; try with_reducible rfl)
            try simp only [Act.put, List.getElem_toArray, List.getElem_cons_succ, List.getElem_cons_zero, List.setIfInBounds_toArray, List.set_cons_zero, List.set_cons_succ]
            refine wpAnyH_take (i := 30) (oi := _) (v := .bool true) rfl (by kernel_rfl) (by kernel_rfl) (by kernel_rfl) (fun _ _ _ h => h) (Or.inl ⟨by kernel_rfl, ?hy57⟩) (by assumption) ?rest57
            case hy57 => (intro w' hSw; (try dsimp only at hSw); go_simp; (first | done | omega | (congr 1; simp; omega) | (congr 1; rw [decide_eq_true_eq]; omega) | (congr 1; rw [decide_eq_false_iff_not]; omega)))
            try simp only [Act.put, List.getElem_toArray, List.getElem_cons_succ, List.getElem_cons_zero, List.setIfInBounds_toArray, List.set_cons_zero, List.set_cons_succ]
            refine wpAnyH_take (i := 31) (oi := _) (v := ?v58) rfl (by kernel_rfl) (by kernel_rfl) (by kernel_rfl) (fun _ _ _ h => h) (Or.inl ⟨by kernel_rfl, ?hy58⟩) (by assumption) ?rest58
            case hy58 => (intro w' hSw; (try dsimp only at hSw); go_simp; try with_reducible rfl)
            try simp only [Act.put, List.getElem_toArray, List.getElem_cons_succ, List.getElem_cons_zero, List.setIfInBounds_toArray, List.set_cons_zero, List.set_cons_succ]
            refine wpAnyH_take (i := 32) (oi := _) (v := ?v59) rfl (by kernel_rfl) (by kernel_rfl) (by kernel_rfl) (fun _ _ _ h => h) (Or.inl ⟨by kernel_rfl, ?hy59⟩) (by assumption) ?rest59
            case hy59 => (intro w' hSw; (try dsimp only at hSw); go_simp; try with_reducible rfl)
            try simp only [Act.put, List.getElem_toArray, List.getElem_cons_succ, List.getElem_cons_zero, List.setIfInBounds_toArray, List.set_cons_zero, List.set_cons_succ]
            refine wpAnyH_take (i := 33) (oi := _) (v := ?v60) rfl (by kernel_rfl) (by kernel_rfl) (by kernel_rfl) (fun _ _ _ h => h) (Or.inl ⟨by kernel_rfl, ?hy60⟩) (by assumption) ?rest60
            case hy60 => (intro w' hSw; (try dsimp only at hSw); go_simp; try with_reducible rfl)
            try simp only [Act.put, List.getElem_toArray, List.getElem_cons_succ, List.getElem_cons_zero, List.setIfInBounds_toArray, List.set_cons_zero, List.set_cons_succ]
            refine wpAnyH_done (by kernel_rfl) ?_ _
            have hqe := And.left hHeld
            clear hHeld
            go_wp2_with fail
            go_ret
            exact ⟨rfl, Below.next hbF hqe⟩
        · have h12i : ¬ (12 : Int) < ((l.length + l.length : Nat) : Int) := by omega
          have hdk := HTW.out rfl (by omega)
          subst hdk
          cases gk
          · go_wp2_with fail
            refine wp_region_held_drew (S := fun w' => Below WF.heap.size WF w' ∧ w'.cell? ⟨bg, 0, none⟩ = some (.int .i64 h) ∧ w'.cell? ⟨bg, 1, none⟩ = some (.int .i64 (t + 1)) ∧ w'.cell? ⟨bg, 2, none⟩ = some (.string (S la)) ∧ w'.cell? ⟨bg, 3, none⟩ = some (.string (S va)) ∧ w'.cell? ⟨bg, 4, none⟩ = some (.string (S ne)) ∧ w'.cell? ⟨bg, 5, none⟩ = some (.string (S da)) ∧ w'.cell? ⟨b4, 0, none⟩ = some (.int .i64 h) ∧ w'.cell? ⟨b4, 1, none⟩ = some (.int .i64 t) ∧ w'.cell? ⟨b4, 2, none⟩ = some (.string (S la)) ∧ w'.cell? ⟨b4, 3, none⟩ = some (.string (S va)) ∧ w'.cell? ⟨b4, 4, none⟩ = some (.string (S ne)) ∧ w'.cell? ⟨b4, 5, none⟩ = some (.string (S da)) ∧ w'.cell? ⟨b5, 0, none⟩ = some (.int .i64 ch) ∧ w'.cell? ⟨b5, 1, none⟩ = some (.int .i64 cr) ∧ w'.cell? ⟨b5, 2, none⟩ = some (.string (S id)) ∧ w'.cell? ⟨b5, 3, none⟩ = some (.slice Ac l.length cc) ∧ w'.cell? ⟨bd, 0, none⟩ = some (.int .i64 ch) ∧ w'.cell? ⟨bd, 1, none⟩ = some (.int .i64 cr) ∧ w'.cell? ⟨bd, 2, none⟩ = some (.string (S id)) ∧ w'.cell? ⟨bd, 3, none⟩ = some (.slice A2 (l.length + l.length) c2)) (by kernel_rfl) (by (try dsimp only); exact HKS.out _ (Below.refl _ _).drew) (fun hHeld => ?_)
            refine wpAnyH_take (i := 0) (oi := _) (v := ?v61) rfl (by kernel_rfl) (by kernel_rfl) (by kernel_rfl) (fun _ _ _ h => h) (Or.inl ⟨by kernel_rfl, ?hy61⟩) (by assumption) ?rest61
            case hy61 => (intro w' hSw; (try dsimp only at hSw); go_simp; try with_reducible rfl)
            try simp only [Act.put, List.getElem_toArray, List.getElem_cons_succ, List.getElem_cons_zero, List.setIfInBounds_toArray, List.set_cons_zero, List.set_cons_succ]
            refine wpAnyH_take (i := 1) (oi := _) (v := ?v62) rfl (by kernel_rfl) (by kernel_rfl) (by kernel_rfl) (fun _ _ _ h => h) (Or.inl ⟨by kernel_rfl, ?hy62⟩) (by assumption) ?rest62
            case hy62 => (intro w' hSw; (try dsimp only at hSw); go_simp; try with_reducible rfl)
            try simp only [Act.put, List.getElem_toArray, List.getElem_cons_succ, List.getElem_cons_zero, List.setIfInBounds_toArray, List.set_cons_zero, List.set_cons_succ]
            refine wpAnyH_take (i := 2) (oi := _) (v := ?v63) rfl (by kernel_rfl) (by kernel_rfl) (by kernel_rfl) (fun _ _ _ h => h) (Or.inl ⟨by kernel_rfl, ?hy63⟩) (by assumption) ?rest63
            case hy63 => (intro w' hSw; (try dsimp only at hSw); go_simp; try with_reducible rfl)
            try simp only [Act.put, List.getElem_toArray, List.getElem_cons_succ, List.getElem_cons_zero, List.setIfInBounds_toArray, List.set_cons_zero, List.set_cons_succ]
            refine wpAnyH_take (i := 3) (oi := _) (v := ?v64) rfl (by kernel_rfl) (by kernel_rfl) (by kernel_rfl) (fun _ _ _ h => h) (Or.inl ⟨by kernel_rfl, ?hy64⟩) (by assumption) ?rest64
            case hy64 => (intro w' hSw; (try dsimp only at hSw); go_simp; try with_reducible rfl)
            try simp only [Act.put, List.getElem_toArray, List.getElem_cons_succ, List.getElem_cons_zero, List.setIfInBounds_toArray, List.set_cons_zero, List.set_cons_succ]
            refine wpAnyH_take (i := 4) (oi := _) (v := ?v65) rfl (by kernel_rfl) (by kernel_rfl) (by kernel_rfl) (fun _ _ _ h => h) (Or.inl ⟨by kernel_rfl, ?hy65⟩) (by assumption) ?rest65
            case hy65 => (intro w' hSw; (try dsimp only at hSw); go_simp; try with_reducible rfl)
            try simp only [Act.put, List.getElem_toArray, List.getElem_cons_succ, List.getElem_cons_zero, List.setIfInBounds_toArray, List.set_cons_zero, List.set_cons_succ]
            refine wpAnyH_take (i := 5) (oi := _) (v := ?v66) rfl (by kernel_rfl) (by kernel_rfl) (by kernel_rfl) (fun _ _ _ h => h) (Or.inl ⟨by kernel_rfl, ?hy66⟩) (by assumption) ?rest66
            case hy66 => (intro w' hSw; (try dsimp only at hSw); go_simp; try with_reducible rfl)
            try simp only [Act.put, List.getElem_toArray, List.getElem_cons_succ, List.getElem_cons_zero, List.setIfInBounds_toArray, List.set_cons_zero, List.set_cons_succ]
            refine wpAnyH_ready (rs := [6]) (by kernel_rfl) (by simp) ?_
            refine AllReadyH.cons (o := _) rfl (fun K hK => ?_) AllReadyH.nil
            go_simp
            (go_at_call 32; refine (HG9.out _ (And.left hHeld)).mono ?_; rintro e wm ⟨rfl, hbm⟩)
            try go_wp2_with fail
            refine hK.out _ _ ?_ (fun hHeld => ?_)
            · (try dsimp only); exact HKS.out _ (Below.next (And.left hHeld) hbm)
            clear hK K
            try simp only [Act.put, List.getElem_toArray, List.getElem_cons_succ, List.getElem_cons_zero, List.setIfInBounds_toArray, List.set_cons_zero, List.set_cons_succ]
            refine wpAnyH_take (i := 7) (oi := _) (v := ?v67) rfl (by kernel_rfl) (by kernel_rfl) (by kernel_rfl) (fun _ _ _ h => h) (Or.inl ⟨by kernel_rfl, ?hy67⟩) (by assumption) ?rest67
            case hy67 => (intro w' hSw; (try dsimp only at hSw); go_simp; try with_reducible rfl)
            try simp only [Act.put, List.getElem_toArray, List.getElem_cons_succ, List.getElem_cons_zero, List.setIfInBounds_toArray, List.set_cons_zero, List.set_cons_succ]
            refine wpAnyH_take (i := 8) (oi := _) (v := ?v68) rfl (by kernel_rfl) (by kernel_rfl) (by kernel_rfl) (fun _ _ _ h => h) (Or.inl ⟨by kernel_rfl, ?hy68⟩) (by assumption) ?rest68
            case hy68 => (intro w' hSw; (try dsimp only at hSw); go_simp; try with_reducible rfl)
            try simp only [Act.put, List.getElem_toArray, List.getElem_cons_succ, List.getElem_cons_zero, List.setIfInBounds_toArray, List.set_cons_zero, List.set_cons_succ]
            refine wpAnyH_take (i := 9) (oi := _) (v := undef) rfl (by kernel_rfl) (by kernel_rfl) (by kernel_rfl) (fun _ _ _ h => h) (Or.inr ⟨by kernel_rfl, rfl⟩) (by assumption) ?_
            try simp only [Act.put, List.getElem_toArray, List.getElem_cons_succ, List.getElem_cons_zero, List.setIfInBounds_toArray, List.set_cons_zero, List.set_cons_succ]
            refine wpAnyH_take (i := 10) (oi := _) (v := undef) rfl (by kernel_rfl) (by kernel_rfl) (by kernel_rfl) (fun _ _ _ h => h) (Or.inr ⟨by kernel_rfl, rfl⟩) (by assumption) ?_
            try simp only [Act.put, List.getElem_toArray, List.getElem_cons_succ, List.getElem_cons_zero, List.setIfInBounds_toArray, List.set_cons_zero, List.set_cons_succ]
            refine wpAnyH_take (i := 11) (oi := _) (v := undef) rfl (by kernel_rfl) (by kernel_rfl) (by kernel_rfl) (fun _ _ _ h => h) (Or.inr ⟨by kernel_rfl, rfl⟩) (by assumption) ?_
            try simp only [Act.put, List.getElem_toArray, List.getElem_cons_succ, List.getElem_cons_zero, List.setIfInBounds_toArray, List.set_cons_zero, List.set_cons_succ]
            refine wpAnyH_take (i := 12) (oi := _) (v := undef) rfl (by kernel_rfl) (by kernel_rfl) (by kernel_rfl) (fun _ _ _ h => h) (Or.inr ⟨by kernel_rfl, rfl⟩) (by assumption) ?_
            try simp only [Act.put, List.getElem_toArray, List.getElem_cons_succ, List.getElem_cons_zero, List.setIfInBounds_toArray, List.set_cons_zero, List.set_cons_succ]
            refine wpAnyH_take (i := 13) (oi := _) (v := undef) rfl (by kernel_rfl) (by kernel_rfl) (by kernel_rfl) (fun _ _ _ h => h) (Or.inr ⟨by kernel_rfl, rfl⟩) (by assumption) ?_
            try simp only [Act.put, List.getElem_toArray, List.getElem_cons_succ, List.getElem_cons_zero, List.setIfInBounds_toArray, List.set_cons_zero, List.set_cons_succ]
            refine wpAnyH_take (i := 14) (oi := _) (v := ?v69) rfl (by kernel_rfl) (by kernel_rfl) (by kernel_rfl) (fun _ _ _ h => h) (Or.inl ⟨by kernel_rfl, ?hy69⟩) (by assumption) ?rest69
            case hy69 => (intro w' hSw; (try dsimp only at hSw); go_simp; try with_reducible rfl)
            try simp only [Act.put, List.getElem_toArray, List.getElem_cons_succ, List.getElem_cons_zero, List.setIfInBounds_toArray, List.set_cons_zero, List.set_cons_succ]
            refine wpAnyH_take (i := 15) (oi := _) (v := ?v70) rfl (by kernel_rfl) (by kernel_rfl) (by kernel_rfl) (fun _ _ _ h => h) (Or.inl ⟨by kernel_rfl, ?hy70⟩) (by assumption) ?rest70
            case hy70 => (intro w' hSw; (try dsimp only at hSw); go_simp; try with_reducible rfl)
            try simp only [Act.put, List.getElem_toArray, List.getElem_cons_succ, List.getElem_cons_zero, List.setIfInBounds_toArray, List.set_cons_zero, List.set_cons_succ]
            refine wpAnyH_take (i := 16) (oi := _) (v := ?v71) rfl (by kernel_rfl) (by kernel_rfl) (by kernel_rfl) (fun _ _ _ h => h) (Or.inl ⟨by kernel_rfl, ?hy71⟩) (by assumption) ?rest71
            case hy71 => (intro w' hSw; (try dsimp only at hSw); go_simp; try with_reducible rfl)
            try simp only [Act.put, List.getElem_toArray, List.getElem_cons_succ, List.getElem_cons_zero, List.setIfInBounds_toArray, List.set_cons_zero, List.set_cons_succ]
            refine wpAnyH_take (i := 17) (oi := _) (v := ?v72) rfl (by kernel_rfl) (by kernel_rfl) (by kernel_rfl) (fun _ _ _ h => h) (Or.inl ⟨by kernel_rfl, ?hy72⟩) (by assumption) ?rest72
            case hy72 => (intro w' hSw; (try dsimp only at hSw); go_simp; try with_reducible rfl)
            try simp only [Act.put, List.getElem_toArray, List.getElem_cons_succ, List.getElem_cons_zero, List.setIfInBounds_toArray, List.set_cons_zero, List.set_cons_succ]
            refine wpAnyH_take (i := 18) (oi := _) (v := ?v73) rfl (by kernel_rfl) (by kernel_rfl) (by kernel_rfl) (fun _ _ _ h => h) (Or.inl ⟨by kernel_rfl, ?hy73⟩) (by assumption) ?rest73
            case hy73 => (intro w' hSw; (try dsimp only at hSw); go_simp; try with_reducible rfl)
            try simp only [Act.put, List.getElem_toArray, List.getElem_cons_succ, List.getElem_cons_zero, List.setIfInBounds_toArray, List.set_cons_zero, List.set_cons_succ]
            refine wpAnyH_take (i := 19) (oi := _) (v := .bool false) rfl (by kernel_rfl) (by kernel_rfl) (by kernel_rfl) (fun _ _ _ h => h) (Or.inl ⟨by kernel_rfl, ?hy74⟩) (by assumption) ?rest74
            case hy74 => (intro w' hSw; (try dsimp only at hSw); go_simp; (first | done | omega | (congr 1; simp; omega) | (congr 1; rw [decide_eq_true_eq]; omega) | (congr 1; rw [decide_eq_false_iff_not]; omega)))
            try simp only [Act.put, List.getElem_toArray, List.getElem_cons_succ, List.getElem_cons_zero, List.setIfInBounds_toArray, List.set_cons_zero, List.set_cons_succ]
            refine wpAnyH_take (i := 20) (oi := _) (v := ?v75) rfl (by kernel_rfl) (by kernel_rfl) (by kernel_rfl) (fun _ _ _ h => h) (Or.inl ⟨by kernel_rfl, ?hy75⟩) (by assumption) ?rest75
            case hy75 => (intro w' hSw; (try dsimp only at hSw); go_simp; try with_reducible rfl)
            try simp only [Act.put, List.getElem_toArray, List.getElem_cons_succ, List.getElem_cons_zero, List.setIfInBounds_toArray, List.set_cons_zero, List.set_cons_succ]
            refine wpAnyH_take (i := 21) (oi := _) (v := ?v76) rfl (by kernel_rfl) (by kernel_rfl) (by kernel_rfl) (fun _ _ _ h => h) (Or.inl ⟨by kernel_rfl, ?hy76⟩) (by assumption) ?rest76
            case hy76 => (intro w' hSw; (try dsimp only at hSw); go_simp; try with_reducible rfl)
            try simp only [Act.put, List.getElem_toArray, List.getElem_cons_succ, List.getElem_cons_zero, List.setIfInBounds_toArray, List.set_cons_zero, List.set_cons_succ]
            refine wpAnyH_take (i := 22) (oi := _) (v := ?v77) rfl (by kernel_rfl) (by kernel_rfl) (by kernel_rfl) (fun _ _ _ h => h) (Or.inl ⟨by kernel_rfl, ?hy77⟩) (by assumption) ?rest77
            case hy77 => (intro w' hSw; (try dsimp only at hSw); go_simp; try with_reducible rfl)
            try simp only [Act.put, List.getElem_toArray, List.getElem_cons_succ, List.getElem_cons_zero, List.setIfInBounds_toArray, List.set_cons_zero, List.set_cons_succ]
            refine wpAnyH_take (i := 23) (oi := _) (v := ?v78) rfl (by kernel_rfl) (by kernel_rfl) (by kernel_rfl) (fun _ _ _ h => h) (Or.inl ⟨by kernel_rfl, ?hy78⟩) (by assumption) ?rest78
            case hy78 => (intro w' hSw; (try dsimp only at hSw); go_simp; try with_reducible rfl)
            try simp only [Act.put, List.getElem_toArray, List.getElem_cons_succ, List.getElem_cons_zero, List.setIfInBounds_toArray, List.set_cons_zero, List.set_cons_succ]
            refine wpAnyH_ready (rs := [24]) (by kernel_rfl) (by simp) ?_
            refine AllReadyH.cons (o := _) rfl (fun K hK => ?_) AllReadyH.nil
            go_simp
            (go_at_call 32; refine (HD9.out _ (And.left hHeld)).mono ?_; rintro e wm ⟨rfl, hbm⟩)
            try go_wp2_with fail
            refine hK.out _ _ ?_ (fun hHeld => ?_)
            · (try dsimp only); exact HKS.out _ (Below.next (And.left hHeld) hbm)
            clear hK K
            try simp only [Act.put, List.getElem_toArray, List.getElem_cons_succ, List.getElem_cons_zero, List.setIfInBounds_toArray, List.set_cons_zero, List.set_cons_succ]
            refine wpAnyH_take (i := 25) (oi := _) (v := ?v79) rfl (by kernel_rfl) (by kernel_rfl) (by kernel_rfl) (fun _ _ _ h => h) (Or.inl ⟨by kernel_rfl, ?hy79⟩) (by assumption) ?rest79
            case hy79 => (intro w' hSw; (try dsimp only at hSw); go_simp; try with_reducible rfl)
            try simp only [Act.put, List.getElem_toArray, List.getElem_cons_succ, List.getElem_cons_zero, List.setIfInBounds_toArray, List.set_cons_zero, List.set_cons_succ]
            refine wpAnyH_take (i := 26) (oi := _) (v := ?v80) rfl (by kernel_rfl) (by kernel_rfl) (by kernel_rfl) (fun _ _ _ h => h) (Or.inl ⟨by kernel_rfl, ?hy80⟩) (by assumption) ?rest80
            case hy80 => (intro w' hSw; (try dsimp only at hSw); go_simp; try with_reducible rfl)
            try simp only [Act.put, List.getElem_toArray, List.getElem_cons_succ, List.getElem_cons_zero, List.setIfInBounds_toArray, List.set_cons_zero, List.set_cons_succ]
            refine wpAnyH_take (i := 27) (oi := _) (v := ?v81) rfl (by kernel_rfl) (by kernel_rfl) (by kernel_rfl) (fun _ _ _ h => h) (Or.inl ⟨by kernel_rfl, ?hy81⟩) (by assumption) ?rest81
            case hy81 => (intro w' hSw; (try dsimp only at hSw); go_simp; try with_reducible rfl)
            try simp only [Act.put, List.getElem_toArray, List.getElem_cons_succ, List.getElem_cons_zero, List.setIfInBounds_toArray, List.set_cons_zero, List.set_cons_succ]
            refine wpAnyH_take (i := 28) (oi := _) (v := ?v82) rfl (by kernel_rfl) (by kernel_rfl) (by kernel_rfl) (fun _ _ _ h => h) (Or.inl ⟨by kernel_rfl, ?hy82⟩) (by assumption) ?rest82
            case hy82 => (intro w' hSw; (try dsimp only at hSw); go_simp; try with_reducible rfl)
            try simp only [Act.put, List.getElem_toArray, List.getElem_cons_succ, List.getElem_cons_zero, List.setIfInBounds_toArray, List.set_cons_zero, List.set_cons_succ]
            refine wpAnyH_take (i := 29) (oi := _) (v := ?v83) rfl (by kernel_rfl) (by kernel_rfl) (by kernel_rfl) (fun _ _ _ h => h) (Or.inl ⟨by kernel_rfl, ?hy83⟩) (by assumption) ?rest83
            case hy83 => (intro w' hSw; (try dsimp only at hSw); go_simp; try with_reducible rfl)
            try simp only [Act.put, List.getElem_toArray, List.getElem_cons_succ, List.getElem_cons_zero, List.setIfInBounds_toArray, List.set_cons_zero, List.set_cons_succ]
            refine wpAnyH_take (i := 30) (oi := _) (v := .bool true) rfl (by kernel_rfl) (by kernel_rfl) (by kernel_rfl) (fun _ _ _ h => h) (Or.inl ⟨by kernel_rfl, ?hy84⟩) (by assumption) ?rest84
            case hy84 => (intro w' hSw; (try dsimp only at hSw); go_simp; (first | done | omega | (congr 1; simp; omega) | (congr 1; rw [decide_eq_true_eq]; omega) | (congr 1; rw [decide_eq_false_iff_not]; omega)))
            try simp only [Act.put, List.getElem_toArray, List.getElem_cons_succ, List.getElem_cons_zero, List.setIfInBounds_toArray, List.set_cons_zero, List.set_cons_succ]
            refine wpAnyH_take (i := 31) (oi := _) (v := ?v85) rfl (by kernel_rfl) (by kernel_rfl) (by kernel_rfl) (fun _ _ _ h => h) (Or.inl ⟨by kernel_rfl, ?hy85⟩) (by assumption) ?rest85
            case hy85 => (intro w' hSw; (try dsimp only at hSw); go_simp; try with_reducible rfl)
            try simp only [Act.put, List.getElem_toArray, List.getElem_cons_succ, List.getElem_cons_zero, List.setIfInBounds_toArray, List.set_cons_zero, List.set_cons_succ]
            refine wpAnyH_take (i := 32) (oi := _) (v := ?v86) rfl (by kernel_rfl) (by kernel_rfl) (by kernel_rfl) (fun _ _ _ h => h) (Or.inl ⟨by kernel_rfl, ?hy86⟩) (by assumption) ?rest86
            case hy86 => (intro w' hSw; (try dsimp only at hSw); go_simp; try with_reducible rfl)
            try simp only [Act.put, List.getElem_toArray, List.getElem_cons_succ, List.getElem_cons_zero, List.setIfInBounds_toArray, List.set_cons_zero, List.set_cons_succ]
            refine wpAnyH_take (i := 33) (oi := _) (v := ?v87) rfl (by kernel_rfl) (by kernel_rfl) (by kernel_rfl) (fun _ _ _ h => h) (Or.inl ⟨by kernel_rfl, ?hy87⟩) (by assumption) ?rest87
            case hy87 => (intro w' hSw; (try dsimp only at hSw); go_simp; try with_reducible rfl)
            try simp only [Act.put, List.getElem_toArray, List.getElem_cons_succ, List.getElem_cons_zero, List.setIfInBounds_toArray, List.set_cons_zero, List.set_cons_succ]
            refine wpAnyH_done (by kernel_rfl) ?_ _
            have hqe := And.left hHeld
            clear hHeld
            go_wp2_with fail
            go_ret
            exact ⟨rfl, Below.next hbF hqe⟩
          · have hgi := HGT.out rfl rfl
            subst hgi
            go_wp2_with fail
            refine wp_region_held_drew (S := fun w' => Below WF.heap.size WF w' ∧ w'.cell? ⟨bg, 0, none⟩ = some (.int .i64 h) ∧ w'.cell? ⟨bg, 1, none⟩ = some (.int .i64 (t + 1)) ∧ w'.cell? ⟨bg, 2, none⟩ = some (.string (S la)) ∧ w'.cell? ⟨bg, 3, none⟩ = some (.string (S va)) ∧ w'.cell? ⟨bg, 4, none⟩ = some (.string (S ne)) ∧ w'.cell? ⟨bg, 5, none⟩ = some (.string (S da)) ∧ w'.cell? ⟨b4, 0, none⟩ = some (.int .i64 h) ∧ w'.cell? ⟨b4, 1, none⟩ = some (.int .i64 t) ∧ w'.cell? ⟨b4, 2, none⟩ = some (.string (S la)) ∧ w'.cell? ⟨b4, 3, none⟩ = some (.string (S va)) ∧ w'.cell? ⟨b4, 4, none⟩ = some (.string (S ne)) ∧ w'.cell? ⟨b4, 5, none⟩ = some (.string (S da)) ∧ w'.cell? ⟨b5, 0, none⟩ = some (.int .i64 ch) ∧ w'.cell? ⟨b5, 1, none⟩ = some (.int .i64 cr) ∧ w'.cell? ⟨b5, 2, none⟩ = some (.string (S id)) ∧ w'.cell? ⟨b5, 3, none⟩ = some (.slice Ac l.length cc) ∧ w'.cell? ⟨bd, 0, none⟩ = some (.int .i64 ch) ∧ w'.cell? ⟨bd, 1, none⟩ = some (.int .i64 cr) ∧ w'.cell? ⟨bd, 2, none⟩ = some (.string (S id)) ∧ w'.cell? ⟨bd, 3, none⟩ = some (.slice A2 (l.length + l.length) c2)) (by kernel_rfl) (by (try dsimp only); exact HKS.out _ (Below.refl _ _).drew) (fun hHeld => ?_)
            refine wpAnyH_take (i := 0) (oi := _) (v := ?v88) rfl (by kernel_rfl) (by kernel_rfl) (by kernel_rfl) (fun _ _ _ h => h) (Or.inl ⟨by kernel_rfl, ?hy88⟩) (by assumption) ?rest88
            case hy88 => (intro w' hSw; (try dsimp only at hSw); go_simp; try with_reducible rfl)
            try simp only [Act.put, List.getElem_toArray, List.getElem_cons_succ, List.getElem_cons_zero, List.setIfInBounds_toArray, List.set_cons_zero, List.set_cons_succ]
            refine wpAnyH_take (i := 1) (oi := _) (v := ?v89) rfl (by kernel_rfl) (by kernel_rfl) (by kernel_rfl) (fun _ _ _ h => h) (Or.inl ⟨by kernel_rfl, ?hy89⟩) (by assumption) ?rest89
            case hy89 => (intro w' hSw; (try dsimp only at hSw); go_simp; try with_reducible rfl)
            try simp only [Act.put, List.getElem_toArray, List.getElem_cons_succ, List.getElem_cons_zero, List.setIfInBounds_toArray, List.set_cons_zero, List.set_cons_succ]
            refine wpAnyH_take (i := 2) (oi := _) (v := ?v90) rfl (by kernel_rfl) (by kernel_rfl) (by kernel_rfl) (fun _ _ _ h => h) (Or.inl ⟨by kernel_rfl, ?hy90⟩) (by assumption) ?rest90
            case hy90 => (intro w' hSw; (try dsimp only at hSw); go_simp; try with_reducible rfl)
            try simp only [Act.put, List.getElem_toArray, List.getElem_cons_succ, List.getElem_cons_zero, List.setIfInBounds_toArray, List.set_cons_zero, List.set_cons_succ]
            refine wpAnyH_take (i := 3) (oi := _) (v := ?v91) rfl (by kernel_rfl) (by kernel_rfl) (by kernel_rfl) (fun _ _ _ h => h) (Or.inl ⟨by kernel_rfl, ?hy91⟩) (by assumption) ?rest91
            case hy91 => (intro w' hSw; (try dsimp only at hSw); go_simp; try with_reducible rfl)
            try simp only [Act.put, List.getElem_toArray, List.getElem_cons_succ, List.getElem_cons_zero, List.setIfInBounds_toArray, List.set_cons_zero, List.set_cons_succ]
            refine wpAnyH_take (i := 4) (oi := _) (v := ?v92) rfl (by kernel_rfl) (by kernel_rfl) (by kernel_rfl) (fun _ _ _ h => h) (Or.inl ⟨by kernel_rfl, ?hy92⟩) (by assumption) ?rest92
            case hy92 => (intro w' hSw; (try dsimp only at hSw); go_simp; try with_reducible rfl)
            try simp only [Act.put, List.getElem_toArray, List.getElem_cons_succ, List.getElem_cons_zero, List.setIfInBounds_toArray, List.set_cons_zero, List.set_cons_succ]
            refine wpAnyH_take (i := 5) (oi := _) (v := ?v93) rfl (by kernel_rfl) (by kernel_rfl) (by kernel_rfl) (fun _ _ _ h => h) (Or.inl ⟨by kernel_rfl, ?hy93⟩) (by assumption) ?rest93
            case hy93 => (intro w' hSw; (try dsimp only at hSw); go_simp; try with_reducible rfl)
            try simp only [Act.put, List.getElem_toArray, List.getElem_cons_succ, List.getElem_cons_zero, List.setIfInBounds_toArray, List.set_cons_zero, List.set_cons_succ]
            refine wpAnyH_ready (rs := [6]) (by kernel_rfl) (by simp) ?_
            refine AllReadyH.cons (o := _) rfl (fun K hK => ?_) AllReadyH.nil
            go_simp
            (go_at_call 32; refine (HG9.out _ (And.left hHeld)).mono ?_; rintro e wm ⟨rfl, hbm⟩)
            try go_wp2_with fail
            refine hK.out _ _ ?_ (fun hHeld => ?_)
            · (try dsimp only); exact HKS.out _ (Below.next (And.left hHeld) hbm)
            clear hK K
            try simp only [Act.put, List.getElem_toArray, List.getElem_cons_succ, List.getElem_cons_zero, List.setIfInBounds_toArray, List.set_cons_zero, List.set_cons_succ]
            refine wpAnyH_take (i := 7) (oi := _) (v := ?v94) rfl (by kernel_rfl) (by kernel_rfl) (by kernel_rfl) (fun _ _ _ h => h) (Or.inl ⟨by kernel_rfl, ?hy94⟩) (by assumption) ?rest94
            case hy94 => (intro w' hSw; (try dsimp only at hSw); go_simp; try with_reducible rfl)
            try simp only [Act.put, List.getElem_toArray, List.getElem_cons_succ, List.getElem_cons_zero, List.setIfInBounds_toArray, List.set_cons_zero, List.set_cons_succ]
            refine wpAnyH_take (i := 8) (oi := _) (v := ?v95) rfl (by kernel_rfl) (by kernel_rfl) (by kernel_rfl) (fun _ _ _ h => h) (Or.inl ⟨by kernel_rfl, ?hy95⟩) (by assumption) ?rest95
            case hy95 => (intro w' hSw; (try dsimp only at hSw); go_simp; try with_reducible rfl)
            try simp only [Act.put, List.getElem_toArray, List.getElem_cons_succ, List.getElem_cons_zero, List.setIfInBounds_toArray, List.set_cons_zero, List.set_cons_succ]
            refine wpAnyH_take (i := 9) (oi := _) (v := ?v96) rfl (by kernel_rfl) (by kernel_rfl) (by kernel_rfl) (fun _ _ _ h => h) (Or.inl ⟨by kernel_rfl, ?hy96⟩) (by assumption) ?rest96
            case hy96 => (intro w' hSw; (try dsimp only at hSw); go_simp; try with_reducible rfl)
            try simp only [Act.put, List.getElem_toArray, List.getElem_cons_succ, List.getElem_cons_zero, List.setIfInBounds_toArray, List.set_cons_zero, List.set_cons_succ]
            refine wpAnyH_take (i := 11) (oi := _) (v := ?v97) rfl (by kernel_rfl) (by kernel_rfl) (by kernel_rfl) (fun _ _ _ h => h) (Or.inl ⟨by kernel_rfl, ?hy97⟩) (by assumption) ?rest97
            case hy97 => (intro w' hSw; (try dsimp only at hSw); go_simp; try with_reducible rfl)
            try simp only [Act.put, List.getElem_toArray, List.getElem_cons_succ, List.getElem_cons_zero, List.setIfInBounds_toArray, List.set_cons_zero, List.set_cons_succ]
            refine wpAnyH_ready (rs := [10]) (by kernel_rfl) (by simp) ?_
            refine AllReadyH.cons (o := _) rfl (fun K hK => ?_) AllReadyH.nil
            go_simp
            (go_at_call 21; refine (HIG.out _).mono ?_; rintro e wm ⟨rfl, hbm⟩)
            try go_wp2_with fail
            refine hK.out _ _ ?_ (fun hHeld => ?_)
            · (try dsimp only); exact HKS.out _ (Below.next (And.left hHeld) hbm)
            clear hK K
            try simp only [Act.put, List.getElem_toArray, List.getElem_cons_succ, List.getElem_cons_zero, List.setIfInBounds_toArray, List.set_cons_zero, List.set_cons_succ]
            refine wpAnyH_ready (rs := [12]) (by kernel_rfl) (by simp) ?_
            refine AllReadyH.cons (o := _) rfl (fun K hK => ?_) AllReadyH.nil
            go_simp
            (go_at_call 21; refine (HIH.out _).mono ?_; rintro e wm ⟨rfl, hbm⟩)
            try go_wp2_with fail
            refine hK.out _ _ ?_ (fun hHeld => ?_)
            · (try dsimp only); exact HKS.out _ (Below.next (And.left hHeld) hbm)
            clear hK K
            try simp only [Act.put, List.getElem_toArray, List.getElem_cons_succ, List.getElem_cons_zero, List.setIfInBounds_toArray, List.set_cons_zero, List.set_cons_succ]
            refine wpAnyH_take (i := 13) (oi := _) (v := .bool true) rfl (by kernel_rfl) (by kernel_rfl) (by kernel_rfl) (fun _ _ _ h => h) (Or.inl ⟨by kernel_rfl, ?hy98⟩) (by assumption) ?rest98
            case hy98 => (intro w' hSw; (try dsimp only at hSw); go_simp; (first | done | simp))
            try simp only [Act.put, List.getElem_toArray, List.getElem_cons_succ, List.getElem_cons_zero, List.setIfInBounds_toArray, List.set_cons_zero, List.set_cons_succ]
            refine wpAnyH_take (i := 14) (oi := _) (v := ?v99) rfl (by kernel_rfl) (by kernel_rfl) (by kernel_rfl) (fun _ _ _ h => h) (Or.inl ⟨by kernel_rfl, ?hy99⟩) (by assumption) ?rest99
            case hy99 => (intro w' hSw; (try dsimp only at hSw); go_simp; try with_reducible rfl)
            try simp only [Act.put, List.getElem_toArray, List.getElem_cons_succ, List.getElem_cons_zero, List.setIfInBounds_toArray, List.set_cons_zero, List.set_cons_succ]
            refine wpAnyH_take (i := 15) (oi := _) (v := ?v100) rfl (by kernel_rfl) (by kernel_rfl) (by kernel_rfl) (fun _ _ _ h => h) (Or.inl ⟨by kernel_rfl, ?hy100⟩) (by assumption) ?rest100
            case hy100 => (intro w' hSw; (try dsimp only at hSw); go_simp; try with_reducible rfl)
            try simp only [Act.put, List.getElem_toArray, List.getElem_cons_succ, List.getElem_cons_zero, List.setIfInBounds_toArray, List.set_cons_zero, List.set_cons_succ]
            refine wpAnyH_take (i := 16) (oi := _) (v := ?v101) rfl (by kernel_rfl) (by kernel_rfl) (by kernel_rfl) (fun _ _ _ h => h) (Or.inl ⟨by kernel_rfl, ?hy101⟩) (by assumption) ?rest101
            case hy101 => (intro w' hSw; (try dsimp only at hSw); go_simp; try with_reducible rfl)
            try simp only [Act.put, List.getElem_toArray, List.getElem_cons_succ, List.getElem_cons_zero, List.setIfInBounds_toArray, List.set_cons_zero, List.set_cons_succ]
            refine wpAnyH_take (i := 17) (oi := _) (v := ?v102) rfl (by kernel_rfl) (by kernel_rfl) (by kernel_rfl) (fun _ _ _ h => h) (Or.inl ⟨by kernel_rfl, ?hy102⟩) (by assumption) ?rest102
            case hy102 => (intro w' hSw; (try dsimp only at hSw); go_simp; try with_reducible rfl)
            try simp only [Act.put, List.getElem_toArray, List.getElem_cons_succ, List.getElem_cons_zero, List.setIfInBounds_toArray, List.set_cons_zero, List.set_cons_succ]
            refine wpAnyH_take (i := 18) (oi := _) (v := ?v103) rfl (by kernel_rfl) (by kernel_rfl) (by kernel_rfl) (fun _ _ _ h => h) (Or.inl ⟨by kernel_rfl, ?hy103⟩) (by assumption) ?rest103
            case hy103 => (intro w' hSw; (try dsimp only at hSw); go_simp; try with_reducible rfl)
            try simp only [Act.put, List.getElem_toArray, List.getElem_cons_succ, List.getElem_cons_zero, List.setIfInBounds_toArray, List.set_cons_zero, List.set_cons_succ]
            refine wpAnyH_take (i := 19) (oi := _) (v := .bool false) rfl (by kernel_rfl) (by kernel_rfl) (by kernel_rfl) (fun _ _ _ h => h) (Or.inl ⟨by kernel_rfl, ?hy104⟩) (by assumption) ?rest104
            case hy104 => (intro w' hSw; (try dsimp only at hSw); go_simp; (first | done | omega | (congr 1; simp; omega) | (congr 1; rw [decide_eq_true_eq]; omega) | (congr 1; rw [decide_eq_false_iff_not]; omega)))
            try simp only [Act.put, List.getElem_toArray, List.getElem_cons_succ, List.getElem_cons_zero, List.setIfInBounds_toArray, List.set_cons_zero, List.set_cons_succ]
            refine wpAnyH_take (i := 20) (oi := _) (v := ?v105) rfl (by kernel_rfl) (by kernel_rfl) (by kernel_rfl) (fun _ _ _ h => h) (Or.inl ⟨by kernel_rfl, ?hy105⟩) (by assumption) ?rest105
            case hy105 => (intro w' hSw; (try dsimp only at hSw); go_simp; try with_reducible rfl)
            try simp only [Act.put, List.getElem_toArray, List.getElem_cons_succ, List.getElem_cons_zero, List.setIfInBounds_toArray, List.set_cons_zero, List.set_cons_succ]
            refine wpAnyH_take (i := 21) (oi := _) (v := ?v106) rfl (by kernel_rfl) (by kernel_rfl) (by kernel_rfl) (fun _ _ _ h => h) (Or.inl ⟨by kernel_rfl, ?hy106⟩) (by assumption) ?rest106
            case hy106 => (intro w' hSw; (try dsimp only at hSw); go_simp; try with_reducible rfl)
            try simp only [Act.put, List.getElem_toArray, List.getElem_cons_succ, List.getElem_cons_zero, List.setIfInBounds_toArray, List.set_cons_zero, List.set_cons_succ]
            refine wpAnyH_take (i := 22) (oi := _) (v := ?v107) rfl (by kernel_rfl) (by kernel_rfl) (by kernel_rfl) (fun _ _ _ h => h) (Or.inl ⟨by kernel_rfl, ?hy107⟩) (by assumption) ?rest107
            case hy107 => (intro w' hSw; (try dsimp only at hSw); go_simp; try with_reducible rfl)
            try simp only [Act.put, List.getElem_toArray, List.getElem_cons_succ, List.getElem_cons_zero, List.setIfInBounds_toArray, List.set_cons_zero, List.set_cons_succ]
            refine wpAnyH_take (i := 23) (oi := _) (v := ?v108) rfl (by kernel_rfl) (by kernel_rfl) (by kernel_rfl) (fun _ _ _ h => h) (Or.inl ⟨by kernel_rfl, ?hy108⟩) (by assumption) ?rest108
            case hy108 => (intro w' hSw; (try dsimp only at hSw); go_simp; try with_reducible rfl)
            try simp only [Act.put, List.getElem_toArray, List.getElem_cons_succ, List.getElem_cons_zero, List.setIfInBounds_toArray, List.set_cons_zero, List.set_cons_succ]
            refine wpAnyH_ready (rs := [24]) (by kernel_rfl) (by simp) ?_
            refine AllReadyH.cons (o := _) rfl (fun K hK => ?_) AllReadyH.nil
            go_simp
            (go_at_call 32; refine (HD9.out _ (And.left hHeld)).mono ?_; rintro e wm ⟨rfl, hbm⟩)
            try go_wp2_with fail
            refine hK.out _ _ ?_ (fun hHeld => ?_)
            · (try dsimp only); exact HKS.out _ (Below.next (And.left hHeld) hbm)
            clear hK K
            try simp only [Act.put, List.getElem_toArray, List.getElem_cons_succ, List.getElem_cons_zero, List.setIfInBounds_toArray, List.set_cons_zero, List.set_cons_succ]
            refine wpAnyH_take (i := 25) (oi := _) (v := ?v109) rfl (by kernel_rfl) (by kernel_rfl) (by kernel_rfl) (fun _ _ _ h => h) (Or.inl ⟨by kernel_rfl, ?hy109⟩) (by assumption) ?rest109
            case hy109 => (intro w' hSw; (try dsimp only at hSw); go_simp; try with_reducible rfl)
            try simp only [Act.put, List.getElem_toArray, List.getElem_cons_succ, List.getElem_cons_zero, List.setIfInBounds_toArray, List.set_cons_zero, List.set_cons_succ]
            refine wpAnyH_take (i := 26) (oi := _) (v := ?v110) rfl (by kernel_rfl) (by kernel_rfl) (by kernel_rfl) (fun _ _ _ h => h) (Or.inl ⟨by kernel_rfl, ?hy110⟩) (by assumption) ?rest110
            case hy110 => (intro w' hSw; (try dsimp only at hSw); go_simp; try with_reducible rfl)
            try simp only [Act.put, List.getElem_toArray, List.getElem_cons_succ, List.getElem_cons_zero, List.setIfInBounds_toArray, List.set_cons_zero, List.set_cons_succ]
            refine wpAnyH_take (i := 27) (oi := _) (v := ?v111) rfl (by kernel_rfl) (by kernel_rfl) (by kernel_rfl) (fun _ _ _ h => h) (Or.inl ⟨by kernel_rfl, ?hy111⟩) (by assumption) ?rest111
            case hy111 => (intro w' hSw; (try dsimp only at hSw); go_simp; try with_reducible rfl)
            try simp only [Act.put, List.getElem_toArray, List.getElem_cons_succ, List.getElem_cons_zero, List.setIfInBounds_toArray, List.set_cons_zero, List.set_cons_succ]
            refine wpAnyH_take (i := 28) (oi := _) (v := ?v112) rfl (by kernel_rfl) (by kernel_rfl) (by kernel_rfl) (fun _ _ _ h => h) (Or.inl ⟨by kernel_rfl, ?hy112⟩) (by assumption) ?rest112
            case hy112 => (intro w' hSw; (try dsimp only at hSw); go_simp; try with_reducible rfl)
            try simp only [Act.put, List.getElem_toArray, List.getElem_cons_succ, List.getElem_cons_zero, List.setIfInBounds_toArray, List.set_cons_zero, List.set_cons_succ]
            refine wpAnyH_take (i := 29) (oi := _) (v := ?v113) rfl (by kernel_rfl) (by kernel_rfl) (by kernel_rfl) (fun _ _ _ h => h) (Or.inl ⟨by kernel_rfl, ?hy113⟩) (by assumption) ?rest113
            case hy113 => (intro w' hSw; (try dsimp only at hSw); go_simp; try with_reducible rfl)
            try simp only [Act.put, List.getElem_toArray, List.getElem_cons_succ, List.getElem_cons_zero, List.setIfInBounds_toArray, List.set_cons_zero, List.set_cons_succ]
            refine wpAnyH_take (i := 30) (oi := _) (v := .bool true) rfl (by kernel_rfl) (by kernel_rfl) (by kernel_rfl) (fun _ _ _ h => h) (Or.inl ⟨by kernel_rfl, ?hy114⟩) (by assumption) ?rest114
            case hy114 => (intro w' hSw; (try dsimp only at hSw); go_simp; (first | done | omega | (congr 1; simp; omega) | (congr 1; rw [decide_eq_true_eq]; omega) | (congr 1; rw [decide_eq_false_iff_not]; omega)))
            try simp only [Act.put, List.getElem_toArray, List.getElem_cons_succ, List.getElem_cons_zero, List.setIfInBounds_toArray, List.set_cons_zero, List.set_cons_succ]
            refine wpAnyH_take (i := 31) (oi := _) (v := ?v115) rfl (by kernel_rfl) (by kernel_rfl) (by kernel_rfl) (fun _ _ _ h => h) (Or.inl ⟨by kernel_rfl, ?hy115⟩) (by assumption) ?rest115
            case hy115 => (intro w' hSw; (try dsimp only at hSw); go_simp; try with_reducible rfl)
            try simp only [Act.put, List.getElem_toArray, List.getElem_cons_succ, List.getElem_cons_zero, List.setIfInBounds_toArray, List.set_cons_zero, List.set_cons_succ]
            refine wpAnyH_take (i := 32) (oi := _) (v := ?v116) rfl (by kernel_rfl) (by kernel_rfl) (by kernel_rfl) (fun _ _ _ h => h) (Or.inl ⟨by kernel_rfl, ?hy116⟩) (by assumption) ?rest116
            case hy116 => (intro w' hSw; (try dsimp only at hSw); go_simp; try with_reducible rfl)
            try simp only [Act.put, List.getElem_toArray, List.getElem_cons_succ, List.getElem_cons_zero, List.setIfInBounds_toArray, List.set_cons_zero, List.set_cons_succ]
            refine wpAnyH_take (i := 33) (oi := _) (v := ?v117) rfl (by kernel_rfl) (by kernel_rfl) (by kernel_rfl) (fun _ _ _ h => h) (Or.inl ⟨by kernel_rfl, ?hy117⟩) (by assumption) ?rest117
            case hy117 => (intro w' hSw; (try dsimp only at hSw); go_simp; try with_reducible rfl)
            try simp only [Act.put, List.getElem_toArray, List.getElem_cons_succ, List.getElem_cons_zero, List.setIfInBounds_toArray, List.set_cons_zero, List.set_cons_succ]
            refine wpAnyH_done (by kernel_rfl) ?_ _
            have hqe := And.left hHeld
            clear hHeld
            go_wp2_with fail
            go_ret
            exact ⟨rfl, Below.next hbF hqe⟩
  · have hbig : decide (1048576 < l.length) = true := by simp; omega
    go_enter Tryd.func5, Tryd.ntmps5
    go_wp2_with fail
    refine (big_any _ _ _ _ hl).mono ?_
    rintro e w' ⟨rfl, hw⟩
    have hw := hw.symm
    subst hw
    rw [hbig]
    go_wp2
    go_ret
    exact ⟨rfl, hb⟩
end Go.Proofs.YtecimgkgdpnaeaaDoor.fnCommit
