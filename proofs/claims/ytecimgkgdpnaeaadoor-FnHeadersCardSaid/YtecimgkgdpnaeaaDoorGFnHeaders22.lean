/-
  Texts of this proof, laid into one: WHeaders.
-/
import Derived.Test.YtecimgkgdpnaeaaDoorGFnHeaders21
import Derived.Test.YtecimgkgdpnaeaaDoorGFnHeaders20
import Derived.Test.YtecimgkgdpnaeaaDoorGFnHeaders11
import Derived.Test.YtecimgkgdpnaeaaDoorGFnHeaders12
import Derived.Test.YtecimgkgdpnaeaaDoorGFnHeaders14
import Derived.Test.YtecimgkgdpnaeaaDoorGFnHeaders13
import Derived.Test.YtecimgkgdpnaeaaDoorGFnHeaders19
import Derived.Test.YtecimgkgdpnaeaaDoorGFnHeaders1
/-
  The law FnHeaders: the walk.
-/
namespace Go.Proofs.YtecimgkgdpnaeaaDoor.fnHeaders
open Go.ChangeShapes Go.WideShapes Go.ChangeAt Go.RowKit
set_option linter.unusedVariables false
set_option maxRecDepth 100000

set_option linter.unusedSimpArgs false
theorem iShowHeader_flat (h t : Int) (la va ne da : List UInt8) (W : World) (h1 : la.length ≤ 9223372036854775807) (h2 : va.length ≤ 9223372036854775807) (h3 : ne.length ≤ 9223372036854775807) (h4 : da.length ≤ 9223372036854775807) :
    Calls Tryd.prog 10 #[.agg #[.int .i64 h, .int .i64 t, .string (S la), .string (S va), .string (S ne), .string (S da)]] W fun e w' => e = .returned (.string (S (showHeadS ⟨h, t, la, va, ne, da⟩))) ∧ Below W.heap.size W w' := iShowHeader_any ⟨h, t, la, va, ne, da⟩ W h1 h2 h3 h4
theorem sHeaderOk_flat (h t : Int) (la va ne da : List UInt8) (W : World) (h1 : la.length ≤ 9223372036854775807) (h2 : va.length ≤ 9223372036854775807) (h3 : ne.length ≤ 9223372036854775807) (h4 : da.length ≤ 9223372036854775807) :
    Calls Tryd.prog 18 #[.agg #[.int .i64 h, .int .i64 t, .string (S la), .string (S va), .string (S ne), .string (S da)]] W fun e w' => e = .returned (.bool (headOkB ⟨h, t, la, va, ne, da⟩)) ∧ Below W.heap.size W w' := sHeaderOk_any ⟨h, t, la, va, ne, da⟩ W h1 h2 h3 h4
theorem iHeadId_flat (h t : Int) (la va ne da : List UInt8) (W : World) (h1 : la.length ≤ 9223372036854775807) (h2 : va.length ≤ 9223372036854775807) (h3 : ne.length ≤ 9223372036854775807) (h4 : da.length ≤ 9223372036854775807) (k : HasK W) :
    Calls Tryd.prog 20 #[.agg #[.int .i64 h, .int .i64 t, .string (S la), .string (S va), .string (S ne), .string (S da)]] W fun e w' => e = .returned (.string (S (headIdS ⟨h, t, la, va, ne, da⟩))) ∧ Below W.heap.size W w' := iHeadId_any ⟨h, t, la, va, ne, da⟩ W h1 h2 h3 h4 k
theorem sHeadId_flat (h t : Int) (la va ne da : List UInt8) (W : World) (h1 : la.length ≤ 9223372036854775807) (h2 : va.length ≤ 9223372036854775807) (h3 : ne.length ≤ 9223372036854775807) (h4 : da.length ≤ 9223372036854775807) :
    Calls Tryd.prog 21 #[.agg #[.int .i64 h, .int .i64 t, .string (S la), .string (S va), .string (S ne), .string (S da)]] W fun e w' => e = .returned (.string (S (headIdS ⟨h, t, la, va, ne, da⟩))) ∧ Below W.heap.size W w' := sHeadId_any ⟨h, t, la, va, ne, da⟩ W h1 h2 h3 h4
theorem iShowCommit_flat (h r : Int) (id : List UInt8) (l : List SigT) (A : Option Addr) (c : Nat) (w : World) (hid : id.length ≤ 9223372036854775807) (hn : l.length ≤ 9223372036854775807) (hR : SReads w w.heap.size A l) (hm : ∀ s ∈ l, s.sig.length ≤ 9223372036854775807) :
    Calls Tryd.prog 14 #[.agg #[.int .i64 h, .int .i64 r, .string (S id), .slice A l.length c]] w fun e w' => e = .returned (.string (S (showCommitS ⟨h, r, id, l⟩))) ∧ Below w.heap.size w w' := iShowCommit_any ⟨h, r, id, l⟩ A c w hid hn hR hm
theorem readHead_ok {l : List UInt8} (h : (readHeadS l).2 = true) : headOkB (readHeadS l).1 = true := by
  cases hk : headOkB (readHeadS l).1
  · have h1 := readHead_law h
    rw [showHead_no hk] at h1
    rw [← h1, readHead_nil] at h
    cases h
  · rfl
set_option maxHeartbeats 4000000 in
theorem walk (A : Option Addr) (c : Nat) (l : List UInt8) (w : World) (hl : l.length ≤ 9223372036854775807) (hR : BReads w w.heap.size A l) (hK : HasK w) :
    Calls Tryd.prog 3 #[.slice A l.length c] w fun e w' => e = .returned (.bool true) ∧ Below w.heap.size w w' := by
  have hb := Below.refl w.heap.size w
  by_cases h : l.length ≤ 1048576
  · have hbig : decide (1048576 < l.length) = false := by simp; omega
    have HD1 := Lib.hid fun (W : World) (q : Below w.heap.size w W) => drawShowHeader_in ⟨A, c, l⟩ W h ((hR.below q (Nat.le_refl _)).more q.size)
    have HD2 := Lib.hid fun (W : World) (q : Below w.heap.size w W) => drawReadHeader_in ⟨A, c, l⟩ W h ((hR.below q (Nat.le_refl _)).more q.size)
    have HD3 := Lib.hid fun (W : World) (q : Below w.heap.size w W) => drawShowCommit_in ⟨A, c, l⟩ W h ((hR.below q (Nat.le_refl _)).more q.size)
    have HD4 := Lib.hid fun (W : World) (q : Below w.heap.size w W) => drawReadCommit_in ⟨A, c, l⟩ W h ((hR.below q (Nat.le_refl _)).more q.size)
    have HK := Lib.hid hK
    clear hK hR
    go_enter Tryd.func3, Tryd.ntmps3
    go_wp2_with fail
    refine (big_any _ _ _ _ hl).mono ?_
    rintro e w' ⟨rfl, hw⟩
    have hw := hw.symm
    subst hw
    rw [hbig]
    go_wp2_with fail
    refine (HD1.out _ hb).mono ?_
    rintro e w1 ⟨h1, t1, la1, va1, ne1, da1, rfl, ⟨hh1, hh2, ht1, ht2, hla, hva, hne, hda⟩, b⟩
    have hb1 := Below.next hb b
    clear b hb
    have hH := H6.new w1 25 (.int .i64 h1) (.int .i64 t1) (.string (S la1)) (.string (S va1)) (.string (S ne1)) (.string (S da1))
    have hb := hb1.alloc hb1.size (.cells #[.int .i64 h1, .int .i64 t1, .string (S la1), .string (S va1), .string (S ne1), .string (S da1)] 25)
    obtain ⟨⟨⟨h2, t2, la2, va2, ne2, da2⟩, ok2⟩, hrd, hok, hy2⟩ : ∃ p : HeadT × Bool, readHeadS (showHeadS ⟨h1, t1, la1, va1, ne1, da1⟩) = p ∧ headOkB ⟨h1, t1, la1, va1, ne1, da1⟩ = p.2 ∧ (p.2 = true → p.1 = ⟨h1, t1, la1, va1, ne1, da1⟩) := ⟨_, rfl, (readHead_is _).symm, fun hq => by rw [readHead_is] at hq; rw [readHead_show hq]⟩
    have hsl := showHeadS_len ⟨h1, t1, la1, va1, ne1, da1⟩
    have HSH := Lib.hid fun (W : World) => iShowHeader_flat h1 t1 la1 va1 ne1 da1 W (by omega) (by omega) (by omega) (by omega)
    have HRH := Lib.hid fun (W : World) => iReadHeader_any (showHeadS ⟨h1, t1, la1, va1, ne1, da1⟩) W (by omega)
    rw [hrd] at HRH
    simp only [Hid, HeadT.val] at HRH
    replace HRH := Lib.hid HRH
    have HOK := Lib.hid fun (W : World) => sHeaderOk_flat h1 t1 la1 va1 ne1 da1 W (by omega) (by omega) (by omega) (by omega)
    rw [hok] at HOK
    have HY2 := Lib.hid hy2
    clear hrd hok hy2
    generalize showHeadS ⟨h1, t1, la1, va1, ne1, da1⟩ = s1 at *
    go_wp2_with fail
    generalize hB3 : w1.heap.size = b3 at *
    generalize w1.alloc (.cells #[.int .i64 h1, .int .i64 t1, .string (S la1), .string (S va1), .string (S ne1), .string (S da1)] 25) = W1 at *
    obtain ⟨hHl, g0, g1, g2, g3, g4, g5, gf⟩ := _root_.id hH
    go_wp2_with fail
    refine (HSH.out _).mono ?_
    rintro e w2 ⟨rfl, b⟩
    have hH := hH.next b
    have hb := Below.next hb b
    clear b HSH hHl g0 g1 g2 g3 g4 g5 gf
    go_wp2_with fail
    refine (HRH.out _).mono ?_
    rintro e w3 ⟨rfl, b⟩
    have hH := hH.next b
    have hb := Below.next hb b
    clear b HRH
    have hX := H6.new w3 25 (.int .i64 h2) (.int .i64 t2) (.string (S la2)) (.string (S va2)) (.string (S ne2)) (.string (S da2))
    have hH := hH.alloc (.cells #[.int .i64 h2, .int .i64 t2, .string (S la2), .string (S va2), .string (S ne2), .string (S da2)] 25)
    have hb := hb.alloc hb.size (.cells #[.int .i64 h2, .int .i64 t2, .string (S la2), .string (S va2), .string (S ne2), .string (S da2)] 25)
    go_wp2_with fail
    generalize hB4 : w3.heap.size = b4 at *
    generalize w3.alloc (.cells #[.int .i64 h2, .int .i64 t2, .string (S la2), .string (S va2), .string (S ne2), .string (S da2)] 25) = W3 at *
    refine (HD2.out _ hb).mono ?_
    rintro e w4 ⟨s, rfl, hs, b⟩
    have hH := hH.next b
    have hX := hX.next b
    have hb := Below.next hb b
    clear b
    obtain ⟨⟨⟨h3, t3, la3, va3, ne3, da3⟩, fine⟩, hrd⟩ : ∃ p : HeadT × Bool, readHeadS s = p := ⟨_, rfl⟩
    have hfl : fine = true → showHeadS ⟨h3, t3, la3, va3, ne3, da3⟩ = s := fun hq => by have := readHead_law (l := s) (by rw [hrd]; exact hq); rw [hrd] at this; exact this
    have hfo : fine = true → headOkB ⟨h3, t3, la3, va3, ne3, da3⟩ = true := fun hq => by have := readHead_ok (l := s) (by rw [hrd]; exact hq); rw [hrd] at this; exact this
    have HFL := Lib.hid hfl
    have HFO := Lib.hid hfo
    have HRI := Lib.hid fun (W : World) => iReadHeader_any s W (by omega)
    have HRS := Lib.hid fun (W : World) => sReadHeader_any s W (by omega)
    rw [hrd] at HRI HRS
    simp only [Hid, HeadT.val] at HRI HRS
    replace HRI := Lib.hid HRI
    replace HRS := Lib.hid HRS
    clear hrd hfl hfo
    go_wp2_with fail
    refine (HRI.out _).mono ?_
    rintro e w5 ⟨rfl, b⟩
    have hH := hH.next b
    have hX := hX.next b
    have hb := Below.next hb b
    clear b
    have hY := H6.new w5 25 (.int .i64 h3) (.int .i64 t3) (.string (S la3)) (.string (S va3)) (.string (S ne3)) (.string (S da3))
    have hH := hH.alloc (.cells #[.int .i64 h3, .int .i64 t3, .string (S la3), .string (S va3), .string (S ne3), .string (S da3)] 25)
    have hX := hX.alloc (.cells #[.int .i64 h3, .int .i64 t3, .string (S la3), .string (S va3), .string (S ne3), .string (S da3)] 25)
    have hb := hb.alloc hb.size (.cells #[.int .i64 h3, .int .i64 t3, .string (S la3), .string (S va3), .string (S ne3), .string (S da3)] 25)
    go_wp2_with fail
    generalize hB5 : w5.heap.size = b5 at *
    generalize w5.alloc (.cells #[.int .i64 h3, .int .i64 t3, .string (S la3), .string (S va3), .string (S ne3), .string (S da3)] 25) = W5 at *
    clear HRI
    refine (HRS.out _).mono ?_
    rintro e w6 ⟨rfl, b⟩
    have hH := hH.next b
    have hX := hX.next b
    have hY := hY.next b
    have hb := Below.next hb b
    clear b
    have hH := hH.alloc (.cells #[.int .i64 h3, .int .i64 t3, .string (S la3), .string (S va3), .string (S ne3), .string (S da3)] 25)
    have hX := hX.alloc (.cells #[.int .i64 h3, .int .i64 t3, .string (S la3), .string (S va3), .string (S ne3), .string (S da3)] 25)
    have hY := hY.alloc (.cells #[.int .i64 h3, .int .i64 t3, .string (S la3), .string (S va3), .string (S ne3), .string (S da3)] 25)
    have hb := hb.alloc hb.size (.cells #[.int .i64 h3, .int .i64 t3, .string (S la3), .string (S va3), .string (S ne3), .string (S da3)] 25)
    go_wp2_with fail
    generalize hB6 : w6.heap.size = b6 at *
    generalize w6.alloc (.cells #[.int .i64 h3, .int .i64 t3, .string (S la3), .string (S va3), .string (S ne3), .string (S da3)] 25) = W6 at *
    clear HRS
    refine (HD3.out _ hb).mono ?_
    rintro e w7 ⟨ch4, cr4, id4, l4, A4, c4, rfl, ⟨hc1, hc2, hr1, hr2, hid4, hl4, hA4⟩, hsg4, hsr4, b⟩
    have hH := hH.next b
    have hX := hX.next b
    have hY := hY.next b
    have hb := Below.next hb b
    clear b
    have hC := H4.new w7 33 (.int .i64 ch4) (.int .i64 cr4) (.string (S id4)) (.slice A4 l4.length c4)
    have hS4 := hsr4.out.to ((Below.refl _ w7).alloc (Nat.le_refl _) (.cells #[.int .i64 ch4, .int .i64 cr4, .string (S id4), .slice A4 l4.length c4] 33))
    have hH := hH.alloc (.cells #[.int .i64 ch4, .int .i64 cr4, .string (S id4), .slice A4 l4.length c4] 33)
    have hX := hX.alloc (.cells #[.int .i64 ch4, .int .i64 cr4, .string (S id4), .slice A4 l4.length c4] 33)
    have hY := hY.alloc (.cells #[.int .i64 ch4, .int .i64 cr4, .string (S id4), .slice A4 l4.length c4] 33)
    have hb := hb.alloc hb.size (.cells #[.int .i64 ch4, .int .i64 cr4, .string (S id4), .slice A4 l4.length c4] 33)
    clear hsr4 hA4 hc1 hc2 hr1 hr2 HD1 HD2 HD3
    go_wp2_with fail
    generalize hB7 : w7.heap.size = b7 at *
    generalize hW7 : w7.alloc (.cells #[.int .i64 ch4, .int .i64 cr4, .string (S id4), .slice A4 l4.length c4] 33) = W7 at *
    clear hW7
    have HSR4 := Lib.hid fun (W : World) (q : Below W7.heap.size W7 W) => hS4.to q
    have hq7 := Below.refl W7.heap.size W7
    have HSC := Lib.hid fun (W : World) (q : Below W7.heap.size W7 W) => iShowCommit_flat ch4 cr4 id4 l4 A4 c4 W (by omega) (by omega) (HSR4.out W q) (fun s hs => by have := hsg4.out s hs; omega)
    have HSS := Lib.hid fun (W : World) (q : Below W7.heap.size W7 W) => sShowCommit_flat ch4 cr4 id4 l4 A4 c4 W (by omega) (by omega) (HSR4.out W q) (fun s hs => by have := hsg4.out s hs; omega)
    have htl := showCommitS_len ⟨ch4, cr4, id4, l4⟩
    have hrc := readCom_is ⟨ch4, cr4, id4, l4⟩
    generalize showCommitS ⟨ch4, cr4, id4, l4⟩ = tt at *
    clear hS4
    obtain ⟨⟨⟨ch5, cr5, id5, l5⟩, rd⟩, hrd⟩ : ∃ p : CommitT × Bool, readComS tt = p := ⟨_, rfl⟩
    have hln := readCom_len tt
    have hlw : rd = true → showCommitS ⟨ch5, cr5, id5, l5⟩ = tt := fun hq => by have := readCom_law (l := tt) (by rw [hrd]; exact hq); rw [hrd] at this; exact this
    have HLW := Lib.hid hlw
    have HRC := Lib.hid fun (W : World) => iReadCommit_any tt W (by omega)
    rw [hrd] at HRC hrc hln
    simp only [Hid] at HRC
    replace HRC := Lib.hid HRC
    clear hrd hlw
    obtain ⟨hln1, hln2, hln3⟩ := hln
    have HLN3 := Lib.hid hln3
    clear hln3
    simp only at hrc hln1 hln2 HLN3
    have hrc2 : tt.isEmpty = !rd := by rw [hrc]; cases tt <;> rfl
    have HRC3 := Lib.hid hrc
    clear hrc
    obtain ⟨hCl, g0, g1, g2, g3, gf⟩ := _root_.id hC
    go_wp2_with fail
    refine (HSC.out _ hq7).mono ?_
    rintro e w8 ⟨rfl, b⟩
    have hq7 := Below.next hq7 b
    have hH := hH.next b
    have hX := hX.next b
    have hY := hY.next b
    have hC := hC.next b
    have hb := Below.next hb b
    clear b
    clear HSC hCl g0 g1 g2 g3 gf
    go_wp2_with fail
    refine (HRC.out _).mono ?_
    rintro e w9 ⟨A5, c5, rfl, ho5, b⟩
    have hq7 := Below.next hq7 b
    have hH := hH.next b
    have hX := hX.next b
    have hY := hY.next b
    have hC := hC.next b
    have hb := Below.next hb b
    clear b
    have hZ := H4.new w9 33 (.int .i64 ch5) (.int .i64 cr5) (.string (S id5)) (.slice A5 l5.length c5)
    have ho5 := ho5.alloc (.cells #[.int .i64 ch5, .int .i64 cr5, .string (S id5), .slice A5 l5.length c5] 33)
    have hq7 := hq7.alloc hq7.size (.cells #[.int .i64 ch5, .int .i64 cr5, .string (S id5), .slice A5 l5.length c5] 33)
    have hH := hH.alloc (.cells #[.int .i64 ch5, .int .i64 cr5, .string (S id5), .slice A5 l5.length c5] 33)
    have hX := hX.alloc (.cells #[.int .i64 ch5, .int .i64 cr5, .string (S id5), .slice A5 l5.length c5] 33)
    have hY := hY.alloc (.cells #[.int .i64 ch5, .int .i64 cr5, .string (S id5), .slice A5 l5.length c5] 33)
    have hC := hC.alloc (.cells #[.int .i64 ch5, .int .i64 cr5, .string (S id5), .slice A5 l5.length c5] 33)
    have hb := hb.alloc hb.size (.cells #[.int .i64 ch5, .int .i64 cr5, .string (S id5), .slice A5 l5.length c5] 33)
    go_wp2_with fail
    generalize hB9 : w9.heap.size = b9 at *
    generalize w9.alloc (.cells #[.int .i64 ch5, .int .i64 cr5, .string (S id5), .slice A5 l5.length c5] 33) = W9 at *
    clear HRC
    refine (HD4.out _ hb).mono ?_
    rintro e w10 ⟨u, rfl, hu, b⟩
    have hq7 := Below.next hq7 b
    have ho5 := own_below ho5 b
    have hH := hH.next b
    have hX := hX.next b
    have hY := hY.next b
    have hC := hC.next b
    have hZ := hZ.next b
    have hb := Below.next hb b
    clear b
    obtain ⟨⟨⟨ch6, cr6, id6, l6⟩, wh⟩, hrd⟩ : ∃ p : CommitT × Bool, readComS u = p := ⟨_, rfl⟩
    have hlu := readCom_len u
    have hlw : wh = true → showCommitS ⟨ch6, cr6, id6, l6⟩ = u := fun hq => by have := readCom_law (l := u) (by rw [hrd]; exact hq); rw [hrd] at this; exact this
    have HLU := Lib.hid hlw
    have HRI := Lib.hid fun (W : World) => iReadCommit_any u W (by omega)
    have HRS := Lib.hid fun (W : World) => sReadCommit_any u W (by omega)
    rw [hrd] at HRI HRS hlu
    simp only [Hid] at HRI HRS
    replace HRI := Lib.hid HRI
    replace HRS := Lib.hid HRS
    clear hrd hlw
    obtain ⟨hlu1, hlu2, hlu3⟩ := hlu
    have HLU3 := Lib.hid hlu3
    clear hlu3
    simp only at hlu1 hlu2 HLU3
    go_wp2_with fail
    refine (HRI.out _).mono ?_
    rintro e w11 ⟨A6, c6, rfl, ho6, b⟩
    have hq7 := Below.next hq7 b
    have ho5 := own_below ho5 b
    have hH := hH.next b
    have hX := hX.next b
    have hY := hY.next b
    have hC := hC.next b
    have hZ := hZ.next b
    have hb := Below.next hb b
    clear b
    have hU := H4.new w11 33 (.int .i64 ch6) (.int .i64 cr6) (.string (S id6)) (.slice A6 l6.length c6)
    have ho6 := ho6.alloc (.cells #[.int .i64 ch6, .int .i64 cr6, .string (S id6), .slice A6 l6.length c6] 33)
    have ho5 := ho5.alloc (.cells #[.int .i64 ch6, .int .i64 cr6, .string (S id6), .slice A6 l6.length c6] 33)
    have hq7 := hq7.alloc hq7.size (.cells #[.int .i64 ch6, .int .i64 cr6, .string (S id6), .slice A6 l6.length c6] 33)
    have hH := hH.alloc (.cells #[.int .i64 ch6, .int .i64 cr6, .string (S id6), .slice A6 l6.length c6] 33)
    have hX := hX.alloc (.cells #[.int .i64 ch6, .int .i64 cr6, .string (S id6), .slice A6 l6.length c6] 33)
    have hY := hY.alloc (.cells #[.int .i64 ch6, .int .i64 cr6, .string (S id6), .slice A6 l6.length c6] 33)
    have hC := hC.alloc (.cells #[.int .i64 ch6, .int .i64 cr6, .string (S id6), .slice A6 l6.length c6] 33)
    have hZ := hZ.alloc (.cells #[.int .i64 ch6, .int .i64 cr6, .string (S id6), .slice A6 l6.length c6] 33)
    have hb := hb.alloc hb.size (.cells #[.int .i64 ch6, .int .i64 cr6, .string (S id6), .slice A6 l6.length c6] 33)
    go_wp2_with fail
    generalize hB11 : w11.heap.size = b11 at *
    generalize w11.alloc (.cells #[.int .i64 ch6, .int .i64 cr6, .string (S id6), .slice A6 l6.length c6] 33) = W11 at *
    clear HRI
    refine (HRS.out _).mono ?_
    rintro e w12 ⟨A7, c7, rfl, ho7, b⟩
    clear ho7
    have hq7 := Below.next hq7 b
    have ho5 := own_below ho5 b
    have ho6 := own_below ho6 b
    have hH := hH.next b
    have hX := hX.next b
    have hY := hY.next b
    have hC := hC.next b
    have hZ := hZ.next b
    have hU := hU.next b
    have hb := Below.next hb b
    clear b
    have ho5 := ho5.alloc (.cells #[.int .i64 ch6, .int .i64 cr6, .string (S id6), .slice A7 l6.length c7] 33)
    have ho6 := ho6.alloc (.cells #[.int .i64 ch6, .int .i64 cr6, .string (S id6), .slice A7 l6.length c7] 33)
    have hq7 := hq7.alloc hq7.size (.cells #[.int .i64 ch6, .int .i64 cr6, .string (S id6), .slice A7 l6.length c7] 33)
    have hH := hH.alloc (.cells #[.int .i64 ch6, .int .i64 cr6, .string (S id6), .slice A7 l6.length c7] 33)
    have hX := hX.alloc (.cells #[.int .i64 ch6, .int .i64 cr6, .string (S id6), .slice A7 l6.length c7] 33)
    have hY := hY.alloc (.cells #[.int .i64 ch6, .int .i64 cr6, .string (S id6), .slice A7 l6.length c7] 33)
    have hC := hC.alloc (.cells #[.int .i64 ch6, .int .i64 cr6, .string (S id6), .slice A7 l6.length c7] 33)
    have hZ := hZ.alloc (.cells #[.int .i64 ch6, .int .i64 cr6, .string (S id6), .slice A7 l6.length c7] 33)
    have hU := hU.alloc (.cells #[.int .i64 ch6, .int .i64 cr6, .string (S id6), .slice A7 l6.length c7] 33)
    have hb := hb.alloc hb.size (.cells #[.int .i64 ch6, .int .i64 cr6, .string (S id6), .slice A7 l6.length c7] 33)
    clear HRS HD4
    go_upto_region 14 with fail
    generalize hB12 : w12.heap.size = b12 at *
    generalize w12.alloc (.cells #[.int .i64 ch6, .int .i64 cr6, .string (S id6), .slice A7 l6.length c7] 33) = W12 at *
    have HS5 := Lib.hid (SReads.of_own ho5)
    have HS6 := Lib.hid (SReads.of_own ho6)
    clear ho5 ho6
    have hqz := Below.refl W12.heap.size W12
    go_cut [5, 8, 10, 14, 105] from 20 to 104 (fun u5 u8 u10 u14 r wx => u14 = .bool rd ∧ r = .bool false ∧ Below w.heap.size w wx ∧ Below W12.heap.size W12 wx)
    case first =>
      obtain ⟨hHl, g0, g1, g2, g3, g4, g5, gf⟩ := _root_.id hH
      obtain ⟨hYl, k0, k1, k2, k3, k4, k5, kf⟩ := _root_.id hY
      obtain ⟨hCl, m0, m1, m2, m3, mf⟩ := _root_.id hC
      go_wp2_with fail
      refine (HOK.out _).mono ?_
      rintro e wa ⟨rfl, b⟩
      have hHa := hH.next b
      have hXa := hX.next b
      have hYa := hY.next b
      have hCa := hC.next b
      have hqa := Below.next hqz b
      clear b hHl g0 g1 g2 g3 g4 g5 gf hYl k0 k1 k2 k3 k4 k5 kf hCl m0 m1 m2 m3 mf
      obtain ⟨hHl, g0, g1, g2, g3, g4, g5, gf⟩ := _root_.id hHa
      obtain ⟨hYl, k0, k1, k2, k3, k4, k5, kf⟩ := _root_.id hYa
      obtain ⟨hCl, m0, m1, m2, m3, mf⟩ := _root_.id hCa
      cases ok2
      · obtain ⟨hXl, j0, j1, j2, j3, j4, j5, jf⟩ := _root_.id hXa
        cases fine
        · have hqb := hqa
          go_wp2_with fail
          refine (HSS.out _ (Below.next hq7 hqb)).mono ?_
          rintro e wc ⟨rfl, b⟩
          have hqc := Below.next hqb b
          clear b
          go_wp2_with fail
          go_meet
          case rel => exact ⟨by first | rfl | (rw [HRC3.out]; rfl) | (rw [HRC3.out]; simp), rfl, Below.next hb hqc, hqc⟩
        · have hs3 := HFL.out rfl
          obtain ⟨y1, y2, y3, y4⟩ := headOk_len (HFO.out rfl)
          simp only at y1 y2 y3 y4
          have HSY := Lib.hid fun (W : World) => iShowHeader_flat h3 t3 la3 va3 ne3 da3 W (by omega) (by omega) (by omega) (by omega)
          rw [hs3] at HSY
          go_wp2_with fail
          refine (HSY.out _).mono ?_
          rintro e wb ⟨rfl, b⟩
          have hCb := hCa.next b
          have hqb := Below.next hqa b
          clear b hHl g0 g1 g2 g3 g4 g5 gf hYl k0 k1 k2 k3 k4 k5 kf hCl m0 m1 m2 m3 mf
          obtain ⟨hCl, m0, m1, m2, m3, mf⟩ := _root_.id hCb
          go_wp2_with fail
          refine (HSS.out _ (Below.next hq7 hqb)).mono ?_
          rintro e wc ⟨rfl, b⟩
          have hqc := Below.next hqb b
          clear b
          go_wp2_with fail
          go_meet
          case rel => exact ⟨by first | rfl | (rw [HRC3.out]; rfl) | (rw [HRC3.out]; simp), rfl, Below.next hb hqc, hqc⟩
      · obtain ⟨rfl, rfl, rfl, rfl, rfl, rfl⟩ : h2 = h1 ∧ t2 = t1 ∧ la2 = la1 ∧ va2 = va1 ∧ ne2 = ne1 ∧ da2 = da1 := by simpa using HY2.out rfl
        obtain ⟨hXl, j0, j1, j2, j3, j4, j5, jf⟩ := _root_.id hXa
        cases fine
        · have hqb := hqa
          go_wp2_with fail
          refine (HSS.out _ (Below.next hq7 hqb)).mono ?_
          rintro e wc ⟨rfl, b⟩
          have hqc := Below.next hqb b
          clear b
          go_wp2_with fail
          go_meet
          case rel => exact ⟨by first | rfl | (rw [HRC3.out]; rfl) | (rw [HRC3.out]; simp), rfl, Below.next hb hqc, hqc⟩
        · have hs3 := HFL.out rfl
          obtain ⟨y1, y2, y3, y4⟩ := headOk_len (HFO.out rfl)
          simp only at y1 y2 y3 y4
          have HSY := Lib.hid fun (W : World) => iShowHeader_flat h3 t3 la3 va3 ne3 da3 W (by omega) (by omega) (by omega) (by omega)
          rw [hs3] at HSY
          go_wp2_with fail
          refine (HSY.out _).mono ?_
          rintro e wb ⟨rfl, b⟩
          have hCb := hCa.next b
          have hqb := Below.next hqa b
          clear b hHl g0 g1 g2 g3 g4 g5 gf hYl k0 k1 k2 k3 k4 k5 kf hCl m0 m1 m2 m3 mf
          obtain ⟨hCl, m0, m1, m2, m3, mf⟩ := _root_.id hCb
          go_wp2_with fail
          refine (HSS.out _ (Below.next hq7 hqb)).mono ?_
          rintro e wc ⟨rfl, b⟩
          have hqc := Below.next hqb b
          clear b
          go_wp2_with fail
          go_meet
          case rel => exact ⟨by first | rfl | (rw [HRC3.out]; rfl) | (rw [HRC3.out]; simp), rfl, Below.next hb hqc, hqc⟩
    case rest =>
      obtain ⟨rfl, rfl, hb13, hq13⟩ := hcut
      rename World => W13
      have HKS := Lib.hid fun (W : World) (q : Below W12.heap.size W12 W) => (⟨q, (hZ.low q hZ.1).2.1, (hZ.low q hZ.1).2.2.1, (hZ.low q hZ.1).2.2.2.1, (hZ.low q hZ.1).2.2.2.2.1, (hU.low q hU.1).2.1, (hU.low q hU.1).2.2.1, (hU.low q hU.1).2.2.2.1, (hU.low q hU.1).2.2.2.2.1, (hH.lowX q hH.1).2.1, (hH.lowX q hH.1).2.2.1, (hH.lowX q hH.1).2.2.2.1, (hH.lowX q hH.1).2.2.2.2.1, (hH.lowX q hH.1).2.2.2.2.2.1, (hH.lowX q hH.1).2.2.2.2.2.2.1⟩ : Below W12.heap.size W12 W ∧ W.cell? ⟨b9, 0, none⟩ = some (.int .i64 ch5) ∧ W.cell? ⟨b9, 1, none⟩ = some (.int .i64 cr5) ∧ W.cell? ⟨b9, 2, none⟩ = some (.string (S id5)) ∧ W.cell? ⟨b9, 3, none⟩ = some (.slice A5 l5.length c5) ∧ W.cell? ⟨b11, 0, none⟩ = some (.int .i64 ch6) ∧ W.cell? ⟨b11, 1, none⟩ = some (.int .i64 cr6) ∧ W.cell? ⟨b11, 2, none⟩ = some (.string (S id6)) ∧ W.cell? ⟨b11, 3, none⟩ = some (.slice A6 l6.length c6) ∧ W.cell? ⟨b3, 0, none⟩ = some (.int .i64 h1) ∧ W.cell? ⟨b3, 1, none⟩ = some (.int .i64 t1) ∧ W.cell? ⟨b3, 2, none⟩ = some (.string (S la1)) ∧ W.cell? ⟨b3, 3, none⟩ = some (.string (S va1)) ∧ W.cell? ⟨b3, 4, none⟩ = some (.string (S ne1)) ∧ W.cell? ⟨b3, 5, none⟩ = some (.string (S da1)))
      have HID := Lib.hid fun (W : World) (q : Below W12.heap.size W12 W) => iHeadId_flat h1 t1 la1 va1 ne1 da1 W (by omega) (by omega) (by omega) (by omega) (HK.out.to (Below.next hb q))
      have HIS := Lib.hid fun (W : World) => sHeadId_flat h1 t1 la1 va1 ne1 da1 W (by omega) (by omega) (by omega) (by omega)
      generalize headIdS ⟨h1, t1, la1, va1, ne1, da1⟩ = gid at *
      have HZ5 := Lib.hid fun (W : World) (q : Below W12.heap.size W12 W) => iShowCommit_flat ch5 cr5 id5 l5 A5 c5 W (by omega) (by omega) (HS5.out.to q) (fun s hs => by have := HLN3.out s hs; omega)
      have HU6 := Lib.hid fun (W : World) (q : Below W12.heap.size W12 W) => iShowCommit_flat ch6 cr6 id6 l6 A6 c6 W (by omega) (by omega) (HS6.out.to q) (fun s hs => by have := HLU3.out s hs; omega)
      clear hH hX hY hC hZ hU hq7 HSS HSR4 HOK HFL HFO HY2 HS5 HS6 hqz hrc2
      cases rd
      · cases wh
        · go_wp2_with fail
          refine wp_region_held_drew (S := fun w' => Below W12.heap.size W12 w' ∧ w'.cell? ⟨b9, 0, none⟩ = some (.int .i64 ch5) ∧ w'.cell? ⟨b9, 1, none⟩ = some (.int .i64 cr5) ∧ w'.cell? ⟨b9, 2, none⟩ = some (.string (S id5)) ∧ w'.cell? ⟨b9, 3, none⟩ = some (.slice A5 l5.length c5) ∧ w'.cell? ⟨b11, 0, none⟩ = some (.int .i64 ch6) ∧ w'.cell? ⟨b11, 1, none⟩ = some (.int .i64 cr6) ∧ w'.cell? ⟨b11, 2, none⟩ = some (.string (S id6)) ∧ w'.cell? ⟨b11, 3, none⟩ = some (.slice A6 l6.length c6) ∧ w'.cell? ⟨b3, 0, none⟩ = some (.int .i64 h1) ∧ w'.cell? ⟨b3, 1, none⟩ = some (.int .i64 t1) ∧ w'.cell? ⟨b3, 2, none⟩ = some (.string (S la1)) ∧ w'.cell? ⟨b3, 3, none⟩ = some (.string (S va1)) ∧ w'.cell? ⟨b3, 4, none⟩ = some (.string (S ne1)) ∧ w'.cell? ⟨b3, 5, none⟩ = some (.string (S da1))) (by kernel_rfl) (by (try dsimp only); exact HKS.out _ hq13.drew) (fun hHeld => ?_)
          refine wpAnyH_take (i := 0) (oi := _) (v := ?v0) rfl (by kernel_rfl) (by kernel_rfl) (by kernel_rfl) (fun _ _ _ h => h) (Or.inl ⟨by kernel_rfl, ?hy0⟩) (by assumption) ?rest0
          case hy0 => (intro w' hSw; (try dsimp only at hSw); go_simp; try with_reducible rfl)
          try simp only [Act.put, List.getElem_toArray, List.getElem_cons_succ, List.getElem_cons_zero, List.setIfInBounds_toArray, List.set_cons_zero, List.set_cons_succ]
          refine wpAnyH_take (i := 1) (oi := _) (v := ?v1) rfl (by kernel_rfl) (by kernel_rfl) (by kernel_rfl) (fun _ _ _ h => h) (Or.inl ⟨by kernel_rfl, ?hy1⟩) (by assumption) ?rest1
          case hy1 => (intro w' hSw; (try dsimp only at hSw); go_simp; try with_reducible rfl)
          try simp only [Act.put, List.getElem_toArray, List.getElem_cons_succ, List.getElem_cons_zero, List.setIfInBounds_toArray, List.set_cons_zero, List.set_cons_succ]
          refine wpAnyH_take (i := 2) (oi := _) (v := ?v2) rfl (by kernel_rfl) (by kernel_rfl) (by kernel_rfl) (fun _ _ _ h => h) (Or.inl ⟨by kernel_rfl, ?hy2⟩) (by assumption) ?rest2
          case hy2 => (intro w' hSw; (try dsimp only at hSw); go_simp; try with_reducible rfl)
          try simp only [Act.put, List.getElem_toArray, List.getElem_cons_succ, List.getElem_cons_zero, List.setIfInBounds_toArray, List.set_cons_zero, List.set_cons_succ]
          refine wpAnyH_take (i := 3) (oi := _) (v := undef) rfl (by kernel_rfl) (by kernel_rfl) (by kernel_rfl) (fun _ _ _ h => h) (Or.inr ⟨by kernel_rfl, rfl⟩) (by assumption) ?_
          try simp only [Act.put, List.getElem_toArray, List.getElem_cons_succ, List.getElem_cons_zero, List.setIfInBounds_toArray, List.set_cons_zero, List.set_cons_succ]
          refine wpAnyH_take (i := 4) (oi := _) (v := undef) rfl (by kernel_rfl) (by kernel_rfl) (by kernel_rfl) (fun _ _ _ h => h) (Or.inr ⟨by kernel_rfl, rfl⟩) (by assumption) ?_
          try simp only [Act.put, List.getElem_toArray, List.getElem_cons_succ, List.getElem_cons_zero, List.setIfInBounds_toArray, List.set_cons_zero, List.set_cons_succ]
          refine wpAnyH_take (i := 5) (oi := _) (v := undef) rfl (by kernel_rfl) (by kernel_rfl) (by kernel_rfl) (fun _ _ _ h => h) (Or.inr ⟨by kernel_rfl, rfl⟩) (by assumption) ?_
          try simp only [Act.put, List.getElem_toArray, List.getElem_cons_succ, List.getElem_cons_zero, List.setIfInBounds_toArray, List.set_cons_zero, List.set_cons_succ]
          refine wpAnyH_take (i := 6) (oi := _) (v := undef) rfl (by kernel_rfl) (by kernel_rfl) (by kernel_rfl) (fun _ _ _ h => h) (Or.inr ⟨by kernel_rfl, rfl⟩) (by assumption) ?_
          try simp only [Act.put, List.getElem_toArray, List.getElem_cons_succ, List.getElem_cons_zero, List.setIfInBounds_toArray, List.set_cons_zero, List.set_cons_succ]
          refine wpAnyH_take (i := 7) (oi := _) (v := ?v3) rfl (by kernel_rfl) (by kernel_rfl) (by kernel_rfl) (fun _ _ _ h => h) (Or.inl ⟨by kernel_rfl, ?hy3⟩) (by assumption) ?rest3
          case hy3 => (intro w' hSw; (try dsimp only at hSw); go_simp; try with_reducible rfl)
          try simp only [Act.put, List.getElem_toArray, List.getElem_cons_succ, List.getElem_cons_zero, List.setIfInBounds_toArray, List.set_cons_zero, List.set_cons_succ]
          refine wpAnyH_take (i := 8) (oi := _) (v := ?v4) rfl (by kernel_rfl) (by kernel_rfl) (by kernel_rfl) (fun _ _ _ h => h) (Or.inl ⟨by kernel_rfl, ?hy4⟩) (by assumption) ?rest4
          case hy4 => (intro w' hSw; (try dsimp only at hSw); go_simp; try with_reducible rfl)
          try simp only [Act.put, List.getElem_toArray, List.getElem_cons_succ, List.getElem_cons_zero, List.setIfInBounds_toArray, List.set_cons_zero, List.set_cons_succ]
          refine wpAnyH_take (i := 9) (oi := _) (v := ?v5) rfl (by kernel_rfl) (by kernel_rfl) (by kernel_rfl) (fun _ _ _ h => h) (Or.inl ⟨by kernel_rfl, ?hy5⟩) (by assumption) ?rest5
          case hy5 => (intro w' hSw; (try dsimp only at hSw); go_simp; try with_reducible rfl)
          try simp only [Act.put, List.getElem_toArray, List.getElem_cons_succ, List.getElem_cons_zero, List.setIfInBounds_toArray, List.set_cons_zero, List.set_cons_succ]
          refine wpAnyH_take (i := 10) (oi := _) (v := ?v6) rfl (by kernel_rfl) (by kernel_rfl) (by kernel_rfl) (fun _ _ _ h => h) (Or.inl ⟨by kernel_rfl, ?hy6⟩) (by assumption) ?rest6
          case hy6 => (intro w' hSw; (try dsimp only at hSw); go_simp; try with_reducible rfl)
          try simp only [Act.put, List.getElem_toArray, List.getElem_cons_succ, List.getElem_cons_zero, List.setIfInBounds_toArray, List.set_cons_zero, List.set_cons_succ]
          refine wpAnyH_take (i := 11) (oi := _) (v := ?v7) rfl (by kernel_rfl) (by kernel_rfl) (by kernel_rfl) (fun _ _ _ h => h) (Or.inl ⟨by kernel_rfl, ?hy7⟩) (by assumption) ?rest7
          case hy7 => (intro w' hSw; (try dsimp only at hSw); go_simp; try with_reducible rfl)
          try simp only [Act.put, List.getElem_toArray, List.getElem_cons_succ, List.getElem_cons_zero, List.setIfInBounds_toArray, List.set_cons_zero, List.set_cons_succ]
          refine wpAnyH_take (i := 12) (oi := _) (v := undef) rfl (by kernel_rfl) (by kernel_rfl) (by kernel_rfl) (fun _ _ _ h => h) (Or.inr ⟨by kernel_rfl, rfl⟩) (by assumption) ?_
          try simp only [Act.put, List.getElem_toArray, List.getElem_cons_succ, List.getElem_cons_zero, List.setIfInBounds_toArray, List.set_cons_zero, List.set_cons_succ]
          refine wpAnyH_take (i := 13) (oi := _) (v := undef) rfl (by kernel_rfl) (by kernel_rfl) (by kernel_rfl) (fun _ _ _ h => h) (Or.inr ⟨by kernel_rfl, rfl⟩) (by assumption) ?_
          try simp only [Act.put, List.getElem_toArray, List.getElem_cons_succ, List.getElem_cons_zero, List.setIfInBounds_toArray, List.set_cons_zero, List.set_cons_succ]
          refine wpAnyH_take (i := 14) (oi := _) (v := undef) rfl (by kernel_rfl) (by kernel_rfl) (by kernel_rfl) (fun _ _ _ h => h) (Or.inr ⟨by kernel_rfl, rfl⟩) (by assumption) ?_
          try simp only [Act.put, List.getElem_toArray, List.getElem_cons_succ, List.getElem_cons_zero, List.setIfInBounds_toArray, List.set_cons_zero, List.set_cons_succ]
          refine wpAnyH_take (i := 15) (oi := _) (v := undef) rfl (by kernel_rfl) (by kernel_rfl) (by kernel_rfl) (fun _ _ _ h => h) (Or.inr ⟨by kernel_rfl, rfl⟩) (by assumption) ?_
          try simp only [Act.put, List.getElem_toArray, List.getElem_cons_succ, List.getElem_cons_zero, List.setIfInBounds_toArray, List.set_cons_zero, List.set_cons_succ]
          refine wpAnyH_take (i := 16) (oi := _) (v := ?v8) rfl (by kernel_rfl) (by kernel_rfl) (by kernel_rfl) (fun _ _ _ h => h) (Or.inl ⟨by kernel_rfl, ?hy8⟩) (by assumption) ?rest8
          case hy8 => (intro w' hSw; (try dsimp only at hSw); go_simp; try with_reducible rfl)
          try simp only [Act.put, List.getElem_toArray, List.getElem_cons_succ, List.getElem_cons_zero, List.setIfInBounds_toArray, List.set_cons_zero, List.set_cons_succ]
          refine wpAnyH_take (i := 17) (oi := _) (v := ?v9) rfl (by kernel_rfl) (by kernel_rfl) (by kernel_rfl) (fun _ _ _ h => h) (Or.inl ⟨by kernel_rfl, ?hy9⟩) (by assumption) ?rest9
          case hy9 => (intro w' hSw; (try dsimp only at hSw); go_simp; try with_reducible rfl)
          try simp only [Act.put, List.getElem_toArray, List.getElem_cons_succ, List.getElem_cons_zero, List.setIfInBounds_toArray, List.set_cons_zero, List.set_cons_succ]
          refine wpAnyH_take (i := 18) (oi := _) (v := ?v10) rfl (by kernel_rfl) (by kernel_rfl) (by kernel_rfl) (fun _ _ _ h => h) (Or.inl ⟨by kernel_rfl, ?hy10⟩) (by assumption) ?rest10
          case hy10 => (intro w' hSw; (try dsimp only at hSw); go_simp; try with_reducible rfl)
          try simp only [Act.put, List.getElem_toArray, List.getElem_cons_succ, List.getElem_cons_zero, List.setIfInBounds_toArray, List.set_cons_zero, List.set_cons_succ]
          refine wpAnyH_take (i := 19) (oi := _) (v := ?v11) rfl (by kernel_rfl) (by kernel_rfl) (by kernel_rfl) (fun _ _ _ h => h) (Or.inl ⟨by kernel_rfl, ?hy11⟩) (by assumption) ?rest11
          case hy11 => (intro w' hSw; (try dsimp only at hSw); go_simp; try with_reducible rfl)
          try simp only [Act.put, List.getElem_toArray, List.getElem_cons_succ, List.getElem_cons_zero, List.setIfInBounds_toArray, List.set_cons_zero, List.set_cons_succ]
          refine wpAnyH_take (i := 22) (oi := _) (v := ?v12) rfl (by kernel_rfl) (by kernel_rfl) (by kernel_rfl) (fun _ _ _ h => h) (Or.inl ⟨by kernel_rfl, ?hy12⟩) (by assumption) ?rest12
          case hy12 => (intro w' hSw; (try dsimp only at hSw); go_simp; try with_reducible rfl)
          try simp only [Act.put, List.getElem_toArray, List.getElem_cons_succ, List.getElem_cons_zero, List.setIfInBounds_toArray, List.set_cons_zero, List.set_cons_succ]
          refine wpAnyH_ready (rs := [20]) (by kernel_rfl) (by simp) ?_
          refine AllReadyH.cons (o := _) rfl (fun K hK => ?_) AllReadyH.nil
          go_simp
          (go_at_call 20; refine (HID.out _ (And.left hHeld)).mono ?_; rintro e wm ⟨rfl, hbm⟩)
          try go_wp2_with fail
          refine hK.out _ _ ?_ (fun hHeld => ?_)
          · (try dsimp only); exact HKS.out _ (Below.next (And.left hHeld) hbm)
          clear hK K
          try simp only [Act.put, List.getElem_toArray, List.getElem_cons_succ, List.getElem_cons_zero, List.setIfInBounds_toArray, List.set_cons_zero, List.set_cons_succ]
          refine wpAnyH_take (i := 21) (oi := _) (v := ?v13) rfl (by kernel_rfl) (by kernel_rfl) (by kernel_rfl) (fun _ _ _ h => h) (Or.inl ⟨by kernel_rfl, ?hy13⟩) (by assumption) ?rest13
          case hy13 => (intro w' hSw; (try dsimp only at hSw); go_simp; try with_reducible rfl)
          try simp only [Act.put, List.getElem_toArray, List.getElem_cons_succ, List.getElem_cons_zero, List.setIfInBounds_toArray, List.set_cons_zero, List.set_cons_succ]
          refine wpAnyH_ready (rs := [23]) (by kernel_rfl) (by simp) ?_
          refine AllReadyH.cons (o := _) rfl (fun K hK => ?_) AllReadyH.nil
          go_simp
          (go_at_call 21; refine (HIS.out _).mono ?_; rintro e wm ⟨rfl, hbm⟩)
          try go_wp2_with fail
          refine hK.out _ _ ?_ (fun hHeld => ?_)
          · (try dsimp only); exact HKS.out _ (Below.next (And.left hHeld) hbm)
          clear hK K
          try simp only [Act.put, List.getElem_toArray, List.getElem_cons_succ, List.getElem_cons_zero, List.setIfInBounds_toArray, List.set_cons_zero, List.set_cons_succ]
          refine wpAnyH_take (i := 24) (oi := _) (v := ?v14) rfl (by kernel_rfl) (by kernel_rfl) (by kernel_rfl) (fun _ _ _ h => h) (Or.inl ⟨by kernel_rfl, ?hy14⟩) (by assumption) ?rest14
          case hy14 => (intro w' hSw; (try dsimp only at hSw); go_simp; try with_reducible rfl)
          try simp only [Act.put, List.getElem_toArray, List.getElem_cons_succ, List.getElem_cons_zero, List.setIfInBounds_toArray, List.set_cons_zero, List.set_cons_succ]
          refine wpAnyH_take (i := 25) (oi := _) (v := .bool true) rfl (by kernel_rfl) (by kernel_rfl) (by kernel_rfl) (fun _ _ _ h => h) (Or.inl ⟨by kernel_rfl, ?hy15⟩) (by assumption) ?rest15
          case hy15 => (intro w' hSw; (try dsimp only at hSw); go_simp; (first | done | simp))
          try simp only [Act.put, List.getElem_toArray, List.getElem_cons_succ, List.getElem_cons_zero, List.setIfInBounds_toArray, List.set_cons_zero, List.set_cons_succ]
          refine wpAnyH_take (i := 26) (oi := _) (v := ?v16) rfl (by kernel_rfl) (by kernel_rfl) (by kernel_rfl) (fun _ _ _ h => h) (Or.inl ⟨by kernel_rfl, ?hy16⟩) (by assumption) ?rest16
          case hy16 => (intro w' hSw; (try dsimp only at hSw); go_simp; try with_reducible rfl)
          try simp only [Act.put, List.getElem_toArray, List.getElem_cons_succ, List.getElem_cons_zero, List.setIfInBounds_toArray, List.set_cons_zero, List.set_cons_succ]
          refine wpAnyH_take (i := 27) (oi := _) (v := ?v17) rfl (by kernel_rfl) (by kernel_rfl) (by kernel_rfl) (fun _ _ _ h => h) (Or.inl ⟨by kernel_rfl, ?hy17⟩) (by assumption) ?rest17
          case hy17 => (intro w' hSw; (try dsimp only at hSw); go_simp; try with_reducible rfl)
          try simp only [Act.put, List.getElem_toArray, List.getElem_cons_succ, List.getElem_cons_zero, List.setIfInBounds_toArray, List.set_cons_zero, List.set_cons_succ]
          refine wpAnyH_done (by kernel_rfl) ?_ _
          have hqe := And.left hHeld
          clear hHeld
          go_wp2_with fail
          go_ret
          exact ⟨rfl, Below.next hb hqe⟩
        · rw [HLU.out rfl] at HU6
          go_wp2_with fail
          refine wp_region_held_drew (S := fun w' => Below W12.heap.size W12 w' ∧ w'.cell? ⟨b9, 0, none⟩ = some (.int .i64 ch5) ∧ w'.cell? ⟨b9, 1, none⟩ = some (.int .i64 cr5) ∧ w'.cell? ⟨b9, 2, none⟩ = some (.string (S id5)) ∧ w'.cell? ⟨b9, 3, none⟩ = some (.slice A5 l5.length c5) ∧ w'.cell? ⟨b11, 0, none⟩ = some (.int .i64 ch6) ∧ w'.cell? ⟨b11, 1, none⟩ = some (.int .i64 cr6) ∧ w'.cell? ⟨b11, 2, none⟩ = some (.string (S id6)) ∧ w'.cell? ⟨b11, 3, none⟩ = some (.slice A6 l6.length c6) ∧ w'.cell? ⟨b3, 0, none⟩ = some (.int .i64 h1) ∧ w'.cell? ⟨b3, 1, none⟩ = some (.int .i64 t1) ∧ w'.cell? ⟨b3, 2, none⟩ = some (.string (S la1)) ∧ w'.cell? ⟨b3, 3, none⟩ = some (.string (S va1)) ∧ w'.cell? ⟨b3, 4, none⟩ = some (.string (S ne1)) ∧ w'.cell? ⟨b3, 5, none⟩ = some (.string (S da1))) (by kernel_rfl) (by (try dsimp only); exact HKS.out _ hq13.drew) (fun hHeld => ?_)
          refine wpAnyH_take (i := 0) (oi := _) (v := ?v18) rfl (by kernel_rfl) (by kernel_rfl) (by kernel_rfl) (fun _ _ _ h => h) (Or.inl ⟨by kernel_rfl, ?hy18⟩) (by assumption) ?rest18
          case hy18 => (intro w' hSw; (try dsimp only at hSw); go_simp; try with_reducible rfl)
          try simp only [Act.put, List.getElem_toArray, List.getElem_cons_succ, List.getElem_cons_zero, List.setIfInBounds_toArray, List.set_cons_zero, List.set_cons_succ]
          refine wpAnyH_take (i := 1) (oi := _) (v := ?v19) rfl (by kernel_rfl) (by kernel_rfl) (by kernel_rfl) (fun _ _ _ h => h) (Or.inl ⟨by kernel_rfl, ?hy19⟩) (by assumption) ?rest19
          case hy19 => (intro w' hSw; (try dsimp only at hSw); go_simp; try with_reducible rfl)
          try simp only [Act.put, List.getElem_toArray, List.getElem_cons_succ, List.getElem_cons_zero, List.setIfInBounds_toArray, List.set_cons_zero, List.set_cons_succ]
          refine wpAnyH_take (i := 2) (oi := _) (v := ?v20) rfl (by kernel_rfl) (by kernel_rfl) (by kernel_rfl) (fun _ _ _ h => h) (Or.inl ⟨by kernel_rfl, ?hy20⟩) (by assumption) ?rest20
          case hy20 => (intro w' hSw; (try dsimp only at hSw); go_simp; try with_reducible rfl)
          try simp only [Act.put, List.getElem_toArray, List.getElem_cons_succ, List.getElem_cons_zero, List.setIfInBounds_toArray, List.set_cons_zero, List.set_cons_succ]
          refine wpAnyH_take (i := 3) (oi := _) (v := undef) rfl (by kernel_rfl) (by kernel_rfl) (by kernel_rfl) (fun _ _ _ h => h) (Or.inr ⟨by kernel_rfl, rfl⟩) (by assumption) ?_
          try simp only [Act.put, List.getElem_toArray, List.getElem_cons_succ, List.getElem_cons_zero, List.setIfInBounds_toArray, List.set_cons_zero, List.set_cons_succ]
          refine wpAnyH_take (i := 4) (oi := _) (v := undef) rfl (by kernel_rfl) (by kernel_rfl) (by kernel_rfl) (fun _ _ _ h => h) (Or.inr ⟨by kernel_rfl, rfl⟩) (by assumption) ?_
          try simp only [Act.put, List.getElem_toArray, List.getElem_cons_succ, List.getElem_cons_zero, List.setIfInBounds_toArray, List.set_cons_zero, List.set_cons_succ]
          refine wpAnyH_take (i := 5) (oi := _) (v := undef) rfl (by kernel_rfl) (by kernel_rfl) (by kernel_rfl) (fun _ _ _ h => h) (Or.inr ⟨by kernel_rfl, rfl⟩) (by assumption) ?_
          try simp only [Act.put, List.getElem_toArray, List.getElem_cons_succ, List.getElem_cons_zero, List.setIfInBounds_toArray, List.set_cons_zero, List.set_cons_succ]
          refine wpAnyH_take (i := 6) (oi := _) (v := undef) rfl (by kernel_rfl) (by kernel_rfl) (by kernel_rfl) (fun _ _ _ h => h) (Or.inr ⟨by kernel_rfl, rfl⟩) (by assumption) ?_
          try simp only [Act.put, List.getElem_toArray, List.getElem_cons_succ, List.getElem_cons_zero, List.setIfInBounds_toArray, List.set_cons_zero, List.set_cons_succ]
          refine wpAnyH_take (i := 7) (oi := _) (v := ?v21) rfl (by kernel_rfl) (by kernel_rfl) (by kernel_rfl) (fun _ _ _ h => h) (Or.inl ⟨by kernel_rfl, ?hy21⟩) (by assumption) ?rest21
          case hy21 => (intro w' hSw; (try dsimp only at hSw); go_simp; try with_reducible rfl)
          try simp only [Act.put, List.getElem_toArray, List.getElem_cons_succ, List.getElem_cons_zero, List.setIfInBounds_toArray, List.set_cons_zero, List.set_cons_succ]
          refine wpAnyH_take (i := 8) (oi := _) (v := ?v22) rfl (by kernel_rfl) (by kernel_rfl) (by kernel_rfl) (fun _ _ _ h => h) (Or.inl ⟨by kernel_rfl, ?hy22⟩) (by assumption) ?rest22
          case hy22 => (intro w' hSw; (try dsimp only at hSw); go_simp; try with_reducible rfl)
          try simp only [Act.put, List.getElem_toArray, List.getElem_cons_succ, List.getElem_cons_zero, List.setIfInBounds_toArray, List.set_cons_zero, List.set_cons_succ]
          refine wpAnyH_take (i := 9) (oi := _) (v := ?v23) rfl (by kernel_rfl) (by kernel_rfl) (by kernel_rfl) (fun _ _ _ h => h) (Or.inl ⟨by kernel_rfl, ?hy23⟩) (by assumption) ?rest23
          case hy23 => (intro w' hSw; (try dsimp only at hSw); go_simp; try with_reducible rfl)
          try simp only [Act.put, List.getElem_toArray, List.getElem_cons_succ, List.getElem_cons_zero, List.setIfInBounds_toArray, List.set_cons_zero, List.set_cons_succ]
          refine wpAnyH_take (i := 10) (oi := _) (v := ?v24) rfl (by kernel_rfl) (by kernel_rfl) (by kernel_rfl) (fun _ _ _ h => h) (Or.inl ⟨by kernel_rfl, ?hy24⟩) (by assumption) ?rest24
          case hy24 => (intro w' hSw; (try dsimp only at hSw); go_simp; try with_reducible rfl)
          try simp only [Act.put, List.getElem_toArray, List.getElem_cons_succ, List.getElem_cons_zero, List.setIfInBounds_toArray, List.set_cons_zero, List.set_cons_succ]
          refine wpAnyH_take (i := 11) (oi := _) (v := ?v25) rfl (by kernel_rfl) (by kernel_rfl) (by kernel_rfl) (fun _ _ _ h => h) (Or.inl ⟨by kernel_rfl, ?hy25⟩) (by assumption) ?rest25
          case hy25 => (intro w' hSw; (try dsimp only at hSw); go_simp; try with_reducible rfl)
          try simp only [Act.put, List.getElem_toArray, List.getElem_cons_succ, List.getElem_cons_zero, List.setIfInBounds_toArray, List.set_cons_zero, List.set_cons_succ]
          refine wpAnyH_take (i := 12) (oi := _) (v := ?v26) rfl (by kernel_rfl) (by kernel_rfl) (by kernel_rfl) (fun _ _ _ h => h) (Or.inl ⟨by kernel_rfl, ?hy26⟩) (by assumption) ?rest26
          case hy26 => (intro w' hSw; (try dsimp only at hSw); go_simp; try with_reducible rfl)
          try simp only [Act.put, List.getElem_toArray, List.getElem_cons_succ, List.getElem_cons_zero, List.setIfInBounds_toArray, List.set_cons_zero, List.set_cons_succ]
          refine wpAnyH_take (i := 14) (oi := _) (v := ?v27) rfl (by kernel_rfl) (by kernel_rfl) (by kernel_rfl) (fun _ _ _ h => h) (Or.inl ⟨by kernel_rfl, ?hy27⟩) (by assumption) ?rest27
          case hy27 => (intro w' hSw; (try dsimp only at hSw); go_simp; try with_reducible rfl)
          try simp only [Act.put, List.getElem_toArray, List.getElem_cons_succ, List.getElem_cons_zero, List.setIfInBounds_toArray, List.set_cons_zero, List.set_cons_succ]
          refine wpAnyH_ready (rs := [13]) (by kernel_rfl) (by simp) ?_
          refine AllReadyH.cons (o := _) rfl (fun K hK => ?_) AllReadyH.nil
          go_simp
          (go_at_call 14; refine (HU6.out _ (And.left hHeld)).mono ?_; rintro e wm ⟨rfl, hbm⟩)
          try go_wp2_with fail
          refine hK.out _ _ ?_ (fun hHeld => ?_)
          · (try dsimp only); exact HKS.out _ (Below.next (And.left hHeld) hbm)
          clear hK K
          try simp only [Act.put, List.getElem_toArray, List.getElem_cons_succ, List.getElem_cons_zero, List.setIfInBounds_toArray, List.set_cons_zero, List.set_cons_succ]
          refine wpAnyH_take (i := 15) (oi := _) (v := .bool true) rfl (by kernel_rfl) (by kernel_rfl) (by kernel_rfl) (fun _ _ _ h => h) (Or.inl ⟨by kernel_rfl, ?hy28⟩) (by assumption) ?rest28
          case hy28 => (intro w' hSw; (try dsimp only at hSw); go_simp; (first | done | simp))
          try simp only [Act.put, List.getElem_toArray, List.getElem_cons_succ, List.getElem_cons_zero, List.setIfInBounds_toArray, List.set_cons_zero, List.set_cons_succ]
          refine wpAnyH_take (i := 16) (oi := _) (v := ?v29) rfl (by kernel_rfl) (by kernel_rfl) (by kernel_rfl) (fun _ _ _ h => h) (Or.inl ⟨by kernel_rfl, ?hy29⟩) (by assumption) ?rest29
          case hy29 => (intro w' hSw; (try dsimp only at hSw); go_simp; try with_reducible rfl)
          try simp only [Act.put, List.getElem_toArray, List.getElem_cons_succ, List.getElem_cons_zero, List.setIfInBounds_toArray, List.set_cons_zero, List.set_cons_succ]
          refine wpAnyH_take (i := 17) (oi := _) (v := ?v30) rfl (by kernel_rfl) (by kernel_rfl) (by kernel_rfl) (fun _ _ _ h => h) (Or.inl ⟨by kernel_rfl, ?hy30⟩) (by assumption) ?rest30
          case hy30 => (intro w' hSw; (try dsimp only at hSw); go_simp; try with_reducible rfl)
          try simp only [Act.put, List.getElem_toArray, List.getElem_cons_succ, List.getElem_cons_zero, List.setIfInBounds_toArray, List.set_cons_zero, List.set_cons_succ]
          refine wpAnyH_take (i := 18) (oi := _) (v := ?v31) rfl (by kernel_rfl) (by kernel_rfl) (by kernel_rfl) (fun _ _ _ h => h) (Or.inl ⟨by kernel_rfl, ?hy31⟩) (by assumption) ?rest31
          case hy31 => (intro w' hSw; (try dsimp only at hSw); go_simp; try with_reducible rfl)
          try simp only [Act.put, List.getElem_toArray, List.getElem_cons_succ, List.getElem_cons_zero, List.setIfInBounds_toArray, List.set_cons_zero, List.set_cons_succ]
          refine wpAnyH_take (i := 19) (oi := _) (v := ?v32) rfl (by kernel_rfl) (by kernel_rfl) (by kernel_rfl) (fun _ _ _ h => h) (Or.inl ⟨by kernel_rfl, ?hy32⟩) (by assumption) ?rest32
          case hy32 => (intro w' hSw; (try dsimp only at hSw); go_simp; try with_reducible rfl)
          try simp only [Act.put, List.getElem_toArray, List.getElem_cons_succ, List.getElem_cons_zero, List.setIfInBounds_toArray, List.set_cons_zero, List.set_cons_succ]
          refine wpAnyH_take (i := 22) (oi := _) (v := ?v33) rfl (by kernel_rfl) (by kernel_rfl) (by kernel_rfl) (fun _ _ _ h => h) (Or.inl ⟨by kernel_rfl, ?hy33⟩) (by assumption) ?rest33
          case hy33 => (intro w' hSw; (try dsimp only at hSw); go_simp; try with_reducible rfl)
          try simp only [Act.put, List.getElem_toArray, List.getElem_cons_succ, List.getElem_cons_zero, List.setIfInBounds_toArray, List.set_cons_zero, List.set_cons_succ]
          refine wpAnyH_ready (rs := [20]) (by kernel_rfl) (by simp) ?_
          refine AllReadyH.cons (o := _) rfl (fun K hK => ?_) AllReadyH.nil
          go_simp
          (go_at_call 20; refine (HID.out _ (And.left hHeld)).mono ?_; rintro e wm ⟨rfl, hbm⟩)
          try go_wp2_with fail
          refine hK.out _ _ ?_ (fun hHeld => ?_)
          · (try dsimp only); exact HKS.out _ (Below.next (And.left hHeld) hbm)
          clear hK K
          try simp only [Act.put, List.getElem_toArray, List.getElem_cons_succ, List.getElem_cons_zero, List.setIfInBounds_toArray, List.set_cons_zero, List.set_cons_succ]
          refine wpAnyH_take (i := 21) (oi := _) (v := ?v34) rfl (by kernel_rfl) (by kernel_rfl) (by kernel_rfl) (fun _ _ _ h => h) (Or.inl ⟨by kernel_rfl, ?hy34⟩) (by assumption) ?rest34
          case hy34 => (intro w' hSw; (try dsimp only at hSw); go_simp; try with_reducible rfl)
          try simp only [Act.put, List.getElem_toArray, List.getElem_cons_succ, List.getElem_cons_zero, List.setIfInBounds_toArray, List.set_cons_zero, List.set_cons_succ]
          refine wpAnyH_ready (rs := [23]) (by kernel_rfl) (by simp) ?_
          refine AllReadyH.cons (o := _) rfl (fun K hK => ?_) AllReadyH.nil
          go_simp
          (go_at_call 21; refine (HIS.out _).mono ?_; rintro e wm ⟨rfl, hbm⟩)
          try go_wp2_with fail
          refine hK.out _ _ ?_ (fun hHeld => ?_)
          · (try dsimp only); exact HKS.out _ (Below.next (And.left hHeld) hbm)
          clear hK K
          try simp only [Act.put, List.getElem_toArray, List.getElem_cons_succ, List.getElem_cons_zero, List.setIfInBounds_toArray, List.set_cons_zero, List.set_cons_succ]
          refine wpAnyH_take (i := 24) (oi := _) (v := ?v35) rfl (by kernel_rfl) (by kernel_rfl) (by kernel_rfl) (fun _ _ _ h => h) (Or.inl ⟨by kernel_rfl, ?hy35⟩) (by assumption) ?rest35
          case hy35 => (intro w' hSw; (try dsimp only at hSw); go_simp; try with_reducible rfl)
          try simp only [Act.put, List.getElem_toArray, List.getElem_cons_succ, List.getElem_cons_zero, List.setIfInBounds_toArray, List.set_cons_zero, List.set_cons_succ]
          refine wpAnyH_take (i := 25) (oi := _) (v := .bool true) rfl (by kernel_rfl) (by kernel_rfl) (by kernel_rfl) (fun _ _ _ h => h) (Or.inl ⟨by kernel_rfl, ?hy36⟩) (by assumption) ?rest36
          case hy36 => (intro w' hSw; (try dsimp only at hSw); go_simp; (first | done | simp))
          try simp only [Act.put, List.getElem_toArray, List.getElem_cons_succ, List.getElem_cons_zero, List.setIfInBounds_toArray, List.set_cons_zero, List.set_cons_succ]
          refine wpAnyH_take (i := 26) (oi := _) (v := ?v37) rfl (by kernel_rfl) (by kernel_rfl) (by kernel_rfl) (fun _ _ _ h => h) (Or.inl ⟨by kernel_rfl, ?hy37⟩) (by assumption) ?rest37
          case hy37 => (intro w' hSw; (try dsimp only at hSw); go_simp; try with_reducible rfl)
          try simp only [Act.put, List.getElem_toArray, List.getElem_cons_succ, List.getElem_cons_zero, List.setIfInBounds_toArray, List.set_cons_zero, List.set_cons_succ]
          refine wpAnyH_take (i := 27) (oi := _) (v := ?v38) rfl (by kernel_rfl) (by kernel_rfl) (by kernel_rfl) (fun _ _ _ h => h) (Or.inl ⟨by kernel_rfl, ?hy38⟩) (by assumption) ?rest38
          case hy38 => (intro w' hSw; (try dsimp only at hSw); go_simp; try with_reducible rfl)
          try simp only [Act.put, List.getElem_toArray, List.getElem_cons_succ, List.getElem_cons_zero, List.setIfInBounds_toArray, List.set_cons_zero, List.set_cons_succ]
          refine wpAnyH_done (by kernel_rfl) ?_ _
          have hqe := And.left hHeld
          clear hHeld
          go_wp2_with fail
          go_ret
          exact ⟨rfl, Below.next hb hqe⟩
      · cases wh
        · rw [HLW.out rfl] at HZ5
          go_wp2_with fail
          refine wp_region_held_drew (S := fun w' => Below W12.heap.size W12 w' ∧ w'.cell? ⟨b9, 0, none⟩ = some (.int .i64 ch5) ∧ w'.cell? ⟨b9, 1, none⟩ = some (.int .i64 cr5) ∧ w'.cell? ⟨b9, 2, none⟩ = some (.string (S id5)) ∧ w'.cell? ⟨b9, 3, none⟩ = some (.slice A5 l5.length c5) ∧ w'.cell? ⟨b11, 0, none⟩ = some (.int .i64 ch6) ∧ w'.cell? ⟨b11, 1, none⟩ = some (.int .i64 cr6) ∧ w'.cell? ⟨b11, 2, none⟩ = some (.string (S id6)) ∧ w'.cell? ⟨b11, 3, none⟩ = some (.slice A6 l6.length c6) ∧ w'.cell? ⟨b3, 0, none⟩ = some (.int .i64 h1) ∧ w'.cell? ⟨b3, 1, none⟩ = some (.int .i64 t1) ∧ w'.cell? ⟨b3, 2, none⟩ = some (.string (S la1)) ∧ w'.cell? ⟨b3, 3, none⟩ = some (.string (S va1)) ∧ w'.cell? ⟨b3, 4, none⟩ = some (.string (S ne1)) ∧ w'.cell? ⟨b3, 5, none⟩ = some (.string (S da1))) (by kernel_rfl) (by (try dsimp only); exact HKS.out _ hq13.drew) (fun hHeld => ?_)
          refine wpAnyH_take (i := 0) (oi := _) (v := ?v39) rfl (by kernel_rfl) (by kernel_rfl) (by kernel_rfl) (fun _ _ _ h => h) (Or.inl ⟨by kernel_rfl, ?hy39⟩) (by assumption) ?rest39
          case hy39 => (intro w' hSw; (try dsimp only at hSw); go_simp; try with_reducible rfl)
          try simp only [Act.put, List.getElem_toArray, List.getElem_cons_succ, List.getElem_cons_zero, List.setIfInBounds_toArray, List.set_cons_zero, List.set_cons_succ]
          refine wpAnyH_take (i := 1) (oi := _) (v := ?v40) rfl (by kernel_rfl) (by kernel_rfl) (by kernel_rfl) (fun _ _ _ h => h) (Or.inl ⟨by kernel_rfl, ?hy40⟩) (by assumption) ?rest40
          case hy40 => (intro w' hSw; (try dsimp only at hSw); go_simp; try with_reducible rfl)
          try simp only [Act.put, List.getElem_toArray, List.getElem_cons_succ, List.getElem_cons_zero, List.setIfInBounds_toArray, List.set_cons_zero, List.set_cons_succ]
          refine wpAnyH_take (i := 2) (oi := _) (v := ?v41) rfl (by kernel_rfl) (by kernel_rfl) (by kernel_rfl) (fun _ _ _ h => h) (Or.inl ⟨by kernel_rfl, ?hy41⟩) (by assumption) ?rest41
          case hy41 => (intro w' hSw; (try dsimp only at hSw); go_simp; try with_reducible rfl)
          try simp only [Act.put, List.getElem_toArray, List.getElem_cons_succ, List.getElem_cons_zero, List.setIfInBounds_toArray, List.set_cons_zero, List.set_cons_succ]
          refine wpAnyH_take (i := 3) (oi := _) (v := ?v42) rfl (by kernel_rfl) (by kernel_rfl) (by kernel_rfl) (fun _ _ _ h => h) (Or.inl ⟨by kernel_rfl, ?hy42⟩) (by assumption) ?rest42
          case hy42 => (intro w' hSw; (try dsimp only at hSw); go_simp; try with_reducible rfl)
          try simp only [Act.put, List.getElem_toArray, List.getElem_cons_succ, List.getElem_cons_zero, List.setIfInBounds_toArray, List.set_cons_zero, List.set_cons_succ]
          refine wpAnyH_take (i := 5) (oi := _) (v := ?v43) rfl (by kernel_rfl) (by kernel_rfl) (by kernel_rfl) (fun _ _ _ h => h) (Or.inl ⟨by kernel_rfl, ?hy43⟩) (by assumption) ?rest43
          case hy43 => (intro w' hSw; (try dsimp only at hSw); go_simp; try with_reducible rfl)
          try simp only [Act.put, List.getElem_toArray, List.getElem_cons_succ, List.getElem_cons_zero, List.setIfInBounds_toArray, List.set_cons_zero, List.set_cons_succ]
          refine wpAnyH_ready (rs := [4]) (by kernel_rfl) (by simp) ?_
          refine AllReadyH.cons (o := _) rfl (fun K hK => ?_) AllReadyH.nil
          go_simp
          (go_at_call 14; refine (HZ5.out _ (And.left hHeld)).mono ?_; rintro e wm ⟨rfl, hbm⟩)
          try go_wp2_with fail
          refine hK.out _ _ ?_ (fun hHeld => ?_)
          · (try dsimp only); exact HKS.out _ (Below.next (And.left hHeld) hbm)
          clear hK K
          try simp only [Act.put, List.getElem_toArray, List.getElem_cons_succ, List.getElem_cons_zero, List.setIfInBounds_toArray, List.set_cons_zero, List.set_cons_succ]
          refine wpAnyH_take (i := 6) (oi := _) (v := .bool true) rfl (by kernel_rfl) (by kernel_rfl) (by kernel_rfl) (fun _ _ _ h => h) (Or.inl ⟨by kernel_rfl, ?hy44⟩) (by assumption) ?rest44
          case hy44 => (intro w' hSw; (try dsimp only at hSw); go_simp; (first | done | simp))
          try simp only [Act.put, List.getElem_toArray, List.getElem_cons_succ, List.getElem_cons_zero, List.setIfInBounds_toArray, List.set_cons_zero, List.set_cons_succ]
          refine wpAnyH_take (i := 7) (oi := _) (v := ?v45) rfl (by kernel_rfl) (by kernel_rfl) (by kernel_rfl) (fun _ _ _ h => h) (Or.inl ⟨by kernel_rfl, ?hy45⟩) (by assumption) ?rest45
          case hy45 => (intro w' hSw; (try dsimp only at hSw); go_simp; try with_reducible rfl)
          try simp only [Act.put, List.getElem_toArray, List.getElem_cons_succ, List.getElem_cons_zero, List.setIfInBounds_toArray, List.set_cons_zero, List.set_cons_succ]
          refine wpAnyH_take (i := 8) (oi := _) (v := ?v46) rfl (by kernel_rfl) (by kernel_rfl) (by kernel_rfl) (fun _ _ _ h => h) (Or.inl ⟨by kernel_rfl, ?hy46⟩) (by assumption) ?rest46
          case hy46 => (intro w' hSw; (try dsimp only at hSw); go_simp; try with_reducible rfl)
          try simp only [Act.put, List.getElem_toArray, List.getElem_cons_succ, List.getElem_cons_zero, List.setIfInBounds_toArray, List.set_cons_zero, List.set_cons_succ]
          refine wpAnyH_take (i := 9) (oi := _) (v := ?v47) rfl (by kernel_rfl) (by kernel_rfl) (by kernel_rfl) (fun _ _ _ h => h) (Or.inl ⟨by kernel_rfl, ?hy47⟩) (by assumption) ?rest47
          case hy47 => (intro w' hSw; (try dsimp only at hSw); go_simp; try with_reducible rfl)
          try simp only [Act.put, List.getElem_toArray, List.getElem_cons_succ, List.getElem_cons_zero, List.setIfInBounds_toArray, List.set_cons_zero, List.set_cons_succ]
          refine wpAnyH_take (i := 10) (oi := _) (v := ?v48) rfl (by kernel_rfl) (by kernel_rfl) (by kernel_rfl) (fun _ _ _ h => h) (Or.inl ⟨by kernel_rfl, ?hy48⟩) (by assumption) ?rest48
          case hy48 => (intro w' hSw; (try dsimp only at hSw); go_simp; try with_reducible rfl)
          try simp only [Act.put, List.getElem_toArray, List.getElem_cons_succ, List.getElem_cons_zero, List.setIfInBounds_toArray, List.set_cons_zero, List.set_cons_succ]
          refine wpAnyH_take (i := 11) (oi := _) (v := ?v49) rfl (by kernel_rfl) (by kernel_rfl) (by kernel_rfl) (fun _ _ _ h => h) (Or.inl ⟨by kernel_rfl, ?hy49⟩) (by assumption) ?rest49
          case hy49 => (intro w' hSw; (try dsimp only at hSw); go_simp; try with_reducible rfl)
          try simp only [Act.put, List.getElem_toArray, List.getElem_cons_succ, List.getElem_cons_zero, List.setIfInBounds_toArray, List.set_cons_zero, List.set_cons_succ]
          refine wpAnyH_take (i := 12) (oi := _) (v := undef) rfl (by kernel_rfl) (by kernel_rfl) (by kernel_rfl) (fun _ _ _ h => h) (Or.inr ⟨by kernel_rfl, rfl⟩) (by assumption) ?_
          try simp only [Act.put, List.getElem_toArray, List.getElem_cons_succ, List.getElem_cons_zero, List.setIfInBounds_toArray, List.set_cons_zero, List.set_cons_succ]
          refine wpAnyH_take (i := 13) (oi := _) (v := undef) rfl (by kernel_rfl) (by kernel_rfl) (by kernel_rfl) (fun _ _ _ h => h) (Or.inr ⟨by kernel_rfl, rfl⟩) (by assumption) ?_
          try simp only [Act.put, List.getElem_toArray, List.getElem_cons_succ, List.getElem_cons_zero, List.setIfInBounds_toArray, List.set_cons_zero, List.set_cons_succ]
          refine wpAnyH_take (i := 14) (oi := _) (v := undef) rfl (by kernel_rfl) (by kernel_rfl) (by kernel_rfl) (fun _ _ _ h => h) (Or.inr ⟨by kernel_rfl, rfl⟩) (by assumption) ?_
          try simp only [Act.put, List.getElem_toArray, List.getElem_cons_succ, List.getElem_cons_zero, List.setIfInBounds_toArray, List.set_cons_zero, List.set_cons_succ]
          refine wpAnyH_take (i := 15) (oi := _) (v := undef) rfl (by kernel_rfl) (by kernel_rfl) (by kernel_rfl) (fun _ _ _ h => h) (Or.inr ⟨by kernel_rfl, rfl⟩) (by assumption) ?_
          try simp only [Act.put, List.getElem_toArray, List.getElem_cons_succ, List.getElem_cons_zero, List.setIfInBounds_toArray, List.set_cons_zero, List.set_cons_succ]
          refine wpAnyH_take (i := 16) (oi := _) (v := ?v50) rfl (by kernel_rfl) (by kernel_rfl) (by kernel_rfl) (fun _ _ _ h => h) (Or.inl ⟨by kernel_rfl, ?hy50⟩) (by assumption) ?rest50
          case hy50 => (intro w' hSw; (try dsimp only at hSw); go_simp; try with_reducible rfl)
          try simp only [Act.put, List.getElem_toArray, List.getElem_cons_succ, List.getElem_cons_zero, List.setIfInBounds_toArray, List.set_cons_zero, List.set_cons_succ]
          refine wpAnyH_take (i := 17) (oi := _) (v := ?v51) rfl (by kernel_rfl) (by kernel_rfl) (by kernel_rfl) (fun _ _ _ h => h) (Or.inl ⟨by kernel_rfl, ?hy51⟩) (by assumption) ?rest51
          case hy51 => (intro w' hSw; (try dsimp only at hSw); go_simp; try with_reducible rfl)
          try simp only [Act.put, List.getElem_toArray, List.getElem_cons_succ, List.getElem_cons_zero, List.setIfInBounds_toArray, List.set_cons_zero, List.set_cons_succ]
          refine wpAnyH_take (i := 18) (oi := _) (v := ?v52) rfl (by kernel_rfl) (by kernel_rfl) (by kernel_rfl) (fun _ _ _ h => h) (Or.inl ⟨by kernel_rfl, ?hy52⟩) (by assumption) ?rest52
          case hy52 => (intro w' hSw; (try dsimp only at hSw); go_simp; try with_reducible rfl)
          try simp only [Act.put, List.getElem_toArray, List.getElem_cons_succ, List.getElem_cons_zero, List.setIfInBounds_toArray, List.set_cons_zero, List.set_cons_succ]
          refine wpAnyH_take (i := 19) (oi := _) (v := ?v53) rfl (by kernel_rfl) (by kernel_rfl) (by kernel_rfl) (fun _ _ _ h => h) (Or.inl ⟨by kernel_rfl, ?hy53⟩) (by assumption) ?rest53
          case hy53 => (intro w' hSw; (try dsimp only at hSw); go_simp; try with_reducible rfl)
          try simp only [Act.put, List.getElem_toArray, List.getElem_cons_succ, List.getElem_cons_zero, List.setIfInBounds_toArray, List.set_cons_zero, List.set_cons_succ]
          refine wpAnyH_take (i := 22) (oi := _) (v := ?v54) rfl (by kernel_rfl) (by kernel_rfl) (by kernel_rfl) (fun _ _ _ h => h) (Or.inl ⟨by kernel_rfl, ?hy54⟩) (by assumption) ?rest54
          case hy54 => (intro w' hSw; (try dsimp only at hSw); go_simp; try with_reducible rfl)
          try simp only [Act.put, List.getElem_toArray, List.getElem_cons_succ, List.getElem_cons_zero, List.setIfInBounds_toArray, List.set_cons_zero, List.set_cons_succ]
          refine wpAnyH_ready (rs := [20]) (by kernel_rfl) (by simp) ?_
          refine AllReadyH.cons (o := _) rfl (fun K hK => ?_) AllReadyH.nil
          go_simp
          (go_at_call 20; refine (HID.out _ (And.left hHeld)).mono ?_; rintro e wm ⟨rfl, hbm⟩)
          try go_wp2_with fail
          refine hK.out _ _ ?_ (fun hHeld => ?_)
          · (try dsimp only); exact HKS.out _ (Below.next (And.left hHeld) hbm)
          clear hK K
          try simp only [Act.put, List.getElem_toArray, List.getElem_cons_succ, List.getElem_cons_zero, List.setIfInBounds_toArray, List.set_cons_zero, List.set_cons_succ]
          refine wpAnyH_take (i := 21) (oi := _) (v := ?v55) rfl (by kernel_rfl) (by kernel_rfl) (by kernel_rfl) (fun _ _ _ h => h) (Or.inl ⟨by kernel_rfl, ?hy55⟩) (by assumption) ?rest55
          case hy55 => (intro w' hSw; (try dsimp only at hSw); go_simp; try with_reducible rfl)
          try simp only [Act.put, List.getElem_toArray, List.getElem_cons_succ, List.getElem_cons_zero, List.setIfInBounds_toArray, List.set_cons_zero, List.set_cons_succ]
          refine wpAnyH_ready (rs := [23]) (by kernel_rfl) (by simp) ?_
          refine AllReadyH.cons (o := _) rfl (fun K hK => ?_) AllReadyH.nil
          go_simp
          (go_at_call 21; refine (HIS.out _).mono ?_; rintro e wm ⟨rfl, hbm⟩)
          try go_wp2_with fail
          refine hK.out _ _ ?_ (fun hHeld => ?_)
          · (try dsimp only); exact HKS.out _ (Below.next (And.left hHeld) hbm)
          clear hK K
          try simp only [Act.put, List.getElem_toArray, List.getElem_cons_succ, List.getElem_cons_zero, List.setIfInBounds_toArray, List.set_cons_zero, List.set_cons_succ]
          refine wpAnyH_take (i := 24) (oi := _) (v := ?v56) rfl (by kernel_rfl) (by kernel_rfl) (by kernel_rfl) (fun _ _ _ h => h) (Or.inl ⟨by kernel_rfl, ?hy56⟩) (by assumption) ?rest56
          case hy56 => (intro w' hSw; (try dsimp only at hSw); go_simp; try with_reducible rfl)
          try simp only [Act.put, List.getElem_toArray, List.getElem_cons_succ, List.getElem_cons_zero, List.setIfInBounds_toArray, List.set_cons_zero, List.set_cons_succ]
          refine wpAnyH_take (i := 25) (oi := _) (v := .bool true) rfl (by kernel_rfl) (by kernel_rfl) (by kernel_rfl) (fun _ _ _ h => h) (Or.inl ⟨by kernel_rfl, ?hy57⟩) (by assumption) ?rest57
          case hy57 => (intro w' hSw; (try dsimp only at hSw); go_simp; (first | done | simp))
          try simp only [Act.put, List.getElem_toArray, List.getElem_cons_succ, List.getElem_cons_zero, List.setIfInBounds_toArray, List.set_cons_zero, List.set_cons_succ]
          refine wpAnyH_take (i := 26) (oi := _) (v := ?v58) rfl (by kernel_rfl) (by kernel_rfl) (by kernel_rfl) (fun _ _ _ h => h) (Or.inl ⟨by kernel_rfl, ?hy58⟩) (by assumption) ?rest58
          case hy58 => (intro w' hSw; (try dsimp only at hSw); go_simp; try with_reducible rfl)
          try simp only [Act.put, List.getElem_toArray, List.getElem_cons_succ, List.getElem_cons_zero, List.setIfInBounds_toArray, List.set_cons_zero, List.set_cons_succ]
          refine wpAnyH_take (i := 27) (oi := _) (v := ?v59) rfl (by kernel_rfl) (by kernel_rfl) (by kernel_rfl) (fun _ _ _ h => h) (Or.inl ⟨by kernel_rfl, ?hy59⟩) (by assumption) ?rest59
          case hy59 => (intro w' hSw; (try dsimp only at hSw); go_simp; try with_reducible rfl)
          try simp only [Act.put, List.getElem_toArray, List.getElem_cons_succ, List.getElem_cons_zero, List.setIfInBounds_toArray, List.set_cons_zero, List.set_cons_succ]
          refine wpAnyH_done (by kernel_rfl) ?_ _
          have hqe := And.left hHeld
          clear hHeld
          go_wp2_with fail
          go_ret
          exact ⟨rfl, Below.next hb hqe⟩
        · rw [HLW.out rfl] at HZ5
          rw [HLU.out rfl] at HU6
          go_wp2_with fail
          refine wp_region_held_drew (S := fun w' => Below W12.heap.size W12 w' ∧ w'.cell? ⟨b9, 0, none⟩ = some (.int .i64 ch5) ∧ w'.cell? ⟨b9, 1, none⟩ = some (.int .i64 cr5) ∧ w'.cell? ⟨b9, 2, none⟩ = some (.string (S id5)) ∧ w'.cell? ⟨b9, 3, none⟩ = some (.slice A5 l5.length c5) ∧ w'.cell? ⟨b11, 0, none⟩ = some (.int .i64 ch6) ∧ w'.cell? ⟨b11, 1, none⟩ = some (.int .i64 cr6) ∧ w'.cell? ⟨b11, 2, none⟩ = some (.string (S id6)) ∧ w'.cell? ⟨b11, 3, none⟩ = some (.slice A6 l6.length c6) ∧ w'.cell? ⟨b3, 0, none⟩ = some (.int .i64 h1) ∧ w'.cell? ⟨b3, 1, none⟩ = some (.int .i64 t1) ∧ w'.cell? ⟨b3, 2, none⟩ = some (.string (S la1)) ∧ w'.cell? ⟨b3, 3, none⟩ = some (.string (S va1)) ∧ w'.cell? ⟨b3, 4, none⟩ = some (.string (S ne1)) ∧ w'.cell? ⟨b3, 5, none⟩ = some (.string (S da1))) (by kernel_rfl) (by (try dsimp only); exact HKS.out _ hq13.drew) (fun hHeld => ?_)
          refine wpAnyH_take (i := 0) (oi := _) (v := ?v60) rfl (by kernel_rfl) (by kernel_rfl) (by kernel_rfl) (fun _ _ _ h => h) (Or.inl ⟨by kernel_rfl, ?hy60⟩) (by assumption) ?rest60
          case hy60 => (intro w' hSw; (try dsimp only at hSw); go_simp; try with_reducible rfl)
          try simp only [Act.put, List.getElem_toArray, List.getElem_cons_succ, List.getElem_cons_zero, List.setIfInBounds_toArray, List.set_cons_zero, List.set_cons_succ]
          refine wpAnyH_take (i := 1) (oi := _) (v := ?v61) rfl (by kernel_rfl) (by kernel_rfl) (by kernel_rfl) (fun _ _ _ h => h) (Or.inl ⟨by kernel_rfl, ?hy61⟩) (by assumption) ?rest61
          case hy61 => (intro w' hSw; (try dsimp only at hSw); go_simp; try with_reducible rfl)
          try simp only [Act.put, List.getElem_toArray, List.getElem_cons_succ, List.getElem_cons_zero, List.setIfInBounds_toArray, List.set_cons_zero, List.set_cons_succ]
          refine wpAnyH_take (i := 2) (oi := _) (v := ?v62) rfl (by kernel_rfl) (by kernel_rfl) (by kernel_rfl) (fun _ _ _ h => h) (Or.inl ⟨by kernel_rfl, ?hy62⟩) (by assumption) ?rest62
          case hy62 => (intro w' hSw; (try dsimp only at hSw); go_simp; try with_reducible rfl)
          try simp only [Act.put, List.getElem_toArray, List.getElem_cons_succ, List.getElem_cons_zero, List.setIfInBounds_toArray, List.set_cons_zero, List.set_cons_succ]
          refine wpAnyH_take (i := 3) (oi := _) (v := ?v63) rfl (by kernel_rfl) (by kernel_rfl) (by kernel_rfl) (fun _ _ _ h => h) (Or.inl ⟨by kernel_rfl, ?hy63⟩) (by assumption) ?rest63
          case hy63 => (intro w' hSw; (try dsimp only at hSw); go_simp; try with_reducible rfl)
          try simp only [Act.put, List.getElem_toArray, List.getElem_cons_succ, List.getElem_cons_zero, List.setIfInBounds_toArray, List.set_cons_zero, List.set_cons_succ]
          refine wpAnyH_take (i := 5) (oi := _) (v := ?v64) rfl (by kernel_rfl) (by kernel_rfl) (by kernel_rfl) (fun _ _ _ h => h) (Or.inl ⟨by kernel_rfl, ?hy64⟩) (by assumption) ?rest64
          case hy64 => (intro w' hSw; (try dsimp only at hSw); go_simp; try with_reducible rfl)
          try simp only [Act.put, List.getElem_toArray, List.getElem_cons_succ, List.getElem_cons_zero, List.setIfInBounds_toArray, List.set_cons_zero, List.set_cons_succ]
          refine wpAnyH_ready (rs := [4]) (by kernel_rfl) (by simp) ?_
          refine AllReadyH.cons (o := _) rfl (fun K hK => ?_) AllReadyH.nil
          go_simp
          (go_at_call 14; refine (HZ5.out _ (And.left hHeld)).mono ?_; rintro e wm ⟨rfl, hbm⟩)
          try go_wp2_with fail
          refine hK.out _ _ ?_ (fun hHeld => ?_)
          · (try dsimp only); exact HKS.out _ (Below.next (And.left hHeld) hbm)
          clear hK K
          try simp only [Act.put, List.getElem_toArray, List.getElem_cons_succ, List.getElem_cons_zero, List.setIfInBounds_toArray, List.set_cons_zero, List.set_cons_succ]
          refine wpAnyH_take (i := 6) (oi := _) (v := .bool true) rfl (by kernel_rfl) (by kernel_rfl) (by kernel_rfl) (fun _ _ _ h => h) (Or.inl ⟨by kernel_rfl, ?hy65⟩) (by assumption) ?rest65
          case hy65 => (intro w' hSw; (try dsimp only at hSw); go_simp; (first | done | simp))
          try simp only [Act.put, List.getElem_toArray, List.getElem_cons_succ, List.getElem_cons_zero, List.setIfInBounds_toArray, List.set_cons_zero, List.set_cons_succ]
          refine wpAnyH_take (i := 7) (oi := _) (v := ?v66) rfl (by kernel_rfl) (by kernel_rfl) (by kernel_rfl) (fun _ _ _ h => h) (Or.inl ⟨by kernel_rfl, ?hy66⟩) (by assumption) ?rest66
          case hy66 => (intro w' hSw; (try dsimp only at hSw); go_simp; try with_reducible rfl)
          try simp only [Act.put, List.getElem_toArray, List.getElem_cons_succ, List.getElem_cons_zero, List.setIfInBounds_toArray, List.set_cons_zero, List.set_cons_succ]
          refine wpAnyH_take (i := 8) (oi := _) (v := ?v67) rfl (by kernel_rfl) (by kernel_rfl) (by kernel_rfl) (fun _ _ _ h => h) (Or.inl ⟨by kernel_rfl, ?hy67⟩) (by assumption) ?rest67
          case hy67 => (intro w' hSw; (try dsimp only at hSw); go_simp; try with_reducible rfl)
          try simp only [Act.put, List.getElem_toArray, List.getElem_cons_succ, List.getElem_cons_zero, List.setIfInBounds_toArray, List.set_cons_zero, List.set_cons_succ]
          refine wpAnyH_take (i := 9) (oi := _) (v := ?v68) rfl (by kernel_rfl) (by kernel_rfl) (by kernel_rfl) (fun _ _ _ h => h) (Or.inl ⟨by kernel_rfl, ?hy68⟩) (by assumption) ?rest68
          case hy68 => (intro w' hSw; (try dsimp only at hSw); go_simp; try with_reducible rfl)
          try simp only [Act.put, List.getElem_toArray, List.getElem_cons_succ, List.getElem_cons_zero, List.setIfInBounds_toArray, List.set_cons_zero, List.set_cons_succ]
          refine wpAnyH_take (i := 10) (oi := _) (v := ?v69) rfl (by kernel_rfl) (by kernel_rfl) (by kernel_rfl) (fun _ _ _ h => h) (Or.inl ⟨by kernel_rfl, ?hy69⟩) (by assumption) ?rest69
          case hy69 => (intro w' hSw; (try dsimp only at hSw); go_simp; try with_reducible rfl)
          try simp only [Act.put, List.getElem_toArray, List.getElem_cons_succ, List.getElem_cons_zero, List.setIfInBounds_toArray, List.set_cons_zero, List.set_cons_succ]
          refine wpAnyH_take (i := 11) (oi := _) (v := ?v70) rfl (by kernel_rfl) (by kernel_rfl) (by kernel_rfl) (fun _ _ _ h => h) (Or.inl ⟨by kernel_rfl, ?hy70⟩) (by assumption) ?rest70
          case hy70 => (intro w' hSw; (try dsimp only at hSw); go_simp; try with_reducible rfl)
          try simp only [Act.put, List.getElem_toArray, List.getElem_cons_succ, List.getElem_cons_zero, List.setIfInBounds_toArray, List.set_cons_zero, List.set_cons_succ]
          refine wpAnyH_take (i := 12) (oi := _) (v := ?v71) rfl (by kernel_rfl) (by kernel_rfl) (by kernel_rfl) (fun _ _ _ h => h) (Or.inl ⟨by kernel_rfl, ?hy71⟩) (by assumption) ?rest71
          case hy71 => (intro w' hSw; (try dsimp only at hSw); go_simp; try with_reducible rfl)
          try simp only [Act.put, List.getElem_toArray, List.getElem_cons_succ, List.getElem_cons_zero, List.setIfInBounds_toArray, List.set_cons_zero, List.set_cons_succ]
          refine wpAnyH_take (i := 14) (oi := _) (v := ?v72) rfl (by kernel_rfl) (by kernel_rfl) (by kernel_rfl) (fun _ _ _ h => h) (Or.inl ⟨by kernel_rfl, ?hy72⟩) (by assumption) ?rest72
          case hy72 => (intro w' hSw; (try dsimp only at hSw); go_simp; try with_reducible rfl)
          try simp only [Act.put, List.getElem_toArray, List.getElem_cons_succ, List.getElem_cons_zero, List.setIfInBounds_toArray, List.set_cons_zero, List.set_cons_succ]
          refine wpAnyH_ready (rs := [13]) (by kernel_rfl) (by simp) ?_
          refine AllReadyH.cons (o := _) rfl (fun K hK => ?_) AllReadyH.nil
          go_simp
          (go_at_call 14; refine (HU6.out _ (And.left hHeld)).mono ?_; rintro e wm ⟨rfl, hbm⟩)
          try go_wp2_with fail
          refine hK.out _ _ ?_ (fun hHeld => ?_)
          · (try dsimp only); exact HKS.out _ (Below.next (And.left hHeld) hbm)
          clear hK K
          try simp only [Act.put, List.getElem_toArray, List.getElem_cons_succ, List.getElem_cons_zero, List.setIfInBounds_toArray, List.set_cons_zero, List.set_cons_succ]
          refine wpAnyH_take (i := 15) (oi := _) (v := .bool true) rfl (by kernel_rfl) (by kernel_rfl) (by kernel_rfl) (fun _ _ _ h => h) (Or.inl ⟨by kernel_rfl, ?hy73⟩) (by assumption) ?rest73
          case hy73 => (intro w' hSw; (try dsimp only at hSw); go_simp; (first | done | simp))
          try simp only [Act.put, List.getElem_toArray, List.getElem_cons_succ, List.getElem_cons_zero, List.setIfInBounds_toArray, List.set_cons_zero, List.set_cons_succ]
          refine wpAnyH_take (i := 16) (oi := _) (v := ?v74) rfl (by kernel_rfl) (by kernel_rfl) (by kernel_rfl) (fun _ _ _ h => h) (Or.inl ⟨by kernel_rfl, ?hy74⟩) (by assumption) ?rest74
          case hy74 => (intro w' hSw; (try dsimp only at hSw); go_simp; try with_reducible rfl)
          try simp only [Act.put, List.getElem_toArray, List.getElem_cons_succ, List.getElem_cons_zero, List.setIfInBounds_toArray, List.set_cons_zero, List.set_cons_succ]
          refine wpAnyH_take (i := 17) (oi := _) (v := ?v75) rfl (by kernel_rfl) (by kernel_rfl) (by kernel_rfl) (fun _ _ _ h => h) (Or.inl ⟨by kernel_rfl, ?hy75⟩) (by assumption) ?rest75
          case hy75 => (intro w' hSw; (try dsimp only at hSw); go_simp; try with_reducible rfl)
          try simp only [Act.put, List.getElem_toArray, List.getElem_cons_succ, List.getElem_cons_zero, List.setIfInBounds_toArray, List.set_cons_zero, List.set_cons_succ]
          refine wpAnyH_take (i := 18) (oi := _) (v := ?v76) rfl (by kernel_rfl) (by kernel_rfl) (by kernel_rfl) (fun _ _ _ h => h) (Or.inl ⟨by kernel_rfl, ?hy76⟩) (by assumption) ?rest76
          case hy76 => (intro w' hSw; (try dsimp only at hSw); go_simp; try with_reducible rfl)
          try simp only [Act.put, List.getElem_toArray, List.getElem_cons_succ, List.getElem_cons_zero, List.setIfInBounds_toArray, List.set_cons_zero, List.set_cons_succ]
          refine wpAnyH_take (i := 19) (oi := _) (v := ?v77) rfl (by kernel_rfl) (by kernel_rfl) (by kernel_rfl) (fun _ _ _ h => h) (Or.inl ⟨by kernel_rfl, ?hy77⟩) (by assumption) ?rest77
          case hy77 => (intro w' hSw; (try dsimp only at hSw); go_simp; try with_reducible rfl)
          try simp only [Act.put, List.getElem_toArray, List.getElem_cons_succ, List.getElem_cons_zero, List.setIfInBounds_toArray, List.set_cons_zero, List.set_cons_succ]
          refine wpAnyH_take (i := 22) (oi := _) (v := ?v78) rfl (by kernel_rfl) (by kernel_rfl) (by kernel_rfl) (fun _ _ _ h => h) (Or.inl ⟨by kernel_rfl, ?hy78⟩) (by assumption) ?rest78
          case hy78 => (intro w' hSw; (try dsimp only at hSw); go_simp; try with_reducible rfl)
          try simp only [Act.put, List.getElem_toArray, List.getElem_cons_succ, List.getElem_cons_zero, List.setIfInBounds_toArray, List.set_cons_zero, List.set_cons_succ]
          refine wpAnyH_ready (rs := [20]) (by kernel_rfl) (by simp) ?_
          refine AllReadyH.cons (o := _) rfl (fun K hK => ?_) AllReadyH.nil
          go_simp
          (go_at_call 20; refine (HID.out _ (And.left hHeld)).mono ?_; rintro e wm ⟨rfl, hbm⟩)
          try go_wp2_with fail
          refine hK.out _ _ ?_ (fun hHeld => ?_)
          · (try dsimp only); exact HKS.out _ (Below.next (And.left hHeld) hbm)
          clear hK K
          try simp only [Act.put, List.getElem_toArray, List.getElem_cons_succ, List.getElem_cons_zero, List.setIfInBounds_toArray, List.set_cons_zero, List.set_cons_succ]
          refine wpAnyH_take (i := 21) (oi := _) (v := ?v79) rfl (by kernel_rfl) (by kernel_rfl) (by kernel_rfl) (fun _ _ _ h => h) (Or.inl ⟨by kernel_rfl, ?hy79⟩) (by assumption) ?rest79
          case hy79 => (intro w' hSw; (try dsimp only at hSw); go_simp; try with_reducible rfl)
          try simp only [Act.put, List.getElem_toArray, List.getElem_cons_succ, List.getElem_cons_zero, List.setIfInBounds_toArray, List.set_cons_zero, List.set_cons_succ]
          refine wpAnyH_ready (rs := [23]) (by kernel_rfl) (by simp) ?_
          refine AllReadyH.cons (o := _) rfl (fun K hK => ?_) AllReadyH.nil
          go_simp
          (go_at_call 21; refine (HIS.out _).mono ?_; rintro e wm ⟨rfl, hbm⟩)
          try go_wp2_with fail
          refine hK.out _ _ ?_ (fun hHeld => ?_)
          · (try dsimp only); exact HKS.out _ (Below.next (And.left hHeld) hbm)
          clear hK K
          try simp only [Act.put, List.getElem_toArray, List.getElem_cons_succ, List.getElem_cons_zero, List.setIfInBounds_toArray, List.set_cons_zero, List.set_cons_succ]
          refine wpAnyH_take (i := 24) (oi := _) (v := ?v80) rfl (by kernel_rfl) (by kernel_rfl) (by kernel_rfl) (fun _ _ _ h => h) (Or.inl ⟨by kernel_rfl, ?hy80⟩) (by assumption) ?rest80
          case hy80 => (intro w' hSw; (try dsimp only at hSw); go_simp; try with_reducible rfl)
          try simp only [Act.put, List.getElem_toArray, List.getElem_cons_succ, List.getElem_cons_zero, List.setIfInBounds_toArray, List.set_cons_zero, List.set_cons_succ]
          refine wpAnyH_take (i := 25) (oi := _) (v := .bool true) rfl (by kernel_rfl) (by kernel_rfl) (by kernel_rfl) (fun _ _ _ h => h) (Or.inl ⟨by kernel_rfl, ?hy81⟩) (by assumption) ?rest81
          case hy81 => (intro w' hSw; (try dsimp only at hSw); go_simp; (first | done | simp))
          try simp only [Act.put, List.getElem_toArray, List.getElem_cons_succ, List.getElem_cons_zero, List.setIfInBounds_toArray, List.set_cons_zero, List.set_cons_succ]
          refine wpAnyH_take (i := 26) (oi := _) (v := ?v82) rfl (by kernel_rfl) (by kernel_rfl) (by kernel_rfl) (fun _ _ _ h => h) (Or.inl ⟨by kernel_rfl, ?hy82⟩) (by assumption) ?rest82
          case hy82 => (intro w' hSw; (try dsimp only at hSw); go_simp; try with_reducible rfl)
          try simp only [Act.put, List.getElem_toArray, List.getElem_cons_succ, List.getElem_cons_zero, List.setIfInBounds_toArray, List.set_cons_zero, List.set_cons_succ]
          refine wpAnyH_take (i := 27) (oi := _) (v := ?v83) rfl (by kernel_rfl) (by kernel_rfl) (by kernel_rfl) (fun _ _ _ h => h) (Or.inl ⟨by kernel_rfl, ?hy83⟩) (by assumption) ?rest83
          case hy83 => (intro w' hSw; (try dsimp only at hSw); go_simp; try with_reducible rfl)
          try simp only [Act.put, List.getElem_toArray, List.getElem_cons_succ, List.getElem_cons_zero, List.setIfInBounds_toArray, List.set_cons_zero, List.set_cons_succ]
          refine wpAnyH_done (by kernel_rfl) ?_ _
          have hqe := And.left hHeld
          clear hHeld
          go_wp2_with fail
          go_ret
          exact ⟨rfl, Below.next hb hqe⟩
  · have hbig : decide (1048576 < l.length) = true := by simp; omega
    go_enter Tryd.func3, Tryd.ntmps3
    go_wp2_with fail
    refine (big_any _ _ _ _ hl).mono ?_
    rintro e w' ⟨rfl, hw⟩
    have hw := hw.symm
    subst hw
    rw [hbig]
    go_wp2
    go_ret
    exact ⟨rfl, hb⟩
end Go.Proofs.YtecimgkgdpnaeaaDoor.fnHeaders
