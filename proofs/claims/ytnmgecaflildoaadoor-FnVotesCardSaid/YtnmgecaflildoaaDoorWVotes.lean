/-
  The law FnVotes: the walk.
-/
import Derived.Test.YtnmgecaflildoaaDoorDrV2
import Derived.Test.YtnmgecaflildoaaDoorBig1
import Derived.Test.YtnmgecaflildoaaDoorSig1
namespace Go.Proofs.YtnmgecaflildoaaDoor.fnVotes
open Go.ChangeShapes Go.WideShapes Go.ChangeAt Go.RowKit
set_option linter.unusedVariables false
set_option maxRecDepth 100000

theorem votes_facts (x : VoteT) (sg : List UInt8) (h : signedB x sg = true) : sg = signAsS x.v (digestS x) ∧ signedB x (sg ++ [120]) = false ∧ 0 ≤ x.r ∧ x.r ≤ 1000 ∧ 1 ≤ x.v ∧ x.v ≤ 99 := by
  unfold signedB at h
  rw [Bool.and_eq_true] at h
  obtain ⟨hok, hs⟩ := h
  have hs' : sg = signAsS x.v (digestS x) := by simpa using hs
  refine ⟨hs', ?_, ?_⟩
  · unfold signedB
    have hne : ¬ sg ++ [120] = signAsS x.v (digestS x) := by
      rw [← hs']
      intro e
      have := congrArg List.length e
      simp at this
    rw [show (sg ++ [120] == signAsS x.v (digestS x)) = false from by simpa using hne]
    simp
  · unfold voteOkB at hok
    simp only [Bool.and_eq_true] at hok
    obtain ⟨⟨⟨⟨h1, h2⟩, h3⟩, h4⟩, h5⟩ := hok
    have a1 := inB_true h2
    have a2 := inB_true h5
    omega

theorem iSigned_flat (h r s : Int) (id : List UInt8) (v : Int) (sg : List UInt8) (W : World) (hid : id.length ≤ 9) (hk : HasK W) :
    Calls Tryd.prog 7 #[.agg #[.int .i64 h, .int .i64 r, .int .i64 s, .string (S id), .int .i64 v], .string (S sg)] W fun e w' => e = .returned (.bool (signedB ⟨h, r, s, id, v⟩ sg)) ∧ Below W.heap.size W w' := iSigned_any ⟨h, r, s, id, v⟩ sg W (by simp only; omega) hk
theorem sSigned_flat (h r s : Int) (id : List UInt8) (v : Int) (sg : List UInt8) (W : World) (hid : id.length ≤ 9) :
    Calls Tryd.prog 8 #[.agg #[.int .i64 h, .int .i64 r, .int .i64 s, .string (S id), .int .i64 v], .string (S sg)] W fun e w' => e = .returned (.bool (signedB ⟨h, r, s, id, v⟩ sg)) ∧ Below W.heap.size W w' := sSigned_any ⟨h, r, s, id, v⟩ sg W (by simp only; omega)
theorem iDigest_flat (h r s : Int) (id : List UInt8) (v : Int) (W : World) (hid : id.length ≤ 9) :
    Calls Tryd.prog 10 #[.agg #[.int .i64 h, .int .i64 r, .int .i64 s, .string (S id), .int .i64 v]] W fun e w' => e = .returned (.string (S (digestS ⟨h, r, s, id, v⟩))) ∧ Below W.heap.size W w' := iDigest_any ⟨h, r, s, id, v⟩ W (by simp only; omega)
theorem votes_keep {w cur wm : World} {V VA VB : Nat} {u0 u1 u2 u3 u4 a0 a1 a2 a3 a4 b0 b1 b2 b3 b4 : Value}
    (H : (Below w.heap.size w cur ∧ H5 cur V u0 u1 u2 u3 u4 ∧ H5 cur VA a0 a1 a2 a3 a4 ∧ H5 cur VB b0 b1 b2 b3 b4)) (hb : Below cur.heap.size cur wm) :
    (Below w.heap.size w wm ∧ H5 wm V u0 u1 u2 u3 u4 ∧ H5 wm VA a0 a1 a2 a3 a4 ∧ H5 wm VB b0 b1 b2 b3 b4) ∧ V < wm.heap.size ∧ wm.cell? ⟨V, 0, none⟩ = some u0 ∧ wm.cell? ⟨V, 1, none⟩ = some u1 ∧ wm.cell? ⟨V, 2, none⟩ = some u2 ∧ wm.cell? ⟨V, 3, none⟩ = some u3 ∧ wm.cell? ⟨V, 4, none⟩ = some u4 ∧
      VA < wm.heap.size ∧ wm.cell? ⟨VA, 0, none⟩ = some a0 ∧ wm.cell? ⟨VA, 1, none⟩ = some a1 ∧ wm.cell? ⟨VA, 2, none⟩ = some a2 ∧ wm.cell? ⟨VA, 3, none⟩ = some a3 ∧ wm.cell? ⟨VA, 4, none⟩ = some a4 ∧
      VB < wm.heap.size ∧ wm.cell? ⟨VB, 0, none⟩ = some b0 ∧ wm.cell? ⟨VB, 1, none⟩ = some b1 ∧ wm.cell? ⟨VB, 2, none⟩ = some b2 ∧ wm.cell? ⟨VB, 3, none⟩ = some b3 ∧ wm.cell? ⟨VB, 4, none⟩ = some b4 := by
  obtain ⟨h1, h2, h3, h4⟩ := H
  have k2 := h2.next hb
  have k3 := h3.next hb
  have k4 := h4.next hb
  exact ⟨⟨Below.next h1 hb, k2, k3, k4⟩, k2.1, k2.2.1, k2.2.2.1, k2.2.2.2.1, k2.2.2.2.2.1, k2.2.2.2.2.2.1, k3.1, k3.2.1, k3.2.2.1, k3.2.2.2.1, k3.2.2.2.2.1, k3.2.2.2.2.2.1, k4.1, k4.2.1, k4.2.2.1, k4.2.2.2.1, k4.2.2.2.2.1, k4.2.2.2.2.2.1⟩

set_option maxHeartbeats 2000000 in
theorem walk (A : Option Addr) (c : Nat) (l : List UInt8) (w : World) (hl : l.length ≤ 9223372036854775807) (hR : BReads w w.heap.size A l) (hK : HasK w) :
    Calls Tryd.prog 3 #[.slice A l.length c] w fun e w' => e = .returned (.bool true) ∧ Below w.heap.size w w' := by
  have hb := Below.refl w.heap.size w
  by_cases h : l.length ≤ 1048576
  · have hbig : decide (1048576 < l.length) = false := by simp; omega
    have HD := Lib.hid (drawSigned_in ⟨A, c, l⟩ w h hR)
    have HK := Lib.hid hK
    have HI := Lib.hid fun (W : World) (h r s : Int) (id : List UInt8) (v : Int) (sg : List UInt8) (hid : id.length ≤ 9) (hk : HasK W) => iSigned_flat h r s id v sg W hid hk
    have HS := Lib.hid fun (W : World) (h r s : Int) (id : List UInt8) (v : Int) (sg : List UInt8) (hid : id.length ≤ 9) => sSigned_flat h r s id v sg W hid
    clear hK hR
    go_enter Tryd.func3, Tryd.ntmps3
    go_wp2_with fail
    refine (big_any _ _ _ _ hl).mono ?_
    rintro e w' ⟨rfl, hw⟩
    have hw := hw.symm
    subst hw
    rw [hbig]
    go_wp2_with fail
    refine HD.out.mono ?_
    rintro e w1 ⟨h1, r, s, id, v, sg, rfl, hid, hsg, b1⟩
    have hz1 := b1.size
    clear HD
    go_wp2_with fail
    have hV1 := H5.new w1 25 (.int .i64 h1) (.int .i64 r) (.int .i64 s) (.string (S id)) (.int .i64 v)
    have hb1 := b1.alloc hz1 (.cells #[.int .i64 h1, .int .i64 r, .int .i64 s, .string (S id), .int .i64 v] 25)
    generalize w1.alloc (.cells #[.int .i64 h1, .int .i64 r, .int .i64 s, .string (S id), .int .i64 v] 25) = W1 at *
    generalize w1.heap.size = V at *
    clear b1
    refine (HI.out _ h1 r s id v sg hid (HK.out.to hb1)).mono ?_
    rintro e w2 ⟨rfl, b2⟩
    have hV2 := hV1.next b2
    have hb2 := Below.next hb1 b2
    clear hV1 hb1 b2
    have FACTS := Lib.hid (votes_facts ⟨h1, r, s, id, v⟩ sg)
    have HSv := Lib.hid fun (W : World) => HS.out W h1 r s id v sg hid
    generalize hsb : signedB ⟨h1, r, s, id, v⟩ sg = z at *
    obtain ⟨hVl, v0, v1, v2, v3, v4, vf⟩ := _root_.id hV2
    go_wp2_with fail
    refine (HSv.out _).mono ?_
    rintro e w3 ⟨rfl, b3⟩
    have hV3 := hV2.next b3
    have hb3 := Below.next hb2 b3
    have hz3 := hb3.size
    clear hV2 hb2 b3 hVl v0 v1 v2 v3 v4 vf HSv
    obtain ⟨hVl, v0, v1, v2, v3, v4, vf⟩ := _root_.id hV3
    cases z
    · go_wp2_with fail
      go_region
      go_wp2
      go_ret
      refine ⟨rfl, ?_⟩
      (repeat (first | with_reducible exact hb3 | with_reducible refine Below.drew ?_ | with_reducible refine Below.setCell ?_ (by first | omega | (simp <;> omega)) _ | with_reducible refine Below.alloc ?_ (by first | omega | (simp <;> omega)) _))
    · obtain ⟨hsg', hx, hr0, hr1, hv0, hv1⟩ := FACTS.out rfl
      replace hsg' : sg = signAsS v (digestS ⟨h1, r, s, id, v⟩) := hsg'
      have hm : v.tmod 99 = v % 99 := Int.tmod_eq_emod_of_nonneg (by omega)
      have HIa := Lib.hid fun (W : World) (hk : HasK W) => HI.out W h1 (r + 1) s id v sg hid hk
      have HSa := Lib.hid fun (W : World) => HS.out W h1 (r + 1) s id v sg hid
      have HIb := Lib.hid fun (W : World) (hk : HasK W) => HI.out W h1 r s id (1 + v % 99) sg hid hk
      have HSb := Lib.hid fun (W : World) => HS.out W h1 r s id (1 + v % 99) sg hid
      have HIx := Lib.hid fun (W : World) (hk : HasK W) => HI.out W h1 r s id v (sg ++ [120]) hid hk
      have HDG := Lib.hid fun (W : World) => iDigest_flat h1 r s id v W hid
      have hdl := digestS_len ⟨h1, r, s, id, v⟩
      have HSG := Lib.hid fun (W : World) (hk : HasK W) => iSignAs_any v (digestS ⟨h1, r, s, id, v⟩) W (by omega) hk
      rw [hx] at HIx
      have e120 : S (sg ++ [120]) = S sg ++ ⟨#[120]⟩ := by rw [show (⟨#[120]⟩ : ByteArray) = S [120] from rfl]; simp
      rw [e120] at HIx
      generalize signedB ⟨h1, r + 1, s, id, v⟩ sg = za at *
      generalize signedB ⟨h1, r, s, id, 1 + v % 99⟩ sg = zb at *
      generalize digestS ⟨h1, r, s, id, v⟩ = d at *
      generalize hgg : signAsS v d = g at *
      subst hsg'
      have m1 := fun W : World => run_string_add_sum (P := Tryd.prog) W (S sg) ⟨#[120]⟩ (by rw [show (⟨#[120]⟩ : ByteArray) = S [120] from rfl]; simp; omega)
      clear hx hgg FACTS HI HS hdl
      go_wp2_with fail
      have hVA := H5.new w3 25 (.int .i64 h1) (.int .i64 (r + 1)) (.int .i64 s) (.string (S id)) (.int .i64 (v))
      have hV4 := hV3.alloc (.cells #[.int .i64 h1, .int .i64 (r + 1), .int .i64 s, .string (S id), .int .i64 (v)] 25)
      have hb4 := hb3.alloc hz3 (.cells #[.int .i64 h1, .int .i64 (r + 1), .int .i64 s, .string (S id), .int .i64 (v)] 25)
      have hz4 : (w3.alloc (.cells #[.int .i64 h1, .int .i64 (r + 1), .int .i64 s, .string (S id), .int .i64 (v)] 25)).heap.size = w3.heap.size + 1 := by simp
      generalize w3.alloc (.cells #[.int .i64 h1, .int .i64 (r + 1), .int .i64 s, .string (S id), .int .i64 (v)] 25) = W4 at *
      have hVB := H5.new W4 25 (.int .i64 h1) (.int .i64 (r)) (.int .i64 s) (.string (S id)) (.int .i64 (1 + v % 99))
      rw [hz4] at hVB
      have hVA' := hVA.alloc (.cells #[.int .i64 h1, .int .i64 (r), .int .i64 s, .string (S id), .int .i64 (1 + v % 99)] 25)
      have hV5 := hV4.alloc (.cells #[.int .i64 h1, .int .i64 (r), .int .i64 s, .string (S id), .int .i64 (1 + v % 99)] 25)
      have hb5 := hb4.alloc (by omega) (.cells #[.int .i64 h1, .int .i64 (r), .int .i64 s, .string (S id), .int .i64 (1 + v % 99)] 25)
      generalize W4.alloc (.cells #[.int .i64 h1, .int .i64 (r), .int .i64 s, .string (S id), .int .i64 (1 + v % 99)] 25) = W5 at *
      generalize w3.heap.size + 1 = VB at *
      generalize w3.heap.size = VA at *
      have hC := votes_keep ⟨hb5, hV5, hVA', hVB⟩ (Below.refl _ W5)
      have hC' : (Below w.heap.size w W5.drew ∧ H5 W5.drew V (.int .i64 h1) (.int .i64 (r)) (.int .i64 s) (.string (S id)) (.int .i64 (v)) ∧ H5 W5.drew VA (.int .i64 h1) (.int .i64 (r + 1)) (.int .i64 s) (.string (S id)) (.int .i64 (v)) ∧ H5 W5.drew VB (.int .i64 h1) (.int .i64 (r)) (.int .i64 s) (.string (S id)) (.int .i64 (1 + v % 99))) ∧ V < W5.drew.heap.size ∧ W5.drew.cell? ⟨V, 0, none⟩ = some (.int .i64 h1) ∧ W5.drew.cell? ⟨V, 1, none⟩ = some (.int .i64 (r)) ∧ W5.drew.cell? ⟨V, 2, none⟩ = some (.int .i64 s) ∧ W5.drew.cell? ⟨V, 3, none⟩ = some (.string (S id)) ∧ W5.drew.cell? ⟨V, 4, none⟩ = some (.int .i64 (v)) ∧ VA < W5.drew.heap.size ∧ W5.drew.cell? ⟨VA, 0, none⟩ = some (.int .i64 h1) ∧ W5.drew.cell? ⟨VA, 1, none⟩ = some (.int .i64 (r + 1)) ∧ W5.drew.cell? ⟨VA, 2, none⟩ = some (.int .i64 s) ∧ W5.drew.cell? ⟨VA, 3, none⟩ = some (.string (S id)) ∧ W5.drew.cell? ⟨VA, 4, none⟩ = some (.int .i64 (v)) ∧ VB < W5.drew.heap.size ∧ W5.drew.cell? ⟨VB, 0, none⟩ = some (.int .i64 h1) ∧ W5.drew.cell? ⟨VB, 1, none⟩ = some (.int .i64 (r)) ∧ W5.drew.cell? ⟨VB, 2, none⟩ = some (.int .i64 s) ∧ W5.drew.cell? ⟨VB, 3, none⟩ = some (.string (S id)) ∧ W5.drew.cell? ⟨VB, 4, none⟩ = some (.int .i64 (1 + v % 99)) := ⟨⟨hC.1.1.drew, hC.1.2.1.drew, hC.1.2.2.1.drew, hC.1.2.2.2.drew⟩, hC.2⟩
      clear hVl v0 v1 v2 v3 v4 vf hV3 hb3 hVA hV4 hb4 hz4 hVB hVA' hV5 hb5
      go_region_held3 (fun w' => (Below w.heap.size w w' ∧ H5 w' V (.int .i64 h1) (.int .i64 (r)) (.int .i64 s) (.string (S id)) (.int .i64 (v)) ∧ H5 w' VA (.int .i64 h1) (.int .i64 (r + 1)) (.int .i64 s) (.string (S id)) (.int .i64 (v)) ∧ H5 w' VB (.int .i64 h1) (.int .i64 (r)) (.int .i64 s) (.string (S id)) (.int .i64 (1 + v % 99))) ∧ V < w'.heap.size ∧ w'.cell? ⟨V, 0, none⟩ = some (.int .i64 h1) ∧ w'.cell? ⟨V, 1, none⟩ = some (.int .i64 (r)) ∧ w'.cell? ⟨V, 2, none⟩ = some (.int .i64 s) ∧ w'.cell? ⟨V, 3, none⟩ = some (.string (S id)) ∧ w'.cell? ⟨V, 4, none⟩ = some (.int .i64 (v)) ∧ VA < w'.heap.size ∧ w'.cell? ⟨VA, 0, none⟩ = some (.int .i64 h1) ∧ w'.cell? ⟨VA, 1, none⟩ = some (.int .i64 (r + 1)) ∧ w'.cell? ⟨VA, 2, none⟩ = some (.int .i64 s) ∧ w'.cell? ⟨VA, 3, none⟩ = some (.string (S id)) ∧ w'.cell? ⟨VA, 4, none⟩ = some (.int .i64 (v)) ∧ VB < w'.heap.size ∧ w'.cell? ⟨VB, 0, none⟩ = some (.int .i64 h1) ∧ w'.cell? ⟨VB, 1, none⟩ = some (.int .i64 (r)) ∧ w'.cell? ⟨VB, 2, none⟩ = some (.int .i64 s) ∧ w'.cell? ⟨VB, 3, none⟩ = some (.string (S id)) ∧ w'.cell? ⟨VB, 4, none⟩ = some (.int .i64 (1 + v % 99))) (first | exact hC' | exact votes_keep (And.left (by assumption)) hbm | go_keep)
        (first | (go_at_call 7; first | (with_reducible refine (HIa.out _ (HK.out.to (And.left (And.left (by assumption))))).mono ?_; rintro e wm ⟨rfl, hbm⟩) | (with_reducible refine (HIb.out _ (HK.out.to (And.left (And.left (by assumption))))).mono ?_; rintro e wm ⟨rfl, hbm⟩) | (with_reducible refine (HIx.out _ (HK.out.to (And.left (And.left (by assumption))))).mono ?_; rintro e wm ⟨rfl, hbm⟩)) | (go_at_call 8; first | (with_reducible refine (HSa.out _).mono ?_; rintro e wm ⟨rfl, hbm⟩) | (with_reducible refine (HSb.out _).mono ?_; rintro e wm ⟨rfl, hbm⟩)) | (go_at_call 10; refine (HDG.out _).mono ?_; rintro e wm ⟨rfl, hbm⟩) | (go_at_call 9; refine (HSG.out _ (HK.out.to (And.left (And.left (by assumption))))).mono ?_; rintro e wm ⟨rfl, hbm⟩))
      all_goals
        have hbx : Below w.heap.size w wm := by apply And.left; apply And.left; assumption
        go_wp2
        go_ret
        exact ⟨rfl, hbx⟩
  · have hbig : decide (1048576 < l.length) = true := by simp; omega
    go_enter Tryd.func3, Tryd.ntmps3
    go_wp2_with fail
    refine (big_any _ _ _ _ hl).mono ?_
    rintro e w' ⟨rfl, hw⟩
    have hw := hw.symm
    subst hw
    rw [hbig]
    go_wp2
    go_ret
    exact ⟨rfl, hb⟩
end Go.Proofs.YtnmgecaflildoaaDoor.fnVotes
