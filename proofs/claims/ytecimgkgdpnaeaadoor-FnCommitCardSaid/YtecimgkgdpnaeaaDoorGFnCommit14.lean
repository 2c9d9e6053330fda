/-
  Texts of this proof, laid into one: Com1, Com2.
-/
import Derived.Test.YtecimgkgdpnaeaaDoorGFnCommit12
import Derived.Test.YtecimgkgdpnaeaaDoorGFnCommit7
import Derived.Test.YtecimgkgdpnaeaaDoorGFnCommit13
/-
  ShowCommit: both sides.
-/
namespace Go.Proofs.YtecimgkgdpnaeaaDoor
open Go.ChangeShapes Go.WideShapes Go.ChangeAt Go.RowKit
set_option linter.unusedVariables false
set_option linter.unusedSimpArgs false
set_option maxRecDepth 100000

theorem l9Vote_any (h r v : Int) (id : List UInt8) (A : Option Addr) (n c : Nat) (w : World) :
    Calls Tryd.prog 60 #[.agg #[.int .i64 h, .int .i64 r, .string (S id), .slice A n c], .int .i64 v] w fun e w' => e = .returned (VoteT.val ⟨h, r, 2, id, v⟩) ∧ Below w.heap.size w w' := by
  have hb := Below.refl w.heap.size w
  have hv : VoteT.val ⟨h, r, 2, id, v⟩ = .agg #[.int .i64 h, .int .i64 r, .int .i64 2, .string (S id), .int .i64 v] := rfl
  rw [hv]
  go_enter Tryd.func60, Tryd.ntmps60
  go_wp2
  refine bodyPost_ret (v := .agg #[.int .i64 h, .int .i64 r, .int .i64 2, .string (S id), .int .i64 v]) (by simp [results, Tryd.results60, go_sem]) rfl ⟨rfl, ?_⟩
  exact (by repeat (first | with_reducible exact hb | with_reducible exact Below.refl _ _ | refine Below.drew ?_ | refine Below.setCell ?_ (by simp <;> omega) _ | refine Below.alloc ?_ (by simp <;> omega) _))
theorem heldC4 {w cur wm : World} {B : Nat} {u0 u1 u2 u3 : Value}
    (H : Below w.heap.size w cur ∧ B < cur.heap.size ∧ cur.cell? ⟨B, 0, none⟩ = some u0 ∧ cur.cell? ⟨B, 1, none⟩ = some u1 ∧ cur.cell? ⟨B, 2, none⟩ = some u2 ∧ cur.cell? ⟨B, 3, none⟩ = some u3) (hb : Below cur.heap.size cur wm) :
    Below w.heap.size w wm ∧ B < wm.heap.size ∧ wm.cell? ⟨B, 0, none⟩ = some u0 ∧ wm.cell? ⟨B, 1, none⟩ = some u1 ∧ wm.cell? ⟨B, 2, none⟩ = some u2 ∧ wm.cell? ⟨B, 3, none⟩ = some u3 := by
  obtain ⟨h1, h2, c0, c1, c2, c3⟩ := H
  have k : ∀ i, wm.cell? ⟨B, i, none⟩ = cur.cell? ⟨B, i, none⟩ := fun i => hb.cell (p := ⟨B, i, none⟩) h2
  exact ⟨Below.next h1 hb, Nat.lt_of_lt_of_le h2 hb.size, (k 0).trans c0, (k 1).trans c1, (k 2).trans c2, (k 3).trans c3⟩
theorem sigs_bad {l : List SigT} {k : Nat} (hk : k < l.length) (h : sigOk l[k] = false) : l.all sigOk = false := by
  cases ha : l.all sigOk
  · rfl
  · have := List.all_eq_true.1 ha l[k] (List.getElem_mem hk)
    rw [h] at this; cases this
theorem sigs_next {l : List SigT} {k : Nat} (hk : k < l.length) (h : sigOk l[k] = true) (ha : ∀ s ∈ l.take k, sigOk s = true) : ∀ s ∈ l.take (k + 1), sigOk s = true := by
  intro s hs
  rw [List.take_succ_eq_append_getElem hk] at hs
  rcases List.mem_append.1 hs with hs | hs
  · exact ha s hs
  · rw [List.mem_singleton.1 hs]; exact h
theorem showCom_no {x : CommitT} (h : headC x = false) : showCommitS x = [] := by unfold showCommitS; rw [if_neg (by rw [h]; simp)]
theorem showCom_bad {x : CommitT} (h : x.sigs.all sigOk = false) : showCommitS x = [] := by unfold showCommitS; rw [if_neg (by rw [h]; simp)]


theorem iShowCommit_no (h r : Int) (id : List UInt8) (l : List SigT) (A : Option Addr) (c : Nat) (w : World) (hid : id.length ≤ 9223372036854775807) (hn : l.length ≤ 9223372036854775807) (hR : SReads w w.heap.size A l) (hh : headC ⟨h, r, id, l⟩ = false) :
    Calls Tryd.prog 14 #[.agg #[.int .i64 h, .int .i64 r, .string (S id), .slice A l.length c]] w fun e w' => e = .returned (.string (S (showCommitS ⟨h, r, id, l⟩))) ∧ Below w.heap.size w w' := by
  have HV := Lib.hid (showCom_no hh)
  have hb := Below.refl w.heap.size w
  clear hR
  cases h0 : inB h 1 1000000
  · clear hh
    go_enter Tryd.func14, Tryd.ntmps14
    go_wp2_with (first | (go_at_call 54; refine (isHeight_b _ _).mono ?_; rintro e w' ⟨rfl, rfl⟩) | (go_at_call 55; refine (within_b _ _ _ _).mono ?_; rintro e w' ⟨rfl, rfl⟩) | (go_at_call 56; refine (isId_b _ _ hid).mono ?_; rintro e w' ⟨rfl, rfl⟩))
    go_ret
    exact ⟨ret_string (by rw [HV.out]; rfl), (by repeat (first | with_reducible exact hb | with_reducible exact Below.refl _ _ | refine Below.drew ?_ | refine Below.setCell ?_ (by simp <;> omega) _ | refine Below.alloc ?_ (by simp <;> omega) _))⟩
  · skip
    cases h1 : inB r 0 1000
    · clear hh
      go_enter Tryd.func14, Tryd.ntmps14
      go_wp2_with (first | (go_at_call 54; refine (isHeight_b _ _).mono ?_; rintro e w' ⟨rfl, rfl⟩) | (go_at_call 55; refine (within_b _ _ _ _).mono ?_; rintro e w' ⟨rfl, rfl⟩) | (go_at_call 56; refine (isId_b _ _ hid).mono ?_; rintro e w' ⟨rfl, rfl⟩))
      go_ret
      exact ⟨ret_string (by rw [HV.out]; rfl), (by repeat (first | with_reducible exact hb | with_reducible exact Below.refl _ _ | refine Below.drew ?_ | refine Below.setCell ?_ (by simp <;> omega) _ | refine Below.alloc ?_ (by simp <;> omega) _))⟩
    · skip
      cases h2 : isIdB id
      · clear hh
        go_enter Tryd.func14, Tryd.ntmps14
        go_wp2_with (first | (go_at_call 54; refine (isHeight_b _ _).mono ?_; rintro e w' ⟨rfl, rfl⟩) | (go_at_call 55; refine (within_b _ _ _ _).mono ?_; rintro e w' ⟨rfl, rfl⟩) | (go_at_call 56; refine (isId_b _ _ hid).mono ?_; rintro e w' ⟨rfl, rfl⟩))
        go_ret
        exact ⟨ret_string (by rw [HV.out]; rfl), (by repeat (first | with_reducible exact hb | with_reducible exact Below.refl _ _ | refine Below.drew ?_ | refine Below.setCell ?_ (by simp <;> omega) _ | refine Below.alloc ?_ (by simp <;> omega) _))⟩
      · skip
        have h12 : 12 < (l.length : Int) := by
          unfold headC at hh
          simp only [h0, h1, h2, Bool.true_and, decide_eq_false_iff_not] at hh
          omega
        clear hh
        go_enter Tryd.func14, Tryd.ntmps14
        go_wp2_with (first | (go_at_call 54; refine (isHeight_b _ _).mono ?_; rintro e w' ⟨rfl, rfl⟩) | (go_at_call 55; refine (within_b _ _ _ _).mono ?_; rintro e w' ⟨rfl, rfl⟩) | (go_at_call 56; refine (isId_b _ _ hid).mono ?_; rintro e w' ⟨rfl, rfl⟩))
        go_ret
        exact ⟨ret_string (by rw [HV.out]; rfl), (by repeat (first | with_reducible exact hb | with_reducible exact Below.refl _ _ | refine Below.drew ?_ | refine Below.setCell ?_ (by simp <;> omega) _ | refine Below.alloc ?_ (by simp <;> omega) _))⟩

set_option maxHeartbeats 4000000 in
theorem iShowCommit_yes (h r : Int) (id : List UInt8) (l : List SigT) (A : Option Addr) (c : Nat) (w : World) (hid : id.length ≤ 9223372036854775807) (hn : l.length ≤ 9223372036854775807) (hR : SReads w w.heap.size A l) (hsl : ∀ s ∈ l, s.sig.length ≤ 9223372036854775807) (hh : headC ⟨h, r, id, l⟩ = true) :
    Calls Tryd.prog 14 #[.agg #[.int .i64 h, .int .i64 r, .string (S id), .slice A l.length c]] w fun e w' => e = .returned (.string (S (showCommitS ⟨h, r, id, l⟩))) ∧ Below w.heap.size w w' := by
  have HR := Lib.hid hR
  have HSL := Lib.hid hsl
  have HOK : Hid (l.all sigOk = true → showCommitS ⟨h, r, id, l⟩ = varS h ++ varS r ++ sizedS id ++ varS (l.length : Int) ++ l.flatMap showSig) := fun ha => by unfold showCommitS; rw [if_pos ⟨hh, ha⟩]
  have HNO : Hid (l.all sigOk = false → showCommitS ⟨h, r, id, l⟩ = []) := fun ha => showCom_bad ha
  clear hR hsl
  have hb := Below.refl w.heap.size w
  unfold headC at hh
  simp only [Bool.and_eq_true, decide_eq_true_eq] at hh
  obtain ⟨⟨⟨h0, h1⟩, h2⟩, h12⟩ := hh
  have h12' : (l.length : Int) ≤ 12 := by omega
  have hidl : id.length ≤ 8 := by
    have := h2
    unfold isIdB at this
    simp only [Bool.or_eq_true, beq_iff_eq] at this
    omega
  have q0 := varS_len h
  have q1 := varS_len r
  have q2 := sized_len8 id
  have q3 := varS_len (l.length : Int)
  have HZ := Lib.hid fun (W : World) => sized_any id W (by omega)
  have m1 := fun W : World => run_string_add_sum (P := Tryd.prog) W (S (varS h)) (S (varS r)) (by simp; omega)
  have m2 := fun W : World => run_string_add_sum (P := Tryd.prog) W (S (varS h ++ varS r)) (S (sizedS id)) (by simp; omega)
  have m3 := fun W : World => run_string_add_sum (P := Tryd.prog) W (S (varS h ++ (varS r ++ sizedS id))) (S (varS (l.length : Int))) (by simp; omega)
  have hS0 : Below w.heap.size w ((w.alloc (.cells #[.int .i64 h, .int .i64 r, .string (S id), .slice A l.length c] 33)).drew) ∧ w.heap.size < ((w.alloc (.cells #[.int .i64 h, .int .i64 r, .string (S id), .slice A l.length c] 33)).drew).heap.size ∧ ((w.alloc (.cells #[.int .i64 h, .int .i64 r, .string (S id), .slice A l.length c] 33)).drew).cell? ⟨w.heap.size, 0, none⟩ = some (.int .i64 h) ∧ ((w.alloc (.cells #[.int .i64 h, .int .i64 r, .string (S id), .slice A l.length c] 33)).drew).cell? ⟨w.heap.size, 1, none⟩ = some (.int .i64 r) ∧ ((w.alloc (.cells #[.int .i64 h, .int .i64 r, .string (S id), .slice A l.length c] 33)).drew).cell? ⟨w.heap.size, 2, none⟩ = some (.string (S id)) ∧ ((w.alloc (.cells #[.int .i64 h, .int .i64 r, .string (S id), .slice A l.length c] 33)).drew).cell? ⟨w.heap.size, 3, none⟩ = some (.slice A l.length c) :=
    ⟨((Below.refl _ _).alloc (Nat.le_refl _) _).drew, by simp, by go_simp, by go_simp, by go_simp, by go_simp⟩
  have HS0 := Lib.hid hS0
  clear hS0
  go_enter Tryd.func14, Tryd.ntmps14
  go_wp2_with (first | (go_at_call 54; refine (isHeight_b _ _).mono ?_; rintro e w' ⟨rfl, rfl⟩) | (go_at_call 55; refine (within_b _ _ _ _).mono ?_; rintro e w' ⟨rfl, rfl⟩) | (go_at_call 56; refine (isId_b _ _ hid).mono ?_; rintro e w' ⟨rfl, rfl⟩))
  go_region_held3 (fun w' => Below w.heap.size w w' ∧ w.heap.size < w'.heap.size ∧ w'.cell? ⟨w.heap.size, 0, none⟩ = some (.int .i64 h) ∧ w'.cell? ⟨w.heap.size, 1, none⟩ = some (.int .i64 r) ∧ w'.cell? ⟨w.heap.size, 2, none⟩ = some (.string (S id)) ∧ w'.cell? ⟨w.heap.size, 3, none⟩ = some (.slice A l.length c)) (first | exact HS0.out | assumption | exact heldC4 HS0.out hbm | exact heldC4 (by assumption) hbm | go_keep)
    (first | (go_at_call 46; refine (iVar_any _ _).mono ?_; rintro e wm ⟨rfl, hbm⟩) | (go_at_call 47; refine (HZ.out _).mono ?_; rintro e wm ⟨rfl, hbm⟩))
  all_goals
    have hb : Below w.heap.size w wm := by apply And.left; assumption
    have hW : w.heap.size < wm.heap.size ∧ wm.cell? ⟨w.heap.size, 0, none⟩ = some (.int .i64 h) ∧ wm.cell? ⟨w.heap.size, 1, none⟩ = some (.int .i64 r) ∧ wm.cell? ⟨w.heap.size, 2, none⟩ = some (.string (S id)) ∧ wm.cell? ⟨w.heap.size, 3, none⟩ = some (.slice A l.length c) := by apply And.right; assumption
    have HW := Lib.hid hW
    clear HS0
    have hPl : (varS h ++ (varS r ++ (sizedS id ++ varS (l.length : Int)))).length ≤ 64 := by simp; omega
    obtain ⟨P, hPe⟩ : ∃ P, P = varS h ++ (varS r ++ (sizedS id ++ varS (l.length : Int))) := ⟨_, rfl⟩
    go_wp2_with fail
    rw [← hPe] at hPl ⊢
    have HPE := Lib.hid hPe
    clear hPe m1 m2 m3 q0 q1 q2 q3
    go_loopw [3, 47] (fun s i wr => ∃ k : Nat, k ≤ l.length ∧ i = .int .i64 (k : Int) ∧ s = .string (S (P ++ (l.take k).flatMap showSig)) ∧ Hid (∀ s ∈ l.take k, sigOk s = true) ∧ Below w.heap.size w wr) (fun _ i _ => l.length - (intOf i).toNat)
    case atStart => exact ⟨0, by omega, rfl, by simp, by intro s hs; simp at hs, hb⟩
    case round =>
      obtain ⟨k, hk, rfl, rfl, hall, hb⟩ := hrel
      by_cases hlt : k < l.length
      · obtain ⟨b, off, rfl, hbB, hc⟩ := ((HR.out.below hb (Nat.le_refl _)).more hb.size) (by omega)
        obtain ⟨c0, c1⟩ := hc k hlt
        have hki : 0 ≤ (k : Int) ∧ (k : Int) < l.length := by omega
        have hs := Lib.hid (showSig_take l k hlt)
        have hlen : ((l.take k).flatMap showSig).length ≤ 24 * 12 := Nat.le_trans (showSig_len _ hall.out) (by simp; omega)
        have hsl := HSL.out l[k] (List.getElem_mem hlt)
        have q4 := varS_len l[k].val
        have q5 := sized_len8 l[k].sig
        have hbad := Lib.hid fun hok => HNO.out (sigs_bad hlt hok)
        have hnxt := Lib.hid fun hok => sigs_next hlt hok hall.out
        clear hc
        generalize l[k] = g at *
        obtain ⟨gv, gs⟩ := g
        simp only at c0 c1 hsl q4 q5 hs
        have hsok : sigOk ⟨gv, gs⟩ = (inB gv 1 99 && decide (gs.length ≤ 8)) := rfl
        cases hv : inB gv 1 99
        · have HVx := Lib.hid (hbad.out (by rw [hsok, hv]; rfl))
          clear hsok
          go_wp2_with (go_at_call 57; refine (isVal_b _ _).mono ?_; rintro e w' ⟨rfl, rfl⟩)
          go_ret
          exact ⟨ret_string (by rw [HVx.out]; rfl), hb.alloc hb.size _⟩
        · by_cases h8 : gs.length ≤ 8
          · have HNx := Lib.hid (hnxt.out (by rw [hsok, hv, decide_eq_true h8]; rfl))
            have h8' : ¬ 8 < (gs.length : Int) := by omega
            have HZg := Lib.hid fun (W : World) => sized_any gs W (by omega)
            have hb1 := Lib.hid (hb.alloc hb.size (.cells #[.int .i64 gv, .string (S gs)] 85))
            clear hsok
            generalize (l.take k).flatMap showSig = T at *
            have m1 := fun W : World => run_string_add_sum (P := Tryd.prog) W (S (P ++ T)) (S (varS gv)) (by simp; omega)
            have m2 := fun W : World => run_string_add_sum (P := Tryd.prog) W (S (P ++ (T ++ varS gv))) (S (sizedS gs)) (by simp; omega)
            go_wp2_with (go_at_call 57; refine (isVal_b _ _).mono ?_; rintro e w' ⟨rfl, rfl⟩)
            go_region_held3 (fun w' => Below w.heap.size w w' ∧ wr.heap.size < w'.heap.size ∧ w'.cell? ⟨wr.heap.size, 0, none⟩ = some (.int .i64 gv) ∧ w'.cell? ⟨wr.heap.size, 1, none⟩ = some (.string (S gs))) (first | exact ⟨hb1.out.drew, by simp, by go_simp, by go_simp⟩ | exact held2 (by assumption) hbm | go_keep)
              (first | (go_at_call 46; refine (iVar_any _ _).mono ?_; rintro e wm ⟨rfl, hbm⟩) | (go_at_call 47; refine (HZg.out _).mono ?_; rintro e wm ⟨rfl, hbm⟩))
            all_goals
              have hbx : Below w.heap.size w wm := by
                apply And.left
                assumption
              go_wp2
              go_roundw
              case rel => exact ⟨k + 1, by omega, by go_num, by rw [hs.out], HNx.out, hbx⟩
              case measure => simp [intOf]; omega
          · have HVx := Lib.hid (hbad.out (by rw [hsok, hv, decide_eq_false h8]; rfl))
            have h8' : 8 < (gs.length : Int) := by omega
            clear hsok
            go_wp2_with (go_at_call 57; refine (isVal_b _ _).mono ?_; rintro e w' ⟨rfl, rfl⟩)
            go_ret
            exact ⟨ret_string (by rw [HVx.out]; rfl), hb.alloc hb.size _⟩
      · have hkl : l.take k = l := List.take_of_length_le (by omega)
        rw [hkl] at hall
        have HVx := Lib.hid (HOK.out (List.all_eq_true.2 hall.out))
        have hfl : Hid ((l.take k).flatMap showSig = l.flatMap showSig) := by unfold Hid; rw [hkl]
        generalize (l.take k).flatMap showSig = T at *
        go_wp2
        go_ret
        exact ⟨ret_string (by rw [HVx.out, hfl.out, HPE.out]; simp), hb⟩

theorem sShowCommit_no (h r : Int) (id : List UInt8) (l : List SigT) (A : Option Addr) (c : Nat) (w : World) (hid : id.length ≤ 9223372036854775807) (hn : l.length ≤ 9223372036854775807) (hR : SReads w w.heap.size A l) (hh : headC ⟨h, r, id, l⟩ = false) :
    Calls Tryd.prog 19 #[.agg #[.int .i64 h, .int .i64 r, .string (S id), .slice A l.length c]] w fun e w' => e = .returned (.string (S (showCommitS ⟨h, r, id, l⟩))) ∧ Below w.heap.size w w' := by
  have HV := Lib.hid (showCom_no hh)
  have hb := Below.refl w.heap.size w
  clear hR
  have hvo : voteOkB ⟨h, r, 2, id, 1⟩ = (inB h 1 1000000 && inB r 0 1000 && isIdB id) := by
    unfold voteOkB
    rw [show inB 2 1 2 = true from rfl, show inB 1 1 99 = true from rfl, Bool.and_true, Bool.and_true]
  have hv : VoteT.val ⟨h, r, 2, id, 1⟩ = .agg #[.int .i64 h, .int .i64 r, .int .i64 2, .string (S id), .int .i64 1] := rfl
  cases h0 : voteOkB ⟨h, r, 2, id, 1⟩
  · clear hh hvo
    go_enter Tryd.func19, Tryd.ntmps19
    go_wp2_with (first | (go_at_call 60; refine (l9Vote_any _ _ _ _ _ _ _ _).mono ?_; rintro e wn ⟨rfl, hbn⟩; have hb := Below.next (w := w) (by repeat (first | with_reducible exact hb | with_reducible exact Below.refl _ _ | refine Below.drew ?_ | refine Below.setCell ?_ (by simp <;> omega) _ | refine Below.alloc ?_ (by simp <;> omega) _)) hbn; obtain ⟨hc, hf⟩ := bcell hbn; have hz := hbn.size; (try simp at hz); (try have hz1 : w.heap.size < wn.heap.size := (by omega)); (try have hz2 : w.heap.size + 1 < wn.heap.size := (by omega)); (try have hz3 : w.heap.size + 1 + 1 < wn.heap.size := (by omega)); clear hbn) | (go_at_call 59; refine (sVoteOk_any ⟨h, r, 2, id, 1⟩ _ hid).mono ?_; rintro e wn ⟨rfl, hbn⟩; have hb := Below.next (w := w) (by repeat (first | with_reducible exact hb | with_reducible exact Below.refl _ _ | refine Below.drew ?_ | refine Below.setCell ?_ (by simp <;> omega) _ | refine Below.alloc ?_ (by simp <;> omega) _)) hbn; obtain ⟨hc, hf⟩ := bcell hbn; have hz := hbn.size; (try simp at hz); (try have hz1 : w.heap.size < wn.heap.size := (by omega)); (try have hz2 : w.heap.size + 1 < wn.heap.size := (by omega)); (try have hz3 : w.heap.size + 1 + 1 < wn.heap.size := (by omega)); clear hbn))
    go_ret
    exact ⟨ret_string (by rw [HV.out]; rfl), (by repeat (first | with_reducible exact hb | with_reducible exact Below.refl _ _ | refine Below.drew ?_ | refine Below.setCell ?_ (by simp <;> omega) _ | refine Below.alloc ?_ (by simp <;> omega) _))⟩
  · have h12 : 12 < (l.length : Int) := by
      rw [h0] at hvo
      unfold headC at hh
      simp only [← hvo, Bool.true_and, decide_eq_false_iff_not] at hh
      omega
    clear hh hvo
    go_enter Tryd.func19, Tryd.ntmps19
    go_wp2_with (first | (go_at_call 60; refine (l9Vote_any _ _ _ _ _ _ _ _).mono ?_; rintro e wn ⟨rfl, hbn⟩; have hb := Below.next (w := w) (by repeat (first | with_reducible exact hb | with_reducible exact Below.refl _ _ | refine Below.drew ?_ | refine Below.setCell ?_ (by simp <;> omega) _ | refine Below.alloc ?_ (by simp <;> omega) _)) hbn; obtain ⟨hc, hf⟩ := bcell hbn; have hz := hbn.size; (try simp at hz); (try have hz1 : w.heap.size < wn.heap.size := (by omega)); (try have hz2 : w.heap.size + 1 < wn.heap.size := (by omega)); (try have hz3 : w.heap.size + 1 + 1 < wn.heap.size := (by omega)); clear hbn) | (go_at_call 59; refine (sVoteOk_any ⟨h, r, 2, id, 1⟩ _ hid).mono ?_; rintro e wn ⟨rfl, hbn⟩; have hb := Below.next (w := w) (by repeat (first | with_reducible exact hb | with_reducible exact Below.refl _ _ | refine Below.drew ?_ | refine Below.setCell ?_ (by simp <;> omega) _ | refine Below.alloc ?_ (by simp <;> omega) _)) hbn; obtain ⟨hc, hf⟩ := bcell hbn; have hz := hbn.size; (try simp at hz); (try have hz1 : w.heap.size < wn.heap.size := (by omega)); (try have hz2 : w.heap.size + 1 < wn.heap.size := (by omega)); (try have hz3 : w.heap.size + 1 + 1 < wn.heap.size := (by omega)); clear hbn))
    go_ret
    exact ⟨ret_string (by rw [HV.out]; rfl), (by repeat (first | with_reducible exact hb | with_reducible exact Below.refl _ _ | refine Below.drew ?_ | refine Below.setCell ?_ (by simp <;> omega) _ | refine Below.alloc ?_ (by simp <;> omega) _))⟩

set_option maxHeartbeats 4000000 in
theorem sShowCommit_yes (h r : Int) (id : List UInt8) (l : List SigT) (A : Option Addr) (c : Nat) (w : World) (hid : id.length ≤ 9223372036854775807) (hn : l.length ≤ 9223372036854775807) (hR : SReads w w.heap.size A l) (hsl : ∀ s ∈ l, s.sig.length ≤ 9223372036854775807) (hh : headC ⟨h, r, id, l⟩ = true) :
    Calls Tryd.prog 19 #[.agg #[.int .i64 h, .int .i64 r, .string (S id), .slice A l.length c]] w fun e w' => e = .returned (.string (S (showCommitS ⟨h, r, id, l⟩))) ∧ Below w.heap.size w w' := by
  have HR := Lib.hid hR
  have HSL := Lib.hid hsl
  have HOK : Hid (l.all sigOk = true → showCommitS ⟨h, r, id, l⟩ = varS h ++ varS r ++ sizedS id ++ varS (l.length : Int) ++ l.flatMap showSig) := fun ha => by unfold showCommitS; rw [if_pos ⟨hh, ha⟩]
  have HNO : Hid (l.all sigOk = false → showCommitS ⟨h, r, id, l⟩ = []) := fun ha => showCom_bad ha
  clear hR hsl
  have hb := Below.refl w.heap.size w
  unfold headC at hh
  simp only [Bool.and_eq_true, decide_eq_true_eq] at hh
  obtain ⟨⟨⟨h0, h1⟩, h2⟩, h12⟩ := hh
  have h12' : (l.length : Int) ≤ 12 := by omega
  have hidl : id.length ≤ 8 := by
    have := h2
    unfold isIdB at this
    simp only [Bool.or_eq_true, beq_iff_eq] at this
    omega
  have q0 := varS_len h
  have q1 := varS_len r
  have q2 := sized_len8 id
  have q3 := varS_len (l.length : Int)
  have HZ := Lib.hid fun (W : World) => l6Piece_any id W (by omega)
  have m1 := fun W : World => run_string_add_sum (P := Tryd.prog) W (S (varS h)) (S (varS r)) (by simp; omega)
  have m2 := fun W : World => run_string_add_sum (P := Tryd.prog) W (S (varS h ++ varS r)) (S (sizedS id)) (by simp; omega)
  have m3 := fun W : World => run_string_add_sum (P := Tryd.prog) W (S (varS h ++ (varS r ++ sizedS id))) (S (varS (l.length : Int))) (by simp; omega)
  have h00 : voteOkB ⟨h, r, 2, id, 1⟩ = true := by
    unfold voteOkB
    rw [h0, h1, h2]; rfl
  have hv : VoteT.val ⟨h, r, 2, id, 1⟩ = .agg #[.int .i64 h, .int .i64 r, .int .i64 2, .string (S id), .int .i64 1] := rfl
  go_enter Tryd.func19, Tryd.ntmps19
  go_wp2_with (first | (go_at_call 60; refine (l9Vote_any _ _ _ _ _ _ _ _).mono ?_; rintro e wn ⟨rfl, hbn⟩; have hb := Below.next (w := w) (by repeat (first | with_reducible exact hb | with_reducible exact Below.refl _ _ | refine Below.drew ?_ | refine Below.setCell ?_ (by simp <;> omega) _ | refine Below.alloc ?_ (by simp <;> omega) _)) hbn; obtain ⟨hc, hf⟩ := bcell hbn; have hz := hbn.size; (try simp at hz); (try have hz1 : w.heap.size < wn.heap.size := (by omega)); (try have hz2 : w.heap.size + 1 < wn.heap.size := (by omega)); (try have hz3 : w.heap.size + 1 + 1 < wn.heap.size := (by omega)); clear hbn) | (go_at_call 59; refine (sVoteOk_any ⟨h, r, 2, id, 1⟩ _ hid).mono ?_; rintro e wn ⟨rfl, hbn⟩; have hb := Below.next (w := w) (by repeat (first | with_reducible exact hb | with_reducible exact Below.refl _ _ | refine Below.drew ?_ | refine Below.setCell ?_ (by simp <;> omega) _ | refine Below.alloc ?_ (by simp <;> omega) _)) hbn; obtain ⟨hc, hf⟩ := bcell hbn; have hz := hbn.size; (try simp at hz); (try have hz1 : w.heap.size < wn.heap.size := (by omega)); (try have hz2 : w.heap.size + 1 < wn.heap.size := (by omega)); (try have hz3 : w.heap.size + 1 + 1 < wn.heap.size := (by omega)); clear hbn))
  have c0 : wn.cell? ⟨w.heap.size, 0, none⟩ = some (.int .i64 h) := by go_simp
  have c1 : wn.cell? ⟨w.heap.size, 1, none⟩ = some (.int .i64 r) := by go_simp
  have c2 : wn.cell? ⟨w.heap.size, 2, none⟩ = some (.string (S id)) := by go_simp
  have c3 : wn.cell? ⟨w.heap.size, 3, none⟩ = some (.slice A l.length c) := by go_simp
  have hz1 : w.heap.size < wn.heap.size := by omega
  clear hc hf
  go_region_held3 (fun w' => Below w.heap.size w w' ∧ w.heap.size < w'.heap.size ∧ w'.cell? ⟨w.heap.size, 0, none⟩ = some (.int .i64 h) ∧ w'.cell? ⟨w.heap.size, 1, none⟩ = some (.int .i64 r) ∧ w'.cell? ⟨w.heap.size, 2, none⟩ = some (.string (S id)) ∧ w'.cell? ⟨w.heap.size, 3, none⟩ = some (.slice A l.length c)) (first | exact ⟨hb.drew, hz1, c0, c1, c2, c3⟩ | exact heldC4 (by assumption) hbm | go_keep)
    (first | (go_at_call 61; refine (sVar_any _ _).mono ?_; rintro e wm ⟨rfl, hbm⟩) | (go_at_call 62; refine (HZ.out _).mono ?_; rintro e wm ⟨rfl, hbm⟩))
  all_goals
    have hb : Below w.heap.size w wm := by apply And.left; assumption
    have hW : w.heap.size < wm.heap.size ∧ wm.cell? ⟨w.heap.size, 0, none⟩ = some (.int .i64 h) ∧ wm.cell? ⟨w.heap.size, 1, none⟩ = some (.int .i64 r) ∧ wm.cell? ⟨w.heap.size, 2, none⟩ = some (.string (S id)) ∧ wm.cell? ⟨w.heap.size, 3, none⟩ = some (.slice A l.length c) := by apply And.right; assumption
    have HC3 := Lib.hid fun (W : World) (h : Below wm.heap.size wm W) => (h.cell (p := ⟨w.heap.size, 3, none⟩) hW.1).trans hW.2.2.2.2
    have HB0 := Lib.hid hb
    have hPl : (varS h ++ (varS r ++ (sizedS id ++ varS (l.length : Int)))).length ≤ 64 := by simp; omega
    obtain ⟨P, hPe⟩ : ∃ P, P = varS h ++ (varS r ++ (sizedS id ++ varS (l.length : Int))) := ⟨_, rfl⟩
    go_wp2_with fail
    rw [← hPe] at hPl ⊢
    have HPE := Lib.hid hPe
    clear hPe m1 m2 m3 q0 q1 q2 q3 c0 c1 c2 c3 hW
    go_loopw [3, 4] (fun s i wr => ∃ k : Nat, k ≤ l.length ∧ i = .int .i64 (k : Int) ∧ s = .string (S (P ++ (l.take k).flatMap showSig)) ∧ Hid (∀ s ∈ l.take k, sigOk s = true) ∧ Below wm.heap.size wm wr) (fun _ i _ => l.length - (intOf i).toNat)
    case atStart => exact ⟨0, by omega, rfl, by simp, by intro s hs; simp at hs, Below.refl _ _⟩
    case round =>
      obtain ⟨k, hk, rfl, rfl, hall, hbx⟩ := hrel
      have hb := Below.next HB0.out hbx
      have c3 := HC3.out _ hbx
      by_cases hlt : k < l.length
      · have HRr := Lib.hid ((HR.out.below hb (Nat.le_refl _)).more hb.size)
        obtain ⟨b, off, hA, hbB, hc⟩ := HRr.out (by omega)
        have HCC := Lib.hid fun (W : World) (h : Below wr.heap.size wr W) => And.intro ((h.cell (p := ⟨b, _, none⟩) hbB).trans (hc k hlt).1) ((h.cell (p := ⟨b, _, none⟩) hbB).trans (hc k hlt).2)
        have HC3r := Lib.hid fun (W : World) (h : Below wr.heap.size wr W) => HC3.out W (Below.next hbx h)
        rw [hA] at c3 HC3r
        clear hA
        obtain ⟨e0, e1⟩ := hc k hlt
        have hki : 0 ≤ (k : Int) ∧ (k : Int) < l.length := by omega
        have hs := Lib.hid (showSig_take l k hlt)
        have hlen : ((l.take k).flatMap showSig).length ≤ 24 * 12 := Nat.le_trans (showSig_len _ hall.out) (by simp; omega)
        have hsl := HSL.out l[k] (List.getElem_mem hlt)
        have q4 := varS_len l[k].val
        have q5 := sized_len8 l[k].sig
        have hbad := Lib.hid fun hok => HNO.out (sigs_bad hlt hok)
        have hnxt := Lib.hid fun hok => sigs_next hlt hok hall.out
        clear hc
        generalize l[k] = g at *
        obtain ⟨gv, gs⟩ := g
        simp only at e0 e1 hsl q4 q5 hs HCC
        have hsok : sigOk ⟨gv, gs⟩ = (inB gv 1 99 && decide (gs.length ≤ 8)) := rfl
        cases hv : inB gv 1 99
        · have HVx := Lib.hid (hbad.out (by rw [hsok, hv]; rfl))
          clear hsok
          go_wp2_with (go_at_call 58; refine (l1In_b _ _ _ _).mono ?_; rintro e w' ⟨rfl, rfl⟩)
          go_ret
          exact ⟨ret_string (by rw [HVx.out]; rfl), hb⟩
        · by_cases h8 : gs.length ≤ 8
          · have HNx := Lib.hid (hnxt.out (by rw [hsok, hv, decide_eq_true h8]; rfl))
            have h8' : ¬ 8 < (gs.length : Int) := by omega
            have HZg := Lib.hid fun (W : World) => l6Piece_any gs W (by omega)
            have hr0 := Below.refl wr.heap.size wr
            clear hsok
            generalize (l.take k).flatMap showSig = T at *
            have m1 := fun W : World => run_string_add_sum (P := Tryd.prog) W (S (P ++ T)) (S (varS gv)) (by simp; omega)
            have m2 := fun W : World => run_string_add_sum (P := Tryd.prog) W (S (P ++ (T ++ varS gv))) (S (sizedS gs)) (by simp; omega)
            go_wp2_with (go_at_call 58; refine (l1In_b _ _ _ _).mono ?_; rintro e w' ⟨rfl, rfl⟩)
            go_region_held3 (fun w' => Below wr.heap.size wr w' ∧ w'.cell? ⟨w.heap.size, 3, none⟩ = some (.slice (some ⟨b, off, none⟩) l.length c) ∧ w'.cell? ⟨b, off + k * 2, none⟩ = some (.int .i64 gv) ∧ w'.cell? ⟨b, off + k * 2 + 1, none⟩ = some (.string (S gs))) (first | exact ⟨hr0.drew, HC3r.out _ hr0.drew, (HCC.out _ hr0.drew).1, (HCC.out _ hr0.drew).2⟩ | exact (fun (q : Below wr.heap.size wr _) => ⟨q, HC3r.out _ q, (HCC.out _ q).1, (HCC.out _ q).2⟩) (Below.next (w := wr) (And.left (by assumption)) hbm) | assumption)
              (first | (go_at_call 61; refine (sVar_any _ _).mono ?_; rintro e wm' ⟨rfl, hbm⟩) | (go_at_call 62; refine (HZg.out _).mono ?_; rintro e wm' ⟨rfl, hbm⟩))
            all_goals
              have hbz : Below wr.heap.size wr wm' := by
                apply And.left
                assumption
              go_wp2
              go_roundw
              case rel => exact ⟨k + 1, by omega, by go_num, by rw [hs.out], HNx.out, Below.next hbx hbz⟩
              case measure => simp [intOf]; omega
          · have HVx := Lib.hid (hbad.out (by rw [hsok, hv, decide_eq_false h8]; rfl))
            have h8' : 8 < (gs.length : Int) := by omega
            clear hsok
            go_wp2_with (go_at_call 58; refine (l1In_b _ _ _ _).mono ?_; rintro e w' ⟨rfl, rfl⟩)
            go_ret
            exact ⟨ret_string (by rw [HVx.out]; rfl), hb⟩
      · have hkl : l.take k = l := List.take_of_length_le (by omega)
        rw [hkl] at hall
        have HVx := Lib.hid (HOK.out (List.all_eq_true.2 hall.out))
        have hfl : Hid ((l.take k).flatMap showSig = l.flatMap showSig) := by unfold Hid; rw [hkl]
        generalize (l.take k).flatMap showSig = T at *
        go_wp2
        go_ret
        exact ⟨ret_string (by rw [HVx.out, hfl.out, HPE.out]; simp), hb⟩
end Go.Proofs.YtecimgkgdpnaeaaDoor

/-
  ShowCommit, both, at every commit; what the scanner reads of a commit.
-/
namespace Go.Proofs.YtecimgkgdpnaeaaDoor
open Go.ChangeShapes Go.WideShapes Go.ChangeAt Go.RowKit
set_option linter.unusedVariables false

theorem iShowCommit_any (x : CommitT) (A : Option Addr) (c : Nat) (w : World) (hid : x.id.length ≤ 9223372036854775807) (hn : x.sigs.length ≤ 9223372036854775807) (hR : SReads w w.heap.size A x.sigs) (hm : ∀ s ∈ x.sigs, s.sig.length ≤ 9223372036854775807) :
    Calls Tryd.prog 14 #[.agg #[.int .i64 x.h, .int .i64 x.r, .string (S x.id), .slice A x.sigs.length c]] w fun e w' => e = .returned (.string (S (showCommitS x))) ∧ Below w.heap.size w w' := by
  obtain ⟨h, r, id, l⟩ := x
  cases hh : headC ⟨h, r, id, l⟩
  · exact iShowCommit_no h r id l A c w hid hn hR hh
  · exact iShowCommit_yes h r id l A c w hid hn hR hm hh
theorem sShowCommit_any (x : CommitT) (A : Option Addr) (c : Nat) (w : World) (hid : x.id.length ≤ 9223372036854775807) (hn : x.sigs.length ≤ 9223372036854775807) (hR : SReads w w.heap.size A x.sigs) (hm : ∀ s ∈ x.sigs, s.sig.length ≤ 9223372036854775807) :
    Calls Tryd.prog 19 #[.agg #[.int .i64 x.h, .int .i64 x.r, .string (S x.id), .slice A x.sigs.length c]] w fun e w' => e = .returned (.string (S (showCommitS x))) ∧ Below w.heap.size w w' := by
  obtain ⟨h, r, id, l⟩ := x
  cases hh : headC ⟨h, r, id, l⟩
  · exact sShowCommit_no h r id l A c w hid hn hR hh
  · exact sShowCommit_yes h r id l A c w hid hn hR hm hh
theorem sigsAt_sig (s : Sc) (i : Nat) : ∀ x ∈ (sigsAt s i).1, x.sig.length ≤ s.1.length := by
  induction i with
  | zero => intro x hx; simp [sigsAt] at hx
  | succ i ih =>
    intro x hx
    simp only [sigsAt, List.mem_append, List.mem_singleton] at hx
    rcases hx with hx | rfl
    · exact ih x hx
    · have h1 := (sigsAt_len s i).2
      have h2 := numP_len (sigsAt s i).2
      have h3 := (textP_len (numP (sigsAt s i).2).2).2
      simp only; omega
/-- What the scanner reads ahead of the signatures, a name for each. -/
theorem com_parts (l : List UInt8) : ∃ (n1 n2 n : Nat) (t1 : List UInt8) (s2 s3 s4 s5 : Sc),
    numP (l, false) = (n1, s2) ∧ numP s2 = (n2, s3) ∧ textP s3 = (t1, s4) ∧ numP s4 = (n, s5) ∧ comN l = (n, s5) ∧ (∀ i, i = n → comP l = (⟨n1, n2, t1, (sigsAt s5 i).1⟩, (sigsAt s5 i).2)) ∧
    s2.1.length ≤ l.length ∧ s3.1.length ≤ l.length ∧ s4.1.length ≤ l.length ∧ s5.1.length ≤ l.length ∧ t1.length ≤ l.length ∧ n < 562949953421312 := by
  obtain ⟨n1, s2, h1⟩ : ∃ n s, numP (l, false) = (n, s) := ⟨_, _, rfl⟩
  obtain ⟨n2, s3, h2⟩ : ∃ n s, numP s2 = (n, s) := ⟨_, _, rfl⟩
  obtain ⟨t1, s4, h3⟩ : ∃ n s, textP s3 = (n, s) := ⟨_, _, rfl⟩
  obtain ⟨n, s5, h4⟩ : ∃ n s, numP s4 = (n, s) := ⟨_, _, rfl⟩
  have a1 := numP_len (l, false)
  have a2 := numP_len s2
  have a3 := textP_len s3
  have a4 := numP_len s4
  have a5 := numP_lt s4
  rw [h1] at a1
  rw [h2] at a2
  rw [h3] at a3
  rw [h4] at a4 a5
  simp only at a1 a2 a3 a4 a5
  have hH : comH l = (n1, n2, t1, s4) := by unfold comH; simp only [h1, h2, h3]
  have hN : comN l = (n, s5) := by unfold comN; rw [hH]; exact h4
  refine ⟨n1, n2, n, t1, s2, s3, s4, s5, h1, h2, h3, h4, hN, ?_, ?_⟩
  · rintro i rfl
    unfold comP
    rw [hN, hH]
  · omega
theorem readCom_len (l : List UInt8) : (readComS l).1.sigs.length ≤ 12 ∧ (readComS l).1.id.length ≤ l.length ∧ ∀ s ∈ (readComS l).1.sigs, s.sig.length ≤ l.length := by
  obtain ⟨n1, n2, n, t1, s2, s3, s4, s5, h1, h2, h3, h4, hN, hP, l2, l3, l4, l5, q1, q2⟩ := com_parts l
  unfold readComS
  by_cases h : (comN l).1 ≤ 12 ∧ (comP l).2.2 = false ∧ showCommitS (comP l).1 = l
  · rw [if_pos h]
    rw [hN] at h
    rw [hP n rfl]
    exact ⟨by simp only [(sigsAt_len s5 n).1]; exact h.1, q1, fun s hs => Nat.le_trans (sigsAt_sig s5 n s hs) l5⟩
  · rw [if_neg h]; exact ⟨by simp [zeroCom], by simp [zeroCom], by simp [zeroCom]⟩
end Go.Proofs.YtecimgkgdpnaeaaDoor
