/-
  HsCheck: both sides.
-/
import Derived.Test.YtllfnhkloaenhaaDoorHs4
import Derived.Test.YtllfnhkloaenhaaDoorHs5
import Derived.Test.YtllfnhkloaenhaaDoorTree2
import Derived.RegionTactic
import Derived.BigRegion
namespace Go.Proofs.YtllfnhkloaenhaaDoor
open Go.ChangeShapes Go.WideShapes Go.ChangeAt Go.RowKit
set_option linter.unusedVariables false
set_option linter.unusedSimpArgs false
set_option maxRecDepth 100000

theorem reads_two {W : World} {G : Nat} {x y : List UInt8} (h0 : W.cell? ⟨G, 0, none⟩ = some (.string (S x))) (h1 : W.cell? ⟨G, 1, none⟩ = some (.string (S y))) : TReads W W.heap.size (some ⟨G, 0, none⟩) [x, y] := fun _ => by
  have hlt := World.block_lt_of_cell? W _ h0
  refine ⟨G, 0, rfl, hlt, fun j hj => ?_⟩
  match j, hj with
  | 0, _ => exact h0
  | 1, _ => exact h1

set_option maxHeartbeats 4000000 in
theorem iHsCheck_any (root msg sig : List UInt8) (w : World) (hm : msg.length ≤ 4194304) (hsl : sig.length ≤ 9223372036854775807) (hK : HasK w) :
    Calls Tryd.prog 6 #[.string (S root), .string (S msg), .string (S sig)] w fun e w' => e = .returned (.bool (hsCheckB root msg sig)) ∧ Below w.heap.size w w' := by
  have HK := Lib.hid hK
  clear hK
  have hbr := Below.refl w.heap.size w
  by_cases hs : sig.length = 153
  case neg =>
    have HV : Hid (hsCheckB root msg sig = false) := by unfold Hid hsCheckB; rw [if_neg (fun h => hs h.1)]
    have hs2 : ((sig.length : Int) == 153) = false := by simp; omega
    go_enter Tryd.func6, Tryd.ntmps6
    go_wp2
    go_ret
    exact ⟨ret_bool (by rw [HV.out]), hbr⟩
  have hsi : (sig.length : Int) = 153 := by omega
  have hB : ∀ h : 88 < sig.length, sig[88]'h = sig.getD 88 0 := fun h => by simp [List.getD, List.getElem?_eq_getElem h]
  by_cases hb4 : (sig.getD 88 0).toNat < 4
  case neg =>
    have HV : Hid (hsCheckB root msg sig = false) := by unfold Hid hsCheckB; rw [if_neg (fun h => hb4 h.2)]
    have hge : (4 : Int) ≤ ((sig.getD 88 0).toNat : Int) := by omega
    have hBl := (sig.getD 88 0).toNat_lt
    generalize sig.getD 88 0 = B at *
    go_enter Tryd.func6, Tryd.ntmps6
    go_wp2
    go_ret
    exact ⟨ret_bool (by rw [HV.out]), hbr⟩
  have HV : Hid (hsCheckB root msg sig = includesS root (shortS (checkAll sig (digitsS msg) 11)) ((sig.getD 88 0).toNat : Int) 4 [(sig.drop 89).take 32, sig.drop 121]) := by unfold Hid hsCheckB; rw [if_pos ⟨hs, hb4⟩]
  have hlt4 : ¬ (4 : Int) ≤ ((sig.getD 88 0).toNat : Int) := by omega
  have HD := Lib.hid (iDigits_any msg w hm HK.out)
  have hds := digitsS_at msg
  have x1 : (S sig).extract 89 121 = S ((sig.drop 89).take 32) := S_take sig 89 121
  have x2 : (S sig).extract 121 153 = S (sig.drop 121) := by rw [S_take, List.take_of_length_le (by simp; omega)]
  have x3 : (S sig).extract 121 sig.length = S (sig.drop 121) := by rw [hs]; exact x2
  have hp1 : ((sig.drop 89).take 32).length ≤ 1048576 := by simp; omega
  have hp2 : (sig.drop 121).length ≤ 1048576 := by simp; omega
  generalize digitsS msg = ds at *
  have hBl := (sig.getD 88 0).toNat_lt
  have hBw : IntKind.i64.wrap ((sig.getD 88 0).toNat : Int) = ((sig.getD 88 0).toNat : Int) := by rw [IntKind.wrap_i64]; omega
  generalize sig.getD 88 0 = B at *
  have HX := Lib.hid x2
  go_enter Tryd.func6, Tryd.ntmps6
  go_wp2_with fail
  refine HD.out.mono ?_
  rintro e w1 ⟨g, cap, rfl, hg, hcell, b1⟩
  have HC := Lib.hid fun (W : World) (h : Below w1.heap.size w1 W) (j : Nat) (hj : j < 11) => (h.cell (p := ⟨g, j, none⟩) hg).trans (hcell j hj)
  have HB1 := Lib.hid b1
  have hg1 := hg
  clear hcell b1 HD
  go_wp2_with fail
  go_loopw [7, 23] (fun s i wr => ∃ k : Nat, k ≤ 11 ∧ i = .int .i64 (k : Int) ∧ s = .string (S (checkAll sig ds k)) ∧ Below w1.heap.size w1 wr) (fun _ i _ => (11 - intOf i).toNat)
  case atStart => exact ⟨0, by omega, rfl, rfl, Below.refl _ _⟩
  case round =>
    obtain ⟨k, hk, rfl, rfl, hbx⟩ := hrel
    have hb := Below.next HB1.out hbx
    have hlen := checkAll_len sig ds k
    by_cases hlt : k < 11
    · have h2 : (k : Int) < 11 := by omega
      have hki : 0 ≤ (k : Int) := by omega
      have c0 := HC.out _ hbx k hlt
      have HCK := Lib.hid fun (W : World) (h : Below w1.heap.size w1 W) => HC.out W h k hlt
      have hd3 := hds k
      have t0 : (8 * (k : Int)).toNat = 8 * k := by omega
      have t1 : (8 * (k : Int) + 8).toNat = 8 * k + 8 := by omega
      have t2 : 0 ≤ 8 * (k : Int) ∧ 8 * (k : Int) + 8 ≤ 153 := by omega
      have t3 : 8 * (k : Int) ≤ 8 * (k : Int) + 8 := by omega
      have t4 : IntKind.i64.wrap (8 * (k : Int) + 8) = 8 * (k : Int) + 8 := by rw [IntKind.wrap_i64]; omega
      have t5 : IntKind.i64.wrap (8 * (k : Int)) = 8 * (k : Int) := by rw [IntKind.wrap_i64]; omega
      have t6 : 0 ≤ 8 * (k : Int) + 8 := by omega
      have t7 : IntKind.i64.wrap (((ds.getD k 0 : Nat) : Int) + 1) = ((ds.getD k 0 : Nat) : Int) + 1 := by rw [IntKind.wrap_i64]; omega
      have x4 : (S sig).extract (8 * k) (8 * k + 8) = S ((sig.drop (8 * k)).take 8) := by rw [S_take]; congr 2; omega
      have hzl : ((sig.drop (8 * k)).take 8).length ≤ 8 := by simp; omega
      have HN : Hid (checkAll sig ds (k + 1) = checkAll sig ds k ++ linksN k (ds.getD k 0) ((sig.drop (8 * k)).take 8) (3 - ds.getD k 0)) := rfl
      have hln := linksN_len k (ds.getD k 0) ((sig.drop (8 * k)).take 8) (3 - ds.getD k 0)
      have HL := Lib.hid fun (W : World) (h : HasK W) => iLinks_any (k : Int) ((ds.getD k 0 : Nat) : Int) 3 (3 - ds.getD k 0) ((sig.drop (8 * k)).take 8) (((ds.getD k 0 : Nat) : Int)) rfl W (by omega) (by omega) (by omega) (by omega) h
      generalize linksN k (ds.getD k 0) ((sig.drop (8 * k)).take 8) (3 - ds.getD k 0) = y at *
      generalize (sig.drop (8 * k)).take 8 = z at *
      generalize checkAll sig ds k = t at *
      generalize ds.getD k 0 = d at *

      go_wp2_with (go_at_call 14; refine (HL.out _ (HK.out.to hb)).mono ?_; rintro e wn ⟨rfl, hbn⟩; have hbx := Below.next (w := w1) hbx hbn; have hb := Below.next (w := w) hb hbn; clear hbn)
      go_roundw
      case rel => exact ⟨k + 1, by omega, by go_num, by rw [HN.out], hbx⟩
      case measure => simp [intOf]; omega

    · have hk' : k = 11 := by omega
      have h2 : ¬ (k : Int) < 11 := by omega
      rw [← hk'] at HV
      have HSH := Lib.hid fun (W : World) (h : HasK W) => iShort_any (checkAll sig ds k) W (by omega) h
      have hshl := shortS_len (checkAll sig ds k)
      generalize shortS (checkAll sig ds k) = sh at *
      generalize checkAll sig ds k = t at *
      have HI := Lib.hid fun (G : Nat) (W : World) (h0 : W.cell? ⟨G, 0, none⟩ = some (.string (S ((sig.drop 89).take 32)))) (h1 : W.cell? ⟨G, 1, none⟩ = some (.string (S (sig.drop 121)))) (h : HasK W) => iIncludes_any root sh (B.toNat : Int) 4 [(sig.drop 89).take 32, sig.drop 121] (some ⟨G, 0, none⟩) 2 2 W (by omega) (by omega) rfl (by omega) (by omega) (by omega) (fun x hx => by simp only [List.mem_cons, List.not_mem_nil, or_false] at hx; rcases hx with rfl | rfl <;> assumption) (reads_two h0 h1) h
      generalize includesS root sh (B.toNat : Int) 4 [(sig.drop 89).take 32, sig.drop 121] = R at *
      generalize (sig.drop 89).take 32 = p1 at *
      generalize sig.drop 121 = p2 at *
      clear hk'

      go_wp2
      go_region
      go_wp2
      have HA := Lib.hid ((hb.alloc hb.size (.cells #[.string (S p1), .string (S p2)] 9)).drew)
      have q0 := fun (W : World) (h : Below (wr.heap.size + 1) ((wr.alloc (.cells #[.string (S p1), .string (S p2)] 9)).drew) W) => (h.cell (p := ⟨wr.heap.size, 0, none⟩) (by show wr.heap.size < wr.heap.size + 1; omega)).trans (show _ = some (Value.string (S p1)) by go_simp)
      have q1 := fun (W : World) (h : Below (wr.heap.size + 1) ((wr.alloc (.cells #[.string (S p1), .string (S p2)] 9)).drew) W) => (h.cell (p := ⟨wr.heap.size, 1, none⟩) (by show wr.heap.size < wr.heap.size + 1; omega)).trans (show _ = some (Value.string (S p2)) by go_simp)
      have hsz : ((wr.alloc (.cells #[.string (S p1), .string (S p2)] 9)).drew).heap.size = wr.heap.size + 1 := by simp
      have hr0 : Below (wr.heap.size + 1) ((wr.alloc (.cells #[.string (S p1), .string (S p2)] 9)).drew) ((wr.alloc (.cells #[.string (S p1), .string (S p2)] 9)).drew) := Below.refl _ _
      have Q0 := Lib.hid q0
      have Q1 := Lib.hid q1
      clear q0 q1
      generalize hwx : (wr.alloc (.cells #[.string (S p1), .string (S p2)] 9)).drew = wx at *
      rw [← hsz] at hr0 Q0 Q1
      clear hsz hwx
      go_region_held3 (fun w' => Below wx.heap.size wx w') (first | assumption | exact hr0.drew | exact Below.next (w := wx) hr0.drew hbm | exact Below.next (w := wx) (by assumption) hbm)
        (first | (go_at_call 16; refine (HSH.out _ (HK.out.to (Below.next HA.out hr0.drew))).mono ?_; rintro e wm ⟨rfl, hbm⟩) | (go_at_call 15; with_reducible refine (HI.out _ _ (Q0.out _ (by assumption)) (Q1.out _ (by assumption)) (HK.out.to (Below.next HA.out (by assumption)))).mono ?_; rintro e wm ⟨rfl, hbm⟩))
      all_goals
        have hbz : Below wx.heap.size wx wm := by assumption
        go_wp2
        go_ret
        exact ⟨ret_bool (by rw [HV.out]), Below.next HA.out hbz⟩

set_option maxHeartbeats 4000000 in
theorem sHsCheck_any (root msg sig : List UInt8) (w : World) (hm : msg.length ≤ 4194304) (hsl : sig.length ≤ 9223372036854775807) :
    Calls Tryd.prog 5 #[.string (S root), .string (S msg), .string (S sig)] w fun e w' => e = .returned (.bool (hsCheckB root msg sig)) ∧ Below w.heap.size w w' := by
  have hbr := Below.refl w.heap.size w
  by_cases hs : sig.length = 153
  case neg =>
    have HV : Hid (hsCheckB root msg sig = false) := by unfold Hid hsCheckB; rw [if_neg (fun h => hs h.1)]
    have hs2 : ((sig.length : Int) == 153) = false := by simp; omega
    go_enter Tryd.func5, Tryd.ntmps5
    go_wp2
    go_ret
    exact ⟨ret_bool (by rw [HV.out]), hbr⟩
  have hsi : (sig.length : Int) = 153 := by omega
  have hB : ∀ h : 88 < sig.length, sig[88]'h = sig.getD 88 0 := fun h => by simp [List.getD, List.getElem?_eq_getElem h]
  by_cases hb4 : (sig.getD 88 0).toNat < 4
  case neg =>
    have HV : Hid (hsCheckB root msg sig = false) := by unfold Hid hsCheckB; rw [if_neg (fun h => hb4 h.2)]
    have hge : (4 : Int) ≤ ((sig.getD 88 0).toNat : Int) := by omega
    have hBl := (sig.getD 88 0).toNat_lt
    generalize sig.getD 88 0 = B at *
    go_enter Tryd.func5, Tryd.ntmps5
    go_wp2
    go_ret
    exact ⟨ret_bool (by rw [HV.out]), hbr⟩
  have HV : Hid (hsCheckB root msg sig = includesS root (shortS (checkAll sig (digitsS msg) 11)) ((sig.getD 88 0).toNat : Int) 4 [(sig.drop 89).take 32, sig.drop 121]) := by unfold Hid hsCheckB; rw [if_pos ⟨hs, hb4⟩]
  have hlt4 : ¬ (4 : Int) ≤ ((sig.getD 88 0).toNat : Int) := by omega
  have HD := Lib.hid (sDigits_any msg w hm)
  have hds := digitsS_at msg
  have x1 : (S sig).extract 89 121 = S ((sig.drop 89).take 32) := S_take sig 89 121
  have x2 : (S sig).extract 121 153 = S (sig.drop 121) := by rw [S_take, List.take_of_length_le (by simp; omega)]
  have x3 : (S sig).extract 121 sig.length = S (sig.drop 121) := by rw [hs]; exact x2
  have hp1 : ((sig.drop 89).take 32).length ≤ 1048576 := by simp; omega
  have hp2 : (sig.drop 121).length ≤ 1048576 := by simp; omega
  generalize digitsS msg = ds at *
  have hBl := (sig.getD 88 0).toNat_lt
  have hBw : IntKind.i64.wrap ((sig.getD 88 0).toNat : Int) = ((sig.getD 88 0).toNat : Int) := by rw [IntKind.wrap_i64]; omega
  generalize sig.getD 88 0 = B at *
  have HX := Lib.hid x2
  go_enter Tryd.func5, Tryd.ntmps5
  go_wp2_with fail
  refine HD.out.mono ?_
  rintro e w1 ⟨g, cap, rfl, hg, hcell, b1⟩
  have HC := Lib.hid fun (W : World) (h : Below w1.heap.size w1 W) (j : Nat) (hj : j < 11) => (h.cell (p := ⟨g, j, none⟩) hg).trans (hcell j hj)
  have HB1 := Lib.hid b1
  have hg1 := hg
  clear hcell b1 HD
  go_wp2_with fail
  go_loopw [9, 10] (fun s i wr => ∃ k : Nat, k ≤ 11 ∧ i = .int .i64 (k : Int) ∧ s = .string (S (checkAll sig ds k)) ∧ Below w1.heap.size w1 wr) (fun _ i _ => (11 - intOf i).toNat)
  case atStart => exact ⟨0, by omega, rfl, rfl, Below.refl _ _⟩
  case round =>
    obtain ⟨k, hk, rfl, rfl, hbx⟩ := hrel
    have hb := Below.next HB1.out hbx
    have hlen := checkAll_len sig ds k
    by_cases hlt : k < 11
    · have h2 : (k : Int) < 11 := by omega
      have hki : 0 ≤ (k : Int) := by omega
      have c0 := HC.out _ hbx k hlt
      have HCK := Lib.hid fun (W : World) (h : Below w1.heap.size w1 W) => HC.out W h k hlt
      have hd3 := hds k
      have t0 : (8 * (k : Int)).toNat = 8 * k := by omega
      have t1 : (8 * (k : Int) + 8).toNat = 8 * k + 8 := by omega
      have t2 : 0 ≤ 8 * (k : Int) ∧ 8 * (k : Int) + 8 ≤ 153 := by omega
      have t3 : 8 * (k : Int) ≤ 8 * (k : Int) + 8 := by omega
      have t4 : IntKind.i64.wrap (8 * (k : Int) + 8) = 8 * (k : Int) + 8 := by rw [IntKind.wrap_i64]; omega
      have t5 : IntKind.i64.wrap (8 * (k : Int)) = 8 * (k : Int) := by rw [IntKind.wrap_i64]; omega
      have t6 : 0 ≤ 8 * (k : Int) + 8 := by omega
      have t7 : IntKind.i64.wrap (((ds.getD k 0 : Nat) : Int) + 1) = ((ds.getD k 0 : Nat) : Int) + 1 := by rw [IntKind.wrap_i64]; omega
      have x4 : (S sig).extract (8 * k) (8 * k + 8) = S ((sig.drop (8 * k)).take 8) := by rw [S_take]; congr 2; omega
      have hzl : ((sig.drop (8 * k)).take 8).length ≤ 8 := by simp; omega
      have HN : Hid (checkAll sig ds (k + 1) = checkAll sig ds k ++ linksN k (ds.getD k 0) ((sig.drop (8 * k)).take 8) (3 - ds.getD k 0)) := rfl
      have hln := linksN_len k (ds.getD k 0) ((sig.drop (8 * k)).take 8) (3 - ds.getD k 0)
      have HL := Lib.hid fun (W : World) => sLinks_any (k : Int) ((ds.getD k 0 : Nat) : Int) 3 (3 - ds.getD k 0) ((sig.drop (8 * k)).take 8) (((ds.getD k 0 : Nat) : Int) + 1) rfl W (by omega) (by omega) (by omega) (by omega)
      generalize linksN k (ds.getD k 0) ((sig.drop (8 * k)).take 8) (3 - ds.getD k 0) = y at *
      generalize (sig.drop (8 * k)).take 8 = z at *
      generalize checkAll sig ds k = t at *
      generalize ds.getD k 0 = d at *

      have m1 := fun W : World => run_string_add_sum (P := Tryd.prog) W (S t) (S y) (by simp; omega)
      go_wp2
      go_region_held3 (fun w' => Below w1.heap.size w1 w' ∧ w'.cell? ⟨g, k, none⟩ = some (.int .i64 (d : Int))) (first | exact ⟨hbx.drew, HCK.out _ hbx.drew⟩ | exact ⟨Below.next (w := w1) (And.left (by assumption)) hbm, HCK.out _ (Below.next (w := w1) (And.left (by assumption)) hbm)⟩)
        ((go_at_call 10; refine (HL.out _).mono ?_; rintro e wm ⟨rfl, hbm⟩))
      all_goals
        have hbz : Below w1.heap.size w1 wm := by apply And.left; assumption
        go_wp2
        go_roundw
        case rel => exact ⟨k + 1, by omega, by go_num, by rw [HN.out], hbz⟩
        case measure => simp [intOf]; omega

    · have hk' : k = 11 := by omega
      have h2 : ¬ (k : Int) < 11 := by omega
      rw [← hk'] at HV
      have HSH := Lib.hid fun (W : World) => sShort_any (checkAll sig ds k) W (by omega)
      have hshl := shortS_len (checkAll sig ds k)
      generalize shortS (checkAll sig ds k) = sh at *
      generalize checkAll sig ds k = t at *
      have HI := Lib.hid fun (G : Nat) (W : World) (h0 : W.cell? ⟨G, 0, none⟩ = some (.string (S ((sig.drop 89).take 32)))) (h1 : W.cell? ⟨G, 1, none⟩ = some (.string (S (sig.drop 121)))) => sIncludes_any root sh (B.toNat : Int) 4 [(sig.drop 89).take 32, sig.drop 121] (some ⟨G, 0, none⟩) 2 2 W (by omega) rfl (by omega) (by omega) (by omega) (fun x hx => by simp only [List.mem_cons, List.not_mem_nil, or_false] at hx; rcases hx with rfl | rfl <;> assumption) (reads_two h0 h1)
      generalize includesS root sh (B.toNat : Int) 4 [(sig.drop 89).take 32, sig.drop 121] = R at *
      generalize (sig.drop 89).take 32 = p1 at *
      generalize sig.drop 121 = p2 at *
      clear hk'

      have hbx0 := Below.refl wr.heap.size wr
      have gw1 : IntKind.i64.wrap 121 = 121 := by rfl
      have gw2 : IntKind.i64.wrap 89 = 89 := by rfl
      have gs1 : (0 : Int) ≤ 121 ∧ (121 : Int) ≤ (sig.length : Int) := by omega
      have gs2 : (0 : Int) ≤ 89 ∧ (89 : Int) ≤ 121 := by omega
      have gs3 : (88 : Int) < (sig.length : Int) := by omega
      have HBW := Lib.hid hb
      go_wp2
      go_region_held3 (fun w' => Below wr.heap.size wr w') (first | assumption | exact hbx0.drew | exact Below.next (w := wr) hbx0.drew hbm | exact Below.next (w := wr) (by assumption) hbm | exact (fun (h : Below wr.heap.size wr _) => h.alloc h.size _) (by assumption) | go_keep)
        (first | (go_at_call 12; refine (HSH.out _).mono ?_; rintro e wm ⟨rfl, hbm⟩) | (go_at_call 11; with_reducible refine (HI.out _ _ (by first | (simp; done) | exact ((hbm.cell (p := ⟨wr.heap.size, 0, none⟩) (by simp)).trans (by simp))) (by first | (simp; done) | exact ((hbm.cell (p := ⟨wr.heap.size, 1, none⟩) (by simp)).trans (by simp)))).mono ?_; rintro e wm ⟨rfl, hbm⟩))
      all_goals
        have hbz : Below wr.heap.size wr wm := by assumption
        go_wp2
        go_ret
        exact ⟨ret_bool (by rw [HV.out]), Below.next HBW.out hbz⟩

end Go.Proofs.YtllfnhkloaenhaaDoor
