/-
  firsts, l4Split, TreeRoot, l4Root: both sides.
-/
import Derived.Test.YtnmgecaflildoaaDoorLeaf1
import Derived.Test.YtnmgecaflildoaaDoorStr1
import Derived.Deep.RegionHeld3
namespace Go.Proofs.YtnmgecaflildoaaDoor
open Go.ChangeShapes Go.WideShapes Go.ChangeAt Go.RowKit
set_option linter.unusedVariables false
set_option linter.unusedSimpArgs false
set_option maxRecDepth 100000

theorem treeRoot_small {l : List (List UInt8)} (h : l.length ≤ 40) : treeRootS l = treeS l := by unfold treeRootS; rw [if_neg (by omega)]

theorem firsts_any (n : Nat) (w : World) (h : 2 ≤ n) (h2 : n ≤ 1048576) :
    Calls Tryd.prog 32 #[.int .i64 (n : Int)] w fun e w' => e = .returned (.int .i64 (splitN n : Int)) ∧ w = w' := by
  go_enter Tryd.func32, Tryd.ntmps32
  go_wp2_with fail
  go_loop [3] (fun i => ∃ k : Nat, SplitAt n k ∧ i = .int .i64 (k : Int)) (fun i => n - (intOf i).toNat)
  case atStart => exact ⟨1, SplitAt.start h, rfl⟩
  case round =>
    obtain ⟨k, hS, rfl⟩ := hrel
    have hk := hS.2.1
    have hk1 := hS.1
    by_cases hlt : 2 * k < n
    · have hS2 := Lib.hid (hS.step hlt)
      have h3 : 2 * (k : Int) < n := by omega
      clear hS
      go_wp2
      go_round
      case rel => exact ⟨2 * k, hS2.out, by congr 1⟩
      case measure => simp [intOf]; omega
    · have hF := Lib.hid (hS.fin hlt)
      have h3 : ¬ 2 * (k : Int) < n := by omega
      clear hS
      go_wp2
      go_ret
      exact ⟨ret_int (by rw [hF.out]), rfl⟩

theorem l4Split_any (n : Nat) (w : World) (h : 2 ≤ n) (h2 : n ≤ 1048576) :
    Calls Tryd.prog 53 #[.int .i64 (n : Int)] w fun e w' => e = .returned (.int .i64 (splitN n : Int)) ∧ w = w' := by
  go_enter Tryd.func53, Tryd.ntmps53
  go_wp2_with fail
  go_loop [3] (fun i => ∃ k : Nat, SplitAt n k ∧ i = .int .i64 (k : Int)) (fun i => n - (intOf i).toNat)
  case atStart => exact ⟨1, SplitAt.start h, rfl⟩
  case round =>
    obtain ⟨k, hS, rfl⟩ := hrel
    have hk := hS.2.1
    have hk1 := hS.1
    by_cases hlt : 2 * k < n
    · have hS2 := Lib.hid (hS.step hlt)
      have h3 : 2 * (k : Int) < n := by omega
      clear hS
      go_wp2
      go_round
      case rel => exact ⟨2 * k, hS2.out, by congr 1⟩
      case measure => simp [intOf]; omega
    · have hF := Lib.hid (hS.fin hlt)
      have h3 : ¬ 2 * (k : Int) < n := by omega
      clear hS
      go_wp2
      go_ret
      exact ⟨ret_int (by rw [hF.out]), rfl⟩

set_option maxHeartbeats 1600000 in
theorem iTree_any (m : Nat) : ∀ (l : List (List UInt8)) (A : Option Addr) (n c : Nat) (w : World), l.length ≤ m → l.length = n → n ≤ c → n ≤ 1048576 → c ≤ 9223372036854775807 → (∀ x ∈ l, x.length ≤ 1048576) → TReads w w.heap.size A l → HasK w →
    Calls Tryd.prog 12 #[.slice A n c] w fun e w' => e = .returned (.string (S (treeRootS l))) ∧ Below w.heap.size w w' := by
  induction m using Nat.strongRecOn with
  | _ m ih =>
    intro l A n c w hm hn hnc hn2 hc hx hR hK
    have hb := Below.refl w.heap.size w
    have HR := Lib.hid hR
    have HX := Lib.hid hx
    clear hR hx
    have HK := Lib.hid hK
    clear hK

    by_cases h40 : 40 < n
    · have HV : Hid (treeRootS l = []) := by unfold Hid treeRootS; rw [if_pos (by omega)]
      have h3 : 40 < (n : Int) := by omega
      go_enter Tryd.func12, Tryd.ntmps12
      go_wp2
      go_ret
      exact ⟨ret_string (by rw [HV.out]; rfl), hb⟩
    have HS : Hid (treeRootS l = treeS l) := treeRoot_small (by omega)
    have h40' : ¬ 40 < (n : Int) := by omega
    by_cases h0 : n = 0
    · have HV : Hid (treeRootS l = shaS []) := by
        unfold Hid; rw [HS.out, List.eq_nil_of_length_eq_zero (show l.length = 0 by omega)]; rfl
      have HSH := Lib.hid fun (W : World) (h : HasK W) => iSha_any [] W (by simp) h
      subst h0
      go_enter Tryd.func12, Tryd.ntmps12
      go_wp2_with (go_at_call 30; refine (HSH.out _ (HK.out.to hb)).mono ?_; rintro e wn ⟨rfl, hbn⟩; have hb := Below.next (w := w) (by repeat (first | with_reducible exact hb | with_reducible exact Below.refl _ _ | refine Below.drew ?_ | refine Below.setCell ?_ (by simp <;> omega) _ | refine Below.alloc ?_ (by simp <;> omega) _)) hbn; clear hbn)
      go_ret
      exact ⟨ret_string (by rw [HV.out]), hb⟩
    have h0' : ((n : Int) == 0) = false := by simp; omega
    by_cases h1 : n = 1
    · obtain ⟨x, rfl⟩ : ∃ x, l = [x] := by
        match l, (show l.length = 1 by omega) with
        | [x], _ => exact ⟨x, rfl⟩
      have HV : Hid (treeRootS [x] = leafS x) := by unfold Hid; rw [HS.out]; rfl
      obtain ⟨b, off, rfl, hbB, hcc⟩ := HR.out (by simp)
      have c0 := hcc 0 (by simp)
      have hxl := HX.out x (by simp)
      have HL := Lib.hid fun (W : World) (h : HasK W) => iLeafHash_any x W (by omega) h
      simp only [List.getElem_cons_zero, Nat.add_zero] at c0
      subst h1
      go_enter Tryd.func12, Tryd.ntmps12
      go_wp2_with (go_at_call 31; refine (HL.out _ (HK.out.to hb)).mono ?_; rintro e wn ⟨rfl, hbn⟩; have hb := Below.next (w := w) (by repeat (first | with_reducible exact hb | with_reducible exact Below.refl _ _ | refine Below.drew ?_ | refine Below.setCell ?_ (by simp <;> omega) _ | refine Below.alloc ?_ (by simp <;> omega) _)) hbn; clear hbn)
      go_ret
      exact ⟨ret_string (by rw [HV.out]), hb⟩
    have h1' : ((n : Int) == 1) = false := by simp; omega
    have hsp := splitN_bound (n := n) (by omega)
    obtain ⟨b, off, rfl, hbB, hcc⟩ := HR.out (by omega)
    have HV : Hid (treeRootS l = nodeS (treeS (l.take (splitN n))) (treeS (l.drop (splitN n)))) := by unfold Hid; rw [HS.out]; rw [treeS_node (by omega), hn]
    have HL := Lib.hid fun (W : World) (h : Below w.heap.size w W) => (by have q := (ih (n - 1) (by omega) (l.take (splitN n)) (some ⟨b, off, none⟩) (splitN n) c W (by simp; omega) (by simp; omega) (by omega) (by omega) hc (fun x hx => HX.out x (List.mem_of_mem_take hx)) (((HR.out.below h (Nat.le_refl _)).more h.size).take _) (HK.out.to h)); rw [treeRoot_small (l := l.take (splitN n)) (by simp; omega)] at q; exact q)
    have HD := Lib.hid fun (W : World) (h : Below w.heap.size w W) => (by have q := (ih (n - 1) (by omega) (l.drop (splitN n)) (some ⟨b, off + splitN n, none⟩) (n - splitN n) (c - splitN n) W (by simp; omega) (by simp; omega) (by omega) (by omega) (by omega) (fun x hx => HX.out x (List.mem_of_mem_drop hx)) (((HR.out.below h (Nat.le_refl _)).more h.size).drop _) (HK.out.to h)); rw [treeRoot_small (l := l.drop (splitN n)) (by simp; omega)] at q; exact q)
    have HN := Lib.hid fun (W : World) (h : HasK W) => iNodeHash_any (treeS (l.take (splitN n))) (treeS (l.drop (splitN n))) W (by simp) h
    have HF := Lib.hid fun (W : World) => firsts_any n W (by omega) (by omega)
    clear hcc
    generalize treeS (l.take (splitN n)) = u at *
    generalize treeS (l.drop (splitN n)) = v at *
    generalize splitN n = k at *
    have hk1 : 0 ≤ (k : Int) ∧ (k : Int) ≤ n := by omega
    have hk2 : (k : Int) ≤ c := by omega
    go_enter Tryd.func12, Tryd.ntmps12
    go_wp2_with (go_at_call 32; refine (HF.out _).mono ?_; rintro e w' ⟨rfl, rfl⟩)
    go_region_held3 (fun w' => Below w.heap.size w w') (first | exact hb.drew | exact Below.next (w := w) (by assumption) hbm)
      (first | (go_at_call 12; (first | with_reducible refine (HL.out _ (by assumption)).mono ?_ | with_reducible refine (HD.out _ (by assumption)).mono ?_); rintro e wm ⟨rfl, hbm⟩) | (go_at_call 33; refine (HN.out _ (HK.out.to (by assumption))).mono ?_; rintro e wm ⟨rfl, hbm⟩))
    all_goals
      have hbx : Below w.heap.size w wm := by assumption
      go_wp2
      go_ret
      exact ⟨ret_string (by rw [HV.out]), hbx⟩

set_option maxHeartbeats 1600000 in
theorem sTree_any (m : Nat) : ∀ (l : List (List UInt8)) (A : Option Addr) (n c : Nat) (w : World), l.length ≤ m → l.length = n → 1 ≤ n → n ≤ 40 → n ≤ c → n ≤ 1048576 → c ≤ 9223372036854775807 → (∀ x ∈ l, x.length ≤ 1048576) → TReads w w.heap.size A l →
    Calls Tryd.prog 35 #[.slice A n c] w fun e w' => e = .returned (.string (S (treeS l))) ∧ Below w.heap.size w w' := by
  induction m using Nat.strongRecOn with
  | _ m ih =>
    intro l A n c w hm hn h1n h40 hnc hn2 hc hx hR
    have hb := Below.refl w.heap.size w
    have HR := Lib.hid hR
    have HX := Lib.hid hx
    clear hR hx

    by_cases h1 : n = 1
    · obtain ⟨x, rfl⟩ : ∃ x, l = [x] := by
        match l, (show l.length = 1 by omega) with
        | [x], _ => exact ⟨x, rfl⟩
      have HV : Hid (treeS [x] = leafS x) := by unfold Hid; rfl
      obtain ⟨b, off, rfl, hbB, hcc⟩ := HR.out (by simp)
      have c0 := hcc 0 (by simp)
      have hxl := HX.out x (by simp)
      have HL := Lib.hid fun (W : World) => sLeafHash_any x W (by omega)
      simp only [List.getElem_cons_zero, Nat.add_zero] at c0
      subst h1
      go_enter Tryd.func35, Tryd.ntmps35
      go_wp2_with (go_at_call 39; refine (HL.out _).mono ?_; rintro e wn ⟨rfl, hbn⟩; have hb := Below.next (w := w) (by repeat (first | with_reducible exact hb | with_reducible exact Below.refl _ _ | refine Below.drew ?_ | refine Below.setCell ?_ (by simp <;> omega) _ | refine Below.alloc ?_ (by simp <;> omega) _)) hbn; clear hbn)
      go_ret
      exact ⟨ret_string (by rw [HV.out]), hb⟩
    have h1' : ((n : Int) == 1) = false := by simp; omega
    have hsp := splitN_bound (n := n) (by omega)
    obtain ⟨b, off, rfl, hbB, hcc⟩ := HR.out (by omega)
    have HV : Hid (treeS l = nodeS (treeS (l.take (splitN n))) (treeS (l.drop (splitN n)))) := by unfold Hid; rw [treeS_node (by omega), hn]
    have HL := Lib.hid fun (W : World) (h : Below w.heap.size w W) => (ih (n - 1) (by omega) (l.take (splitN n)) (some ⟨b, off, none⟩) (splitN n) c W (by simp; omega) (by simp; omega) (by omega) (by omega) (by omega) (by omega) hc (fun x hx => HX.out x (List.mem_of_mem_take hx)) (((HR.out.below h (Nat.le_refl _)).more h.size).take _))
    have HD := Lib.hid fun (W : World) (h : Below w.heap.size w W) => (ih (n - 1) (by omega) (l.drop (splitN n)) (some ⟨b, off + splitN n, none⟩) (n - splitN n) (c - splitN n) W (by simp; omega) (by simp; omega) (by omega) (by omega) (by omega) (by omega) (by omega) (fun x hx => HX.out x (List.mem_of_mem_drop hx)) (((HR.out.below h (Nat.le_refl _)).more h.size).drop _))
    have HN := Lib.hid fun (W : World) => sNodeHash_any (treeS (l.take (splitN n))) (treeS (l.drop (splitN n))) W (by simp)
    have HF := Lib.hid fun (W : World) => l4Split_any n W (by omega) (by omega)
    clear hcc
    generalize treeS (l.take (splitN n)) = u at *
    generalize treeS (l.drop (splitN n)) = v at *
    generalize splitN n = k at *
    have hk1 : 0 ≤ (k : Int) ∧ (k : Int) ≤ n := by omega
    have hk2 : (k : Int) ≤ c := by omega
    go_enter Tryd.func35, Tryd.ntmps35
    go_wp2_with (go_at_call 53; refine (HF.out _).mono ?_; rintro e w' ⟨rfl, rfl⟩)
    go_region_held3 (fun w' => Below w.heap.size w w') (first | exact hb.drew | exact Below.next (w := w) (by assumption) hbm)
      (first | (go_at_call 35; (first | with_reducible refine (HL.out _ (by assumption)).mono ?_ | with_reducible refine (HD.out _ (by assumption)).mono ?_); rintro e wm ⟨rfl, hbm⟩) | (go_at_call 54; refine (HN.out _).mono ?_; rintro e wm ⟨rfl, hbm⟩))
    all_goals
      have hbx : Below w.heap.size w wm := by assumption
      go_wp2
      go_ret
      exact ⟨ret_string (by rw [HV.out]), hbx⟩

end Go.Proofs.YtnmgecaflildoaaDoor
