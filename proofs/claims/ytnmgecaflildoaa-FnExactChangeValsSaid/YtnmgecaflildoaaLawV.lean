/-
  The laws' helpers over validators: szValS, toVal, toValS, eqVal, eqValS.
-/
import Derived.Test.YtnmgecaflildoaaVal0
import Derived.Test.YtnmgecaflildoaaOwn0
import Derived.RegionTactic
import Derived.BigRegion
import Derived.Deep.RegionWith
namespace Go.Proofs.Ytnmgecaflildoaa
open Go.ChangeShapes Go.WideShapes Go.ChangeAt Go.RowKit
set_option linter.unusedVariables false
set_option linter.unusedSimpArgs false
set_option maxRecDepth 100000

theorem info_val : (Try.prog.info? 34).map (fun i => (i.zero, i.size, i.bytes)) = some (some (.agg #[.int .i64 0, .int .i64 0]), 2, 16) := by kernel_rfl

/-- What is left, or -1. -/
def szI (n : Nat) (x : Int) : Int := if (n : Int) ≤ x then x - n else -1
theorem szValS_any (A : Option Addr) (n c : Nat) (x : Int) (w : World) (hn : n ≤ 9223372036854775807) (h0 : 0 ≤ x) (h1 : x ≤ 9223372036854775807) :
    Calls Try.prog 4 #[.slice A n c, .int .i64 x] w fun e w' => e = .returned (.int .i64 (szI n x)) ∧ w = w' := by
  by_cases h : (n : Int) ≤ x
  · have HV : Hid (szI n x = x - n) := by unfold Hid szI; rw [if_pos h]
    go_enter Try.func4, Try.ntmps4
    go_wp2
    go_ret
    exact ⟨ret_int HV.out.symm, rfl⟩
  · have HV : Hid (szI n x = -1) := by unfold Hid szI; rw [if_neg h]
    go_enter Try.func4, Try.ntmps4
    go_wp2
    go_ret
    exact ⟨ret_int HV.out.symm, rfl⟩

theorem toVal_any (v : ValT) (w : World) :
    Calls Try.prog 13 #[v.val] w fun e w' => e = .returned v.val ∧ Below w.heap.size w w' := by
  obtain ⟨i, p⟩ := v
  simp only [ValT.val]
  go_enter Try.func13, Try.ntmps13
  go_wp2
  refine bodyPost_ret (v := .agg #[.int .i64 i, .int .i64 p]) (by simp [results, Try.results13, go_sem]) rfl ⟨rfl, ?_⟩
  repeat (first | exact Below.refl _ _ | refine Below.setCell ?_ (by simp <;> omega) _ | refine Below.alloc ?_ (by simp <;> omega) _)

theorem eqVal_same (i p : Int) (w : World) :
    Calls Try.prog 21 #[.agg #[.int .i64 i, .int .i64 p], .agg #[.int .i64 i, .int .i64 p]] w fun e w' => e = .returned (.bool true) ∧ Below w.heap.size w w' := by
  go_enter Try.func21, Try.ntmps21
  go_wp2
  go_ret
  refine ⟨rfl, ?_⟩
  repeat (first | exact Below.refl _ _ | refine Below.alloc ?_ (by simp <;> omega) _)

theorem vcells_set (m : List ValT) : ∀ (k : Nat) (i p : Int), k < m.length → ((vcells m).set (k * 2) (.int .i64 i)).set (k * 2 + 1) (.int .i64 p) = vcells (m.set k ⟨i, p⟩) := by
  induction m with
  | nil => intro k i p h; simp at h
  | cons v m ih =>
    intro k i p h
    match k, h with
    | 0, _ => rfl
    | k + 1, h =>
      rw [vcells_cons, show (k + 1) * 2 = k * 2 + 1 + 1 from by omega]
      simp only [List.set_cons_succ, vcells_cons]
      rw [ih k i p (by simpa using h)]
theorem vcells_zeros (n : Nat) : (madeCells (Value.agg #[.int .i64 0, .int .i64 0]).cells (n * 2)).toList = vcells (List.replicate n ⟨0, 0⟩) := by
  refine List.ext_getElem? fun j => ?_
  rcases Nat.lt_or_ge j (n * 2) with h | h
  · have hm : j / 2 < (List.replicate n (⟨0, 0⟩ : ValT)).length := by simp; omega
    have h2 := vcells_at (List.replicate n ⟨0, 0⟩) (j / 2) hm
    rw [List.getElem?_eq_getElem (by simp [madeCells]; omega)]
    rcases Nat.mod_two_eq_zero_or_one j with hj | hj
    · have e : j / 2 * 2 = j := by omega
      rw [e] at h2
      rw [h2.1]
      simp [madeCells, Value.cells, hj]
    · have e : j / 2 * 2 + 1 = j := by omega
      rw [e] at h2
      rw [h2.2]
      simp [madeCells, Value.cells, hj]
  · rw [List.getElem?_eq_none (by simp [madeCells]; omega), List.getElem?_eq_none (by rw [vcells_length]; simp; omega)]
theorem fill_val (l : List ValT) (k : Nat) (h : k < l.length) : (l.take k ++ List.replicate (l.length - k) (⟨0, 0⟩ : ValT)).set k ⟨l[k].id, l[k].power⟩ = l.take (k + 1) ++ List.replicate (l.length - (k + 1)) (⟨0, 0⟩ : ValT) := by
  rw [List.set_append_right _ _ (by simp; omega), List.take_succ_eq_append_getElem h, List.append_assoc]
  congr 1
  rw [show k - (l.take k).length = 0 from by simp; omega, show l.length - k = (l.length - (k + 1)) + 1 from by omega, List.replicate_succ]
  rfl

theorem toValS_any (A : Option Addr) (c : Nat) (l : List ValT) (w : World) (hl : l.length ≤ 4194304) (hR : VReads w w.heap.size A l) :
    Calls Try.prog 6 #[.slice A l.length c] w fun e w' => e = .returned (.slice (some ⟨w.heap.size, 0, none⟩) l.length l.length) ∧ w'.ownsRow w.heap.size 34 2 (.slice (some ⟨w.heap.size, 0, none⟩) l.length l.length) l.length (vcells l) ∧ Below w.heap.size w w' := by
  have HR := Lib.hid hR
  clear hR
  obtain ⟨i0, hi, hz0, hz1, hz2⟩ := info_parts info_val
  go_enter Try.func6, Try.ntmps6
  go_wp2_with (at_make; refine wpList_make_full _ rfl _ _ 24 rfl w.heap.size 34 i0 _ 2 Try.underlying24 hi hz0 hz1 .i64 .i64 _ _ l.length rfl rfl rfl rfl (by rw [hz2]; omega) (by unfold maxLen; omega) (Nat.le_refl _) ?_; intro w1 hown hgrow)
  have hb1 : Below w.heap.size w w1 := (Below.refl _ _).grown hgrow (Nat.le_refl _) (fun _ h => by cases h)
  go_loopw [4] (fun i wr => ∃ k : Nat, k ≤ l.length ∧ i = .int .i64 k ∧ wr.ownsRow w.heap.size 34 2 (.slice (some ⟨w.heap.size, 0, none⟩) l.length l.length) l.length (vcells (l.take k ++ List.replicate (l.length - k) ⟨0, 0⟩)) ∧ Below w.heap.size w wr) (fun i _ => l.length - (intOf i).toNat)
  case atStart => exact ⟨0, by omega, rfl, by rw [vcells_zeros] at hown; simpa using hown, hb1⟩
  case round =>
    obtain ⟨k, hk, rfl, hown, hb⟩ := hrel
    by_cases hlt : k < l.length
    · obtain ⟨b, off, rfl, hbB, hc⟩ := ((HR.out.below hb (Nat.le_refl _)).more hb.size) (by omega)
      obtain ⟨c0, c1⟩ := hc k hlt
      have hki : 0 ≤ (k : Int) ∧ (k : Int) < l.length := by omega
      have hgb : w.heap.size < wr.heap.size := (hown.lt _ rfl).2
      clear hc
      go_wp2_with fail
      refine (toVal_any ⟨l[k].id, l[k].power⟩ _).mono ?_
      rintro e wn ⟨rfl, hbn⟩
      have hb2 := Below.next (w := w) hb hbn
      have hown2 := own_below hown hbn
      have hlen : (l.take k ++ List.replicate (l.length - k) (⟨0, 0⟩ : ValT)).length = l.length := by simp; omega
      obtain ⟨u0, s0⟩ : ∃ u, wn.cell? ⟨w.heap.size, k * 2, none⟩ = some u := ⟨_, (hown2.cellAt (k * 2) (by omega)).trans (vcells_at _ k (by omega)).1⟩
      obtain ⟨u1, s1⟩ : ∃ u, wn.cell? ⟨w.heap.size, k * 2 + 1, none⟩ = some u := ⟨_, (hown2.cellAt (k * 2 + 1) (by omega)).trans (vcells_at _ k (by omega)).2⟩
      have f0 := hown2.frozenAt (k * 2)
      have f1 := hown2.frozenAt (k * 2 + 1)
      have hst := ((hown2.stored (k * 2) (.int .i64 l[k].id)).1.stored (k * 2 + 1) (.int .i64 l[k].power)).1
      rw [vcells_set _ k _ _ (by omega), fill_val l k hlt] at hst
      have HST := Lib.hid hst
      clear hst hown hown2 hbn hlen c0 c1 hb
      simp only [ValT.val]
      go_wp2
      go_roundw
      case rel => exact ⟨k + 1, by omega, by go_num, HST.out, (hb2.setCell (Nat.le_refl _) _).setCell (Nat.le_refl _) _⟩
      case measure => simp [intOf]; omega
    · have hkl : Hid (k = l.length) := by unfold Hid; omega
      go_wp2
      go_ret
      exact ⟨rfl, by have := hown; rw [hkl.out] at this; simpa using this, hb⟩

/-- eqValS at two slices that read as one list. -/
theorem eqValS_same (A1 A2 : Option Addr) (c1 c2 : Nat) (l : List ValT) (w : World) (hl : l.length ≤ 4194304) (hR1 : VReads w w.heap.size A1 l) (hR2 : VReads w w.heap.size A2 l) :
    Calls Try.prog 8 #[.slice A1 l.length c1, .slice A2 l.length c2] w fun e w' => e = .returned (.bool true) ∧ Below w.heap.size w w' := by
  have HR1 := Lib.hid hR1
  have HR2 := Lib.hid hR2
  clear hR1 hR2
  go_enter Try.func8, Try.ntmps8
  go_wp2
  go_loopw [5] (fun i wr => ∃ k : Nat, k ≤ l.length ∧ i = .int .i64 k ∧ Below w.heap.size w wr) (fun i _ => l.length - (intOf i).toNat)
  case atStart => exact ⟨0, by omega, rfl, Below.refl _ _⟩
  case round =>
    obtain ⟨k, hk, rfl, hb⟩ := hrel
    by_cases hlt : k < l.length
    · obtain ⟨b1, o1, rfl, hbB1, hc1⟩ := ((HR1.out.below hb (Nat.le_refl _)).more hb.size) (by omega)
      obtain ⟨b2, o2, rfl, hbB2, hc2⟩ := ((HR2.out.below hb (Nat.le_refl _)).more hb.size) (by omega)
      obtain ⟨x0, x1⟩ := hc1 k hlt
      obtain ⟨y0, y1⟩ := hc2 k hlt
      clear hc1 hc2
      have hki : 0 ≤ (k : Int) ∧ (k : Int) < l.length := by omega
      go_wp2_with fail
      go_region_with (go_at_call 21; refine (eqVal_same _ _ _).mono ?_; rintro e wn ⟨rfl, hbn⟩; have hb := Below.next (w := w) hb.drew hbn)
      all_goals
        go_wp2
        go_roundw
        case rel => exact ⟨k + 1, by omega, by go_num, hb⟩
        case measure => simp [intOf]; omega
    · go_wp2
      go_ret
      exact ⟨rfl, hb⟩
end Go.Proofs.Ytnmgecaflildoaa
