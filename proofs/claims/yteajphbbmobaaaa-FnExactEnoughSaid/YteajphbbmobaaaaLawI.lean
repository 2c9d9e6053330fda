/-
  The laws' helpers over ints: toIntS, eqIntS.
-/
import Derived.Test.YteajphbbmobaaaaInts0
import Derived.RegionTactic
import Derived.BigRegion
import Derived.Deep.QuietTactic
namespace Go.Proofs.Yteajphbbmobaaaa
open Go.ChangeShapes Go.WideShapes Go.ChangeAt Go.RowKit
set_option linter.unusedVariables false
set_option linter.unusedSimpArgs false
set_option maxRecDepth 100000

theorem info_int : (Try.prog.info? 3).map (fun i => (i.zero, i.size, i.bytes)) = some (some (.int .i64 0), 1, 8) := by kernel_rfl
theorem made_ints (n : Nat) : (madeCells (Value.int .i64 0).cells n).toList = (List.replicate n (0 : Int)).map iv := by
  refine List.ext_getElem (by simp [madeCells]) fun i h1 h2 => ?_
  simp [madeCells, iv, Value.cells, Nat.mod_one]
theorem fill_int (l : List Int) (k : Nat) (h : k < l.length) : ((l.take k ++ List.replicate (l.length - k) (0 : Int)).map iv).set k (iv l[k]) = (l.take (k + 1) ++ List.replicate (l.length - (k + 1)) (0 : Int)).map iv := by
  rw [← List.map_set, List.set_append_right _ _ (by simp; omega), List.take_succ_eq_append_getElem h, List.append_assoc]
  congr 2
  rw [show k - (l.take k).length = 0 from by simp; omega, show l.length - k = (l.length - (k + 1)) + 1 from by omega, List.replicate_succ]
  rfl

theorem toIntS_any (A : Option Addr) (c : Nat) (l : List Int) (w : World) (hl : l.length ≤ 4194304) (hR : IReads w w.heap.size A l) :
    Calls Try.prog 36 #[.slice A l.length c] w fun e w' => e = .returned (.slice (some ⟨w.heap.size, 0, none⟩) l.length l.length) ∧ w'.ownsRow w.heap.size 3 1 (.slice (some ⟨w.heap.size, 0, none⟩) l.length l.length) l.length (l.map iv) ∧ Below w.heap.size w w' := by
  have HR := Lib.hid hR
  clear hR
  obtain ⟨i0, hi, hz0, hz1, hz2⟩ := info_parts info_int
  go_enter Try.func36, Try.ntmps36
  go_wp2_with (at_make; refine wpList_make_full _ rfl _ _ 50 rfl w.heap.size 3 i0 _ 1 Try.underlying50 hi hz0 hz1 .i64 .i64 _ _ l.length rfl rfl rfl rfl (by rw [hz2]; omega) (by unfold maxLen; omega) (Nat.le_refl _) ?_; intro w1 hown hgrow)
  have hb1 : Below w.heap.size w w1 := (Below.refl _ _).grown hgrow (Nat.le_refl _) (fun _ h => by cases h)
  go_loopw [4] (fun i wr => ∃ k : Nat, k ≤ l.length ∧ i = .int .i64 k ∧ wr.ownsRow w.heap.size 3 1 (.slice (some ⟨w.heap.size, 0, none⟩) l.length l.length) l.length ((l.take k ++ List.replicate (l.length - k) (0 : Int)).map iv) ∧ Below w.heap.size w wr) (fun i _ => l.length - (intOf i).toNat)
  case atStart => exact ⟨0, by omega, rfl, by rw [Nat.mul_one, made_ints] at hown; simpa using hown, hb1⟩
  case round =>
    obtain ⟨k, hk, rfl, hown, hb⟩ := hrel
    by_cases hlt : k < l.length
    · obtain ⟨b, off, rfl, hbB, hc⟩ := ((HR.out.below hb (Nat.le_refl _)).more hb.size) (by omega)
      have c0 := hc k hlt
      have hki : 0 ≤ (k : Int) ∧ (k : Int) < l.length := by omega
      obtain ⟨u0, s0⟩ := own_some hown (j := k) hlt
      have f0 := hown.frozenAt k
      have hst := (hown.stored k (iv l[k])).1
      rw [fill_int l k hlt] at hst
      have HST := Lib.hid hst
      clear hst hown hc
      go_wp2
      go_roundw
      case rel => exact ⟨k + 1, by omega, by go_num, HST.out, hb.setCell (Nat.le_refl _) _⟩
      case measure => simp [intOf]; omega
    · have hkl : Hid (k = l.length) := by unfold Hid; omega
      go_wp2
      go_ret
      exact ⟨rfl, by have := hown; rw [hkl.out] at this; simpa using this, hb⟩

/-- eqIntS at two slices that read as one list. -/
theorem eqIntS_same (A1 A2 : Option Addr) (c1 c2 : Nat) (l : List Int) (w : World) (hl : l.length ≤ 4194304) (hR1 : IReads w w.heap.size A1 l) (hR2 : IReads w w.heap.size A2 l) :
    Calls Try.prog 38 #[.slice A1 l.length c1, .slice A2 l.length c2] w fun e w' => e = .returned (.bool true) ∧ Below w.heap.size w w' := by
  have HR1 := Lib.hid hR1
  have HR2 := Lib.hid hR2
  clear hR1 hR2
  go_enter Try.func38, Try.ntmps38
  go_wp2
  go_loopw [5] (fun i wr => ∃ k : Nat, k ≤ l.length ∧ i = .int .i64 k ∧ Below w.heap.size w wr) (fun i _ => l.length - (intOf i).toNat)
  case atStart => exact ⟨0, by omega, rfl, Below.refl _ _⟩
  case round =>
    obtain ⟨k, hk, rfl, hb⟩ := hrel
    by_cases hlt : k < l.length
    · obtain ⟨b1, o1, rfl, hbB1, hc1⟩ := ((HR1.out.below hb (Nat.le_refl _)).more hb.size) (by omega)
      obtain ⟨b2, o2, rfl, hbB2, hc2⟩ := ((HR2.out.below hb (Nat.le_refl _)).more hb.size) (by omega)
      have x0 := hc1 k hlt
      have y0 := hc2 k hlt
      clear hc1 hc2
      have hki : 0 ≤ (k : Int) ∧ (k : Int) < l.length := by omega
      go_wp2
      go_quiet (fail)
      go_wp2
      go_roundw
      case rel => exact ⟨k + 1, by omega, by go_num, below_drewN hb _⟩
      case measure => simp [intOf]; omega
    · go_wp2
      go_ret
      exact ⟨rfl, hb⟩
end Go.Proofs.Yteajphbbmobaaaa
