/-
  Texts of this proof, laid into one: Byt0, Big1, Ints0, Num1.
-/
import Derived.Deep.AppendLies
import Derived.Test.YtecimgkgdpnaeaaDoorGFnCommit1
/-
  Slices of bytes in memory, as lists. No program in sight.
-/
namespace Go.Proofs.YtecimgkgdpnaeaaDoor
open Go.RowKit
set_option linter.unusedVariables false

/-- A slice at A reads as these numbers, below block B. -/
def BReads (w : World) (B : Nat) (A : Option Addr) (l : List UInt8) : Prop :=
  0 < l.length → ∃ b off, A = some ⟨b, off, none⟩ ∧ b < B ∧ ∀ (j : Nat) (h : j < l.length), w.cell? ⟨b, off + j, none⟩ = some (.int .u8 (l[j].toNat : Int))
theorem BReads.below {w w' : World} {B B' : Nat} {A : Option Addr} {l : List UInt8} (h : BReads w B A l) (hb : Below B' w w') (hB : B ≤ B') : BReads w' B A l := fun hl => by
  obtain ⟨b, off, rfl, hbB, hc⟩ := h hl
  exact ⟨b, off, rfl, hbB, fun j hj => (hb.cell (p := ⟨b, _, none⟩) (by show b < B'; omega)).trans (hc j hj)⟩
theorem BReads.more {w : World} {B B' : Nat} {A : Option Addr} {l : List UInt8} (h : BReads w B A l) (hB : B ≤ B') : BReads w B' A l := fun hl => by
  obtain ⟨b, off, rfl, hbB, hc⟩ := h hl
  exact ⟨b, off, rfl, by omega, hc⟩
theorem BReads.to {w w' : World} {A : Option Addr} {l : List UInt8} (h : BReads w w.heap.size A l) (hb : Below w.heap.size w w') : BReads w' w'.heap.size A l := (h.below hb (Nat.le_refl _)).more hb.size
theorem BReads.of_own {w : World} {base : Nat} {e : TypeId} {A : Option Addr} {c : Nat} {l : List UInt8} (h : w.ownsRow base e 1 (.slice A l.length c) l.length (l.map bv)) : BReads w w.heap.size A l := fun hl => by
  obtain ⟨g, cap, hv, _, hlt⟩ := h.form hl
  simp only [Value.slice.injEq] at hv
  obtain ⟨rfl, _, _⟩ := hv
  refine ⟨g, 0, rfl, hlt, fun j hj => ?_⟩
  have h1 := h.cellAt j (by omega)
  rw [List.getElem?_map, List.getElem?_eq_getElem hj] at h1
  rw [Nat.zero_add]
  exact h1
end Go.Proofs.YtecimgkgdpnaeaaDoor

/-
  laws.big.
-/
namespace Go.Proofs.YtecimgkgdpnaeaaDoor
open Go.ChangeShapes Go.WideShapes Go.ChangeAt Go.RowKit
set_option linter.unusedVariables false
set_option maxRecDepth 100000

theorem big_any (A : Option Addr) (c : Nat) (l : List UInt8) (w : World) (hl : l.length ≤ 9223372036854775807) :
    Calls Tryd.prog 7 #[.slice A l.length c] w fun e w' => e = .returned (.bool (decide (1048576 < l.length))) ∧ w' = w := by
  go_enter Tryd.func7, Tryd.ntmps7
  go_wp2
  go_ret
  exact ⟨ret_bool (by rw [Bool.eq_iff_iff]; simp; try omega), rfl⟩
end Go.Proofs.YtecimgkgdpnaeaaDoor

/-
  Slices of ints in memory, as lists. No program in sight.
-/
namespace Go.Proofs.YtecimgkgdpnaeaaDoor
open Go.RowKit
set_option linter.unusedVariables false

def iv (x : Int) : Value := .int .i64 x
/-- A slice at A reads as these numbers, below block B. -/
def IReads (w : World) (B : Nat) (A : Option Addr) (l : List Int) : Prop :=
  0 < l.length → ∃ b off, A = some ⟨b, off, none⟩ ∧ b < B ∧ ∀ (j : Nat) (h : j < l.length), w.cell? ⟨b, off + j, none⟩ = some (.int .i64 l[j])
theorem IReads.below {w w' : World} {B B' : Nat} {A : Option Addr} {l : List Int} (h : IReads w B A l) (hb : Below B' w w') (hB : B ≤ B') : IReads w' B A l := fun hl => by
  obtain ⟨b, off, rfl, hbB, hc⟩ := h hl
  exact ⟨b, off, rfl, hbB, fun j hj => (hb.cell (p := ⟨b, _, none⟩) (by show b < B'; omega)).trans (hc j hj)⟩
theorem IReads.more {w : World} {B B' : Nat} {A : Option Addr} {l : List Int} (h : IReads w B A l) (hB : B ≤ B') : IReads w B' A l := fun hl => by
  obtain ⟨b, off, rfl, hbB, hc⟩ := h hl
  exact ⟨b, off, rfl, by omega, hc⟩
theorem IReads.to {w w' : World} {A : Option Addr} {l : List Int} (h : IReads w w.heap.size A l) (hb : Below w.heap.size w w') : IReads w' w'.heap.size A l := (h.below hb (Nat.le_refl _)).more hb.size
theorem IReads.of_own {w : World} {base : Nat} {e : TypeId} {A : Option Addr} {c : Nat} {l : List Int} (h : w.ownsRow base e 1 (.slice A l.length c) l.length (l.map iv)) : IReads w w.heap.size A l := fun hl => by
  obtain ⟨g, cap, hv, _, hlt⟩ := h.form hl
  simp only [Value.slice.injEq] at hv
  obtain ⟨rfl, _, _⟩ := hv
  refine ⟨g, 0, rfl, hlt, fun j hj => ?_⟩
  have h1 := h.cellAt j (by omega)
  rw [List.getElem?_map, List.getElem?_eq_getElem hj] at h1
  rw [Nat.zero_add]
  exact h1
end Go.Proofs.YtecimgkgdpnaeaaDoor

/-
  Contracts of within, l1In, and of Fixed, in one seat's numbers.
-/
namespace Go.Proofs.YtecimgkgdpnaeaaDoor
open Go.ChangeShapes Go.WideShapes Go.ChangeAt Go.RowKit

theorem info_u8 : (Tryd.prog.info? 5).map (fun i => (i.zero, i.size, i.bytes)) = some (some (.int .u8 0), 1, 1) := by kernel_rfl
theorem within_any (x lo hi : Int) (w : World) :
    Calls Tryd.prog 55 #[.int .i64 x, .int .i64 lo, .int .i64 hi] w fun e w' => e = .returned (.bool (decide (lo ≤ x) && decide (x ≤ hi))) ∧ w = w' := by
  go_enter Tryd.func55, Tryd.ntmps55
  go_wp2
  all_goals (go_ret; exact ⟨ret_bool (by simp <;> omega), rfl⟩)
theorem l1In_any (x lo hi : Int) (w : World) :
    Calls Tryd.prog 58 #[.int .i64 x, .int .i64 lo, .int .i64 hi] w fun e w' => e = .returned (.bool (decide (lo ≤ x) && decide (x ≤ hi))) ∧ w = w' := by
  go_enter Tryd.func58, Tryd.ntmps58
  go_wp2
  all_goals (go_ret; exact ⟨ret_bool (by simp <;> omega), rfl⟩)
theorem within_yes (x lo hi : Int) (w : World) (h1 : lo ≤ x) (h2 : x ≤ hi) :
    Calls Tryd.prog 55 #[.int .i64 x, .int .i64 lo, .int .i64 hi] w fun e w' => e = .returned (.bool true) ∧ w = w' :=
  (within_any x lo hi w).mono fun e w' ⟨he, hw⟩ => ⟨by rw [he, decide_eq_true h1, decide_eq_true h2]; rfl, hw⟩
theorem within_not (x lo hi : Int) (w : World) (h : x < lo ∨ hi < x) :
    Calls Tryd.prog 55 #[.int .i64 x, .int .i64 lo, .int .i64 hi] w fun e w' => e = .returned (.bool false) ∧ w = w' :=
  (within_any x lo hi w).mono fun e w' ⟨he, hw⟩ => ⟨by rw [he]; refine ret_bool ?_; simp; omega, hw⟩
theorem l1In_yes (x lo hi : Int) (w : World) (h1 : lo ≤ x) (h2 : x ≤ hi) :
    Calls Tryd.prog 58 #[.int .i64 x, .int .i64 lo, .int .i64 hi] w fun e w' => e = .returned (.bool true) ∧ w = w' :=
  (l1In_any x lo hi w).mono fun e w' ⟨he, hw⟩ => ⟨by rw [he, decide_eq_true h1, decide_eq_true h2]; rfl, hw⟩
theorem l1In_not (x lo hi : Int) (w : World) (h : x < lo ∨ hi < x) :
    Calls Tryd.prog 58 #[.int .i64 x, .int .i64 lo, .int .i64 hi] w fun e w' => e = .returned (.bool false) ∧ w = w' :=
  (l1In_any x lo hi w).mono fun e w' ⟨he, hw⟩ => ⟨by rw [he]; refine ret_bool ?_; simp; omega, hw⟩
/-- Is a number from one to another one? -/
def inB (x lo hi : Int) : Bool := decide (lo ≤ x) && decide (x ≤ hi)
theorem within_b (x lo hi : Int) (w : World) :
    Calls Tryd.prog 55 #[.int .i64 x, .int .i64 lo, .int .i64 hi] w fun e w' => e = .returned (.bool (inB x lo hi)) ∧ w = w' := within_any x lo hi w
theorem l1In_b (x lo hi : Int) (w : World) :
    Calls Tryd.prog 58 #[.int .i64 x, .int .i64 lo, .int .i64 hi] w fun e w' => e = .returned (.bool (inB x lo hi)) ∧ w = w' := l1In_any x lo hi w
theorem inB_true {x lo hi : Int} (h : inB x lo hi = true) : lo ≤ x ∧ x ≤ hi := by simpa [inB] using h
theorem inB_false {x lo hi : Int} (h : inB x lo hi = false) : x < lo ∨ hi < x := by
  by_cases h1 : lo ≤ x <;> by_cases h2 : x ≤ hi
  · rw [inB, decide_eq_true h1, decide_eq_true h2] at h; cases h
  all_goals omega
end Go.Proofs.YtecimgkgdpnaeaaDoor
