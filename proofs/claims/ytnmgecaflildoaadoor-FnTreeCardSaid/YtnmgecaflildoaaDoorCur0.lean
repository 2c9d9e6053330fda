/-
  The cursor of a draw as plain functions. No program in sight.
-/
import Derived.Test.YtnmgecaflildoaaDoorBut0
import Derived.Test.YtnmgecaflildoaaDoorByt0
namespace Go.Proofs.YtnmgecaflildoaaDoor
open Go.ChangeShapes Go.WideShapes Go.ChangeAt Go.RowKit
set_option linter.unusedVariables false

/-- A draw's bytes where they lie. -/
structure Cd where
  A : Option Addr
  c : Nat
  l : List UInt8
theorem and255_any (a : Int) : 0 ≤ bits .and .i64 a 255 ∧ bits .and .i64 a 255 ≤ 255 := by
  show 0 ≤ IntKind.i64.wrap ((BitVec.ofInt 64 a &&& BitVec.ofInt 64 255).toNat : Int) ∧ IntKind.i64.wrap ((BitVec.ofInt 64 a &&& BitVec.ofInt 64 255).toNat : Int) ≤ 255
  have h : (BitVec.ofInt 64 a &&& BitVec.ofInt 64 255).toNat ≤ 255 := by rw [BitVec.toNat_and]; exact Nat.and_le_right
  rw [IntKind.wrap_i64]
  omega
theorem and30_any (a : Int) : 0 ≤ bits .and .i64 a 1073741823 ∧ bits .and .i64 a 1073741823 ≤ 1073741823 := by
  show 0 ≤ IntKind.i64.wrap ((BitVec.ofInt 64 a &&& BitVec.ofInt 64 1073741823).toNat : Int) ∧ IntKind.i64.wrap ((BitVec.ofInt 64 a &&& BitVec.ofInt 64 1073741823).toNat : Int) ≤ 1073741823
  have h : (BitVec.ofInt 64 a &&& BitVec.ofInt 64 1073741823).toNat ≤ 1073741823 := by rw [BitVec.toNat_and]; exact Nat.and_le_right
  rw [IntKind.wrap_i64]
  omega
/-- The number of the start, after so many bytes. -/
def newH (l : List UInt8) : Nat → Int
  | 0 => 10101 + l.length
  | k + 1 => bits .and .i64 (newH l k * 131 + (l.getD k 0).toNat + 7) 1073741823
theorem newH_bound (l : List UInt8) (h : l.length ≤ 1048576) (k : Nat) : 0 ≤ newH l k ∧ newH l k ≤ 1073741823 := by
  cases k with
  | zero => simp only [newH]; omega
  | succ k => exact and30_any _
def hN (h : Int) : Int := wrap64 (wrap64 (h * 6364136223846793005) + 1442695040888963407)
def hX (h : Int) : Int := bits .and .i64 (bits .xor .i64 (h / 8589934592) (h / 35184372088832)) 255
/-- One byte of the cursor. -/
def byteC (l : List UInt8) (s : Nat × Int) : Nat × (Nat × Int) :=
  if s.1 < l.length then ((bits .and .i64 (hX (hN s.2) + (l.getD s.1 0).toNat) 255).toNat, (s.1 + 1, hN s.2)) else ((hX (hN s.2)).toNat, (s.1, hN s.2))
theorem byteC_lt (l : List UInt8) (s : Nat × Int) : (byteC l s).1 ≤ 255 := by
  unfold byteC
  split
  · have := and255_any (hX (hN s.2) + (l.getD s.1 0).toNat); simp only; omega
  · have := and255_any (bits .xor .i64 (hN s.2 / 8589934592) (hN s.2 / 35184372088832)); simp only [hX]; omega
/-- The cursor in memory. -/
def CurAt (w : World) (B : Nat) (K : Cd) (s : Nat × Int) : Prop :=
  B < w.heap.size ∧ w.cell? ⟨B, 0, none⟩ = some (.slice K.A K.l.length K.c) ∧ w.cell? ⟨B, 1, none⟩ = some (.int .i64 (s.1 : Int)) ∧ w.cell? ⟨B, 2, none⟩ = some (.int .i64 s.2) ∧
  w.frozen? ⟨B, 0, none⟩ = false ∧ w.frozen? ⟨B, 1, none⟩ = false ∧ w.frozen? ⟨B, 2, none⟩ = false ∧ BReads w B K.A K.l
theorem CurAt.block {w w' : World} {B : Nat} {K : Cd} {s : Nat × Int} (h : CurAt w B K s) (hs : w.heap.size ≤ w'.heap.size) (hb : ∀ k, k ≤ B → w'.heap[k]? = w.heap[k]?) : CurAt w' B K s := by
  obtain ⟨h1, c0, c1, c2, f0, f1, f2, hr⟩ := h
  have e := hb B (Nat.le_refl _)
  exact ⟨Nat.lt_of_lt_of_le h1 hs, (World.cell?_of_block (w := w) e).trans c0, (World.cell?_of_block (w := w) e).trans c1, (World.cell?_of_block (w := w) e).trans c2, (World.frozen?_of_block (w := w) e).trans f0, (World.frozen?_of_block (w := w) e).trans f1, (World.frozen?_of_block (w := w) e).trans f2, fun hl => by
    obtain ⟨b, off, hA, hbB, hc⟩ := hr hl
    exact ⟨b, off, hA, hbB, fun j hj => (World.cell?_of_block (w := w) (hb b (Nat.le_of_lt hbB))).trans (hc j hj)⟩⟩
theorem CurAt.next {B : Nat} {w w' : World} {K : Cd} {s : Nat × Int} (h : CurAt w B K s) (hb : Below w.heap.size w w') : CurAt w' B K s := h.block hb.size (fun k hk => hb.block k (Nat.lt_of_le_of_lt hk h.1))
theorem CurAt.low {B k : Nat} {w w' : World} {K : Cd} {s : Nat × Int} (h : CurAt w B K s) (hb : Below k w w') (hB : B < k) : CurAt w' B K s := h.block hb.size (fun j hj => hb.block j (by omega))
theorem CurAt.alloc {B : Nat} {w : World} {K : Cd} {s : Nat × Int} (h : CurAt w B K s) (o : Obj) : CurAt (w.alloc o) B K s := h.next (Below.alloc (Below.refl _ _) (Nat.le_refl _) o)
theorem CurAt.drew {B : Nat} {w : World} {K : Cd} {s : Nat × Int} (h : CurAt w B K s) : CurAt w.drew B K s := h.block (Nat.le_refl _) (fun _ _ => rfl)
theorem CurAt.far {B : Nat} {w : World} {K : Cd} {s : Nat × Int} (h : CurAt w B K s) {g : Nat} (hg : B < g) (i : Nat) (u : Value) : CurAt (w.setCell ⟨g, i, none⟩ u) B K s :=
  h.block (by simp [World.setCell]) (fun k hk => Below.heap_setCell _ _ _ _ (by intro e; subst e; omega))
theorem breads_set {w : World} {B : Nat} {A : Option Addr} {l : List UInt8} (h : BReads w B A l) (i : Nat) (u : Value) : BReads (w.setCell ⟨B, i, none⟩ u) B A l := fun hl => by
  obtain ⟨b, off, hA, hbB, hc⟩ := h hl
  exact ⟨b, off, hA, hbB, fun j hj => (World.cell?_of_block (w := w) (Below.heap_setCell _ _ _ _ (by intro e; simp only at e; omega))).trans (hc j hj)⟩
theorem CurAt.setH {B : Nat} {w : World} {K : Cd} {s : Nat × Int} (h : CurAt w B K s) (v : Int) : CurAt (w.setCell ⟨B, 2, none⟩ (.int .i64 v)) B K (s.1, v) := by
  obtain ⟨h1, c0, c1, c2, f0, f1, f2, hr⟩ := h
  exact ⟨by simpa [World.setCell] using h1, by go_simp, by go_simp, by go_simp, by go_simp, by go_simp, by go_simp, breads_set hr _ _⟩
theorem CurAt.setI {B : Nat} {w : World} {K : Cd} {s : Nat × Int} (h : CurAt w B K s) (v : Nat) : CurAt (w.setCell ⟨B, 1, none⟩ (.int .i64 (v : Int))) B K (v, s.2) := by
  obtain ⟨h1, c0, c1, c2, f0, f1, f2, hr⟩ := h
  exact ⟨by simpa [World.setCell] using h1, by go_simp, by go_simp, by go_simp, by go_simp, by go_simp, by go_simp, breads_set hr _ _⟩
theorem CurAt.new (w : World) (t : TypeId) (K : Cd) (h : Int) (hr : BReads w w.heap.size K.A K.l) : CurAt (w.alloc (.cells #[.slice K.A K.l.length K.c, .int .i64 0, .int .i64 h] t)) w.heap.size K (0, h) :=
  ⟨by simp, by go_simp, by go_simp, by go_simp, by go_simp, by go_simp, by go_simp, hr.below (Below.alloc (Below.refl _ _) (Nat.le_refl _) _) (Nat.le_refl _)⟩
/-- A number below n. -/
def belowC (l : List UInt8) (s : Nat × Int) (n : Nat) : Nat × (Nat × Int) :=
  if n ≤ 256 then ((byteC l s).1 % n, (byteC l s).2) else
    (((byteC l s).1 * 16777216 + (byteC l (byteC l s).2).1 * 65536 + (byteC l (byteC l (byteC l s).2).2).1 * 256 + (byteC l (byteC l (byteC l (byteC l s).2).2).2).1) % n, (byteC l (byteC l (byteC l (byteC l s).2).2).2).2)
theorem belowC_lt (l : List UInt8) (s : Nat × Int) {n : Nat} (hn : 0 < n) : (belowC l s n).1 < n := by
  unfold belowC
  split <;> exact Nat.mod_lt _ hn
end Go.Proofs.YtnmgecaflildoaaDoor
