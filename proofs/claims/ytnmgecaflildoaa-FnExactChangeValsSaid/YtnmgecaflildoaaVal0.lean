/-
  Validators as plain data; slices of them in memory; the tests on them. No program in sight.
-/
import Derived.Test.YtnmgecaflildoaaNum1
import Derived.Deep.AppendLies
namespace Go.Proofs.Ytnmgecaflildoaa
open Go.RowKit
set_option linter.unusedVariables false

structure ValT where
  id : Int
  power : Int
def ValT.val (v : ValT) : Value := .agg #[.int .i64 v.id, .int .i64 v.power]
/-- The cells of a row of validators. -/
def vcells (l : List ValT) : List Value := l.flatMap fun v => [.int .i64 v.id, .int .i64 v.power]
theorem vcells_length (l : List ValT) : (vcells l).length = l.length * 2 := by
  induction l with
  | nil => rfl
  | cons v l ih => simp only [vcells, List.flatMap_cons, List.length_append, List.length_cons, List.length_nil] at ih ⊢; omega
theorem vcells_append (a b : List ValT) : vcells (a ++ b) = vcells a ++ vcells b := by unfold vcells; rw [List.flatMap_append]
theorem vcells_one (v : ValT) : vcells [v] = [.int .i64 v.id, .int .i64 v.power] := rfl
theorem vcells_cons (v : ValT) (l : List ValT) : vcells (v :: l) = .int .i64 v.id :: .int .i64 v.power :: vcells l := rfl
theorem vcells_at (l : List ValT) : ∀ (j : Nat) (h : j < l.length), (vcells l)[j * 2]? = some (.int .i64 l[j].id) ∧ (vcells l)[j * 2 + 1]? = some (.int .i64 l[j].power) := by
  induction l with
  | nil => intro j h; simp at h
  | cons v l ih =>
    intro j h
    match j, h with
    | 0, _ => exact ⟨rfl, rfl⟩
    | j + 1, h =>
      rw [vcells_cons, show (j + 1) * 2 = j * 2 + 1 + 1 from by omega]
      simp only [List.getElem?_cons_succ, List.getElem_cons_succ]
      exact ih j (by simpa using h)

/-- A slice at A reads as these validators, below block B. -/
def VReads (w : World) (B : Nat) (A : Option Addr) (l : List ValT) : Prop :=
  0 < l.length → ∃ b off, A = some ⟨b, off, none⟩ ∧ b < B ∧ ∀ (j : Nat) (h : j < l.length), w.cell? ⟨b, off + j * 2, none⟩ = some (.int .i64 l[j].id) ∧ w.cell? ⟨b, off + j * 2 + 1, none⟩ = some (.int .i64 l[j].power)
theorem VReads.below {w w' : World} {B B' : Nat} {A : Option Addr} {l : List ValT} (h : VReads w B A l) (hb : Below B' w w') (hB : B ≤ B') : VReads w' B A l := fun hl => by
  obtain ⟨b, off, rfl, hbB, hc⟩ := h hl
  exact ⟨b, off, rfl, hbB, fun j hj => ⟨(hb.cell (p := ⟨b, _, none⟩) (by show b < B'; omega)).trans (hc j hj).1, (hb.cell (p := ⟨b, _, none⟩) (by show b < B'; omega)).trans (hc j hj).2⟩⟩
theorem VReads.more {w : World} {B B' : Nat} {A : Option Addr} {l : List ValT} (h : VReads w B A l) (hB : B ≤ B') : VReads w B' A l := fun hl => by
  obtain ⟨b, off, rfl, hbB, hc⟩ := h hl
  exact ⟨b, off, rfl, by omega, hc⟩
/-- Onto a later world, whole. -/
theorem VReads.to {w w' : World} {A : Option Addr} {l : List ValT} (h : VReads w w.heap.size A l) (hb : Below w.heap.size w w') : VReads w' w'.heap.size A l := (h.below hb (Nat.le_refl _)).more hb.size
theorem VReads.of_own {w : World} {base : Nat} {e : TypeId} {A : Option Addr} {c : Nat} {l : List ValT} (h : w.ownsRow base e 2 (.slice A l.length c) l.length (vcells l)) : VReads w w.heap.size A l := fun hl => by
  obtain ⟨g, cap, hv, _, hlt⟩ := h.form hl
  simp only [Value.slice.injEq] at hv
  obtain ⟨rfl, _, _⟩ := hv
  refine ⟨g, 0, rfl, hlt, fun j hj => ?_⟩
  have h1 := h.cellAt (j * 2) (by omega)
  have h2 := h.cellAt (j * 2 + 1) (by omega)
  rw [(vcells_at l j hj).1] at h1
  rw [(vcells_at l j hj).2] at h2
  rw [Nat.zero_add]
  exact ⟨h1, h2⟩

/-! The tests. -/
def valOk1 (v : ValT) : Bool := inB v.id 1 99 && inB v.power 1 1000
def ascOk : Int → List ValT → Bool
  | _, [] => true
  | p, v :: t => valOk1 v && (decide (p < v.id) && ascOk v.id t)
def valsOkB (l : List ValT) : Bool := inB (l.length : Int) 1 7 && ascOk 0 l
/-- The number ahead of place k, nought at the beginning. -/
def prevId (l : List ValT) (k : Nat) : Int := if k = 0 then 0 else ((l[k - 1]?).map ValT.id).getD 0
theorem prevId_zero (l : List ValT) : prevId l 0 = 0 := rfl
theorem prevId_succ (l : List ValT) (k : Nat) (h : k < l.length) : prevId l (k + 1) = l[k].id := by
  unfold prevId; rw [if_neg (by omega), Nat.add_sub_cancel, List.getElem?_eq_getElem h]; rfl
/-- What the loop over the validators knows at place k. -/
def AscAt (l : List ValT) (k : Nat) : Prop := ascOk 0 l = ascOk (prevId l k) (l.drop k)
theorem AscAt.start (l : List ValT) : AscAt l 0 := rfl
theorem AscAt.bad {l : List ValT} {k : Nat} (h : AscAt l k) (hk : k < l.length) (hb : valOk1 l[k] = false ∨ ¬ prevId l k < l[k].id) : ascOk 0 l = false := by
  rw [h, List.drop_eq_getElem_cons hk, ascOk]
  rcases hb with hb | hb
  · rw [hb]; rfl
  · rw [decide_eq_false hb]; simp
theorem AscAt.step {l : List ValT} {k : Nat} (h : AscAt l k) (hk : k < l.length) (h1 : valOk1 l[k] = true) (h2 : prevId l k < l[k].id) : AscAt l (k + 1) := by
  unfold AscAt
  rw [h, List.drop_eq_getElem_cons hk, ascOk, h1, decide_eq_true h2, prevId_succ l k hk]
  rfl
theorem AscAt.fin {l : List ValT} {k : Nat} (h : AscAt l k) (hk : k = l.length) : ascOk 0 l = true := by
  rw [h, hk, List.drop_length]; rfl
theorem valsOk_len {l : List ValT} (h : valsOkB l = true) : 1 ≤ l.length ∧ l.length ≤ 7 := by
  unfold valsOkB at h
  simp only [Bool.and_eq_true] at h
  have := inB_true h.1
  omega
end Go.Proofs.Ytnmgecaflildoaa
