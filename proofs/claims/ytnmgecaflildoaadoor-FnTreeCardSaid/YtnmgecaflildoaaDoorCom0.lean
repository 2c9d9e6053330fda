/-
  Commits as plain data; what ShowCommit and ReadCommit return. No program in sight.
-/
import Derived.Test.YtnmgecaflildoaaDoorScan0
namespace Go.Proofs.YtnmgecaflildoaaDoor
set_option linter.unusedVariables false
set_option linter.unusedSimpArgs false
open Go.RowKit

structure SigT where
  val : Int
  sig : List UInt8
structure CommitT where
  h : Int
  r : Int
  id : List UInt8
  sigs : List SigT
/-- The cells of a row of signatures. -/
def scells (l : List SigT) : List Value := l.flatMap fun v => [.int .i64 v.val, .string (S v.sig)]
theorem scells_length (l : List SigT) : (scells l).length = l.length * 2 := by
  induction l with
  | nil => rfl
  | cons v l ih => simp only [scells, List.flatMap_cons, List.length_append, List.length_cons, List.length_nil] at ih ⊢; omega
theorem scells_append (a b : List SigT) : scells (a ++ b) = scells a ++ scells b := by unfold scells; rw [List.flatMap_append]
theorem scells_one (v : SigT) : scells [v] = [.int .i64 v.val, .string (S v.sig)] := rfl
theorem scells_cons (v : SigT) (l : List SigT) : scells (v :: l) = .int .i64 v.val :: .string (S v.sig) :: scells l := rfl
theorem scells_at (l : List SigT) : ∀ (j : Nat) (h : j < l.length), (scells l)[j * 2]? = some (.int .i64 l[j].val) ∧ (scells l)[j * 2 + 1]? = some (.string (S l[j].sig)) := by
  induction l with
  | nil => intro j h; simp at h
  | cons v l ih =>
    intro j h
    match j, h with
    | 0, _ => exact ⟨rfl, rfl⟩
    | j + 1, h =>
      rw [scells_cons, show (j + 1) * 2 = j * 2 + 1 + 1 from by omega]
      simp only [List.getElem?_cons_succ, List.getElem_cons_succ]
      exact ih j (by simpa using h)
/-- A slice at A reads as these signatures, below block B. -/
def SReads (w : World) (B : Nat) (A : Option Addr) (l : List SigT) : Prop :=
  0 < l.length → ∃ b off, A = some ⟨b, off, none⟩ ∧ b < B ∧ ∀ (j : Nat) (h : j < l.length), w.cell? ⟨b, off + j * 2, none⟩ = some (.int .i64 l[j].val) ∧ w.cell? ⟨b, off + j * 2 + 1, none⟩ = some (.string (S l[j].sig))
theorem SReads.below {w w' : World} {B B' : Nat} {A : Option Addr} {l : List SigT} (h : SReads w B A l) (hb : Below B' w w') (hB : B ≤ B') : SReads w' B A l := fun hl => by
  obtain ⟨b, off, rfl, hbB, hc⟩ := h hl
  exact ⟨b, off, rfl, hbB, fun j hj => ⟨(hb.cell (p := ⟨b, _, none⟩) (by show b < B'; omega)).trans (hc j hj).1, (hb.cell (p := ⟨b, _, none⟩) (by show b < B'; omega)).trans (hc j hj).2⟩⟩
theorem SReads.more {w : World} {B B' : Nat} {A : Option Addr} {l : List SigT} (h : SReads w B A l) (hB : B ≤ B') : SReads w B' A l := fun hl => by
  obtain ⟨b, off, rfl, hbB, hc⟩ := h hl
  exact ⟨b, off, rfl, by omega, hc⟩
/-- Onto a later world, whole. -/
theorem SReads.to {w w' : World} {A : Option Addr} {l : List SigT} (h : SReads w w.heap.size A l) (hb : Below w.heap.size w w') : SReads w' w'.heap.size A l := (h.below hb (Nat.le_refl _)).more hb.size
theorem SReads.of_own {w : World} {base : Nat} {e : TypeId} {A : Option Addr} {c : Nat} {l : List SigT} (h : w.ownsRow base e 2 (.slice A l.length c) l.length (scells l)) : SReads w w.heap.size A l := fun hl => by
  obtain ⟨g, cap, hv, _, hlt⟩ := h.form hl
  simp only [Value.slice.injEq] at hv
  obtain ⟨rfl, _, _⟩ := hv
  refine ⟨g, 0, rfl, hlt, fun j hj => ?_⟩
  have h1 := h.cellAt (j * 2) (by omega)
  have h2 := h.cellAt (j * 2 + 1) (by omega)
  rw [(scells_at l j hj).1] at h1
  rw [(scells_at l j hj).2] at h2
  rw [Nat.zero_add]
  exact ⟨h1, h2⟩

/-! The encoding. -/
def sigOk (s : SigT) : Bool := inB s.val 1 99 && decide (s.sig.length ≤ 8)
def showSig (s : SigT) : List UInt8 := varS s.val ++ sizedS s.sig
def headC (x : CommitT) : Bool := inB x.h 1 1000000 && inB x.r 0 1000 && isIdB x.id && decide (x.sigs.length ≤ 12)
/-- What ShowCommit returns. -/
def showCommitS (x : CommitT) : List UInt8 :=
  if headC x = true ∧ x.sigs.all sigOk = true then varS x.h ++ varS x.r ++ sizedS x.id ++ varS (x.sigs.length : Int) ++ x.sigs.flatMap showSig else []
theorem showSig_take (l : List SigT) (k : Nat) (h : k < l.length) : (l.take (k + 1)).flatMap showSig = (l.take k).flatMap showSig ++ (varS l[k].val ++ sizedS l[k].sig) := by
  rw [List.take_succ_eq_append_getElem h, List.flatMap_append]; simp [showSig]
theorem sized_len8 (l : List UInt8) : (sizedS l).length ≤ 8 + l.length := by
  have := varS_len (l.length : Int)
  unfold sizedS; rw [List.length_append]; omega
theorem showSig_len (l : List SigT) (h : ∀ s ∈ l, sigOk s = true) : (l.flatMap showSig).length ≤ 24 * l.length := by
  induction l with
  | nil => simp
  | cons v l ih =>
    have h1 := varS_len v.val
    have h2 := sized_len8 v.sig
    have h3 := h v (by simp)
    unfold sigOk at h3
    simp only [Bool.and_eq_true, decide_eq_true_eq] at h3
    have := ih (fun s hs => h s (by simp [hs]))
    simp only [List.flatMap_cons, List.length_append, showSig, List.length_cons] at this ⊢
    omega

/-! Reading. -/
def sigsAt (s : Sc) : Nat → List SigT × Sc
  | 0 => ([], s)
  | i + 1 => ((sigsAt s i).1 ++ [⟨(numP (sigsAt s i).2).1, (textP (numP (sigsAt s i).2).2).1⟩], (textP (numP (sigsAt s i).2).2).2)
theorem sigsAt_len (s : Sc) (i : Nat) : (sigsAt s i).1.length = i ∧ (sigsAt s i).2.1.length ≤ s.1.length := by
  induction i with
  | zero => exact ⟨rfl, Nat.le_refl _⟩
  | succ i ih =>
    have h1 := numP_len (sigsAt s i).2
    have h2 := textP_len (numP (sigsAt s i).2).2
    simp only [sigsAt, List.length_append, List.length_singleton]
    omega
theorem sigsAt_good {s : Sc} {i j : Nat} (h : (sigsAt s i).2.2 = true) (hij : i ≤ j) : (sigsAt s j).2.2 = true := by
  induction j with
  | zero => obtain rfl : i = 0 := by omega
            exact h
  | succ j ih =>
    rcases Nat.lt_or_ge j i with h1 | h1
    · obtain rfl : i = j + 1 := by omega
      exact h
    · exact textP_stay (numP_stay (ih h1))
theorem sigsAt_show (vs : List SigT) (hv : ∀ v ∈ vs, sigOk v = true) (t : List UInt8) :
    ∀ i, i ≤ vs.length → sigsAt (vs.flatMap showSig ++ t, false) i = (vs.take i, ((vs.drop i).flatMap showSig ++ t, false)) := by
  intro i
  induction i with
  | zero => intro _; rfl
  | succ i ih =>
    intro hi
    have hok := hv vs[i] (List.getElem_mem (by omega))
    unfold sigOk at hok
    simp only [Bool.and_eq_true, decide_eq_true_eq] at hok
    have hb := inB_true hok.1
    rw [sigsAt, ih (by omega), List.drop_eq_getElem_cons (show i < vs.length by omega), List.flatMap_cons]
    unfold showSig
    rw [List.append_assoc, List.append_assoc, numP_app (by omega) (by omega), textP_app (by omega), List.take_succ_eq_append_getElem (show i < vs.length by omega)]
    simp only [Prod.mk.injEq, and_true, List.append_cancel_left_eq, List.cons.injEq]
    have e : ∀ v : SigT, 0 ≤ v.val → (⟨(v.val.toNat : Int), v.sig⟩ : SigT) = v := fun v h1 => by
      obtain ⟨p, q⟩ := v; simp only at h1; rw [Int.toNat_of_nonneg h1]
    exact e _ (by omega)
/-- The numbers and the text ahead of the signatures' number. -/
def comH (l : List UInt8) : Nat × Nat × List UInt8 × Sc :=
  ((numP (l, false)).1, (numP (numP (l, false)).2).1, (textP (numP (numP (l, false)).2).2).1, (textP (numP (numP (l, false)).2).2).2)
def comN (l : List UInt8) : Nat × Sc := numP (comH l).2.2.2
def comP (l : List UInt8) : CommitT × Sc := (⟨(comH l).1, (comH l).2.1, (comH l).2.2.1, (sigsAt (comN l).2 (comN l).1).1⟩, (sigsAt (comN l).2 (comN l).1).2)
def zeroCom : CommitT := ⟨0, 0, [], []⟩
/-- What ReadCommit returns. -/
def readComS (l : List UInt8) : CommitT × Bool := if (comN l).1 ≤ 12 ∧ (comP l).2.2 = false ∧ showCommitS (comP l).1 = l then ((comP l).1, true) else (zeroCom, false)
theorem showCom_ne {x : CommitT} (h : showCommitS x ≠ []) : headC x = true ∧ x.sigs.all sigOk = true := by
  unfold showCommitS at h
  by_cases hx : headC x = true ∧ x.sigs.all sigOk = true
  · exact hx
  · rw [if_neg hx] at h; exact absurd rfl h
theorem showCom_parts {x : CommitT} (h : headC x = true ∧ x.sigs.all sigOk = true) :
    comH (showCommitS x) = (x.h.toNat, x.r.toNat, x.id, (varS (x.sigs.length : Int) ++ (x.sigs.flatMap showSig ++ []), false)) ∧ comN (showCommitS x) = (x.sigs.length, (x.sigs.flatMap showSig ++ [], false)) ∧ x.sigs.length ≤ 12 ∧ comP (showCommitS x) = (x, ([], false)) := by
  have hh := h.1
  unfold headC at hh
  simp only [Bool.and_eq_true, decide_eq_true_eq] at hh
  obtain ⟨⟨⟨h1, h2⟩, h3⟩, h4⟩ := hh
  have b1 := inB_true h1
  have b2 := inB_true h2
  have hid : x.id.length ≤ 8 := by
    unfold isIdB at h3
    simp only [Bool.or_eq_true, beq_iff_eq] at h3
    omega
  have e : showCommitS x = varS x.h ++ (varS x.r ++ (sizedS x.id ++ (varS (x.sigs.length : Int) ++ (x.sigs.flatMap showSig ++ [])))) := by
    unfold showCommitS; rw [if_pos h]; simp
  have c1 : comH (showCommitS x) = (x.h.toNat, x.r.toNat, x.id, (varS (x.sigs.length : Int) ++ (x.sigs.flatMap showSig ++ []), false)) := by
    unfold comH
    rw [e, numP_app (by omega) (by omega), numP_app (by omega) (by omega), textP_app (by omega)]
  have c2 : comN (showCommitS x) = (x.sigs.length, (x.sigs.flatMap showSig ++ [], false)) := by
    unfold comN
    rw [c1]
    show numP (varS (x.sigs.length : Int) ++ (x.sigs.flatMap showSig ++ []), false) = _
    rw [numP_app (by omega) (by omega)]; rfl
  refine ⟨c1, c2, h4, ?_⟩
  unfold comP
  rw [c1, c2]
  show (CommitT.mk _ _ _ (sigsAt (x.sigs.flatMap showSig ++ [], false) x.sigs.length).1, (sigsAt (x.sigs.flatMap showSig ++ [], false) x.sigs.length).2) = _
  rw [sigsAt_show x.sigs (fun v hv => List.all_eq_true.1 h.2 v hv) [] x.sigs.length (Nat.le_refl _)]
  obtain ⟨p, q, i, s⟩ := x
  simp only at b1 b2 ⊢
  rw [Int.toNat_of_nonneg (by omega), Int.toNat_of_nonneg (by omega), List.take_length, List.drop_length]
  rfl
theorem comN_ne {l : List UInt8} (h : (comN l).2.2 = false) : l ≠ [] ∧ (numP (numP (l, false)).2).2.2 = false ∧ (comH l).2.2.2.2 = false := by
  have h3 : (comH l).2.2.2.2 = false := good_num h
  have h2 : (numP (numP (l, false)).2).2.2 = false := good_text h3
  refine ⟨?_, h2, h3⟩
  rintro rfl
  have h1 := good_num h2
  rw [numP_nil] at h1
  cases h1
theorem comP_good {l : List UInt8} (h : (comP l).2.2 = false) : (comN l).2.2 = false := by
  cases hn : (comN l).2.2
  · rfl
  · have : (comP l).2.2 = true := sigsAt_good (i := 0) (j := (comN l).1) hn (by omega)
    rw [this] at h; cases h
theorem readCom_show {x : CommitT} (h : headC x = true ∧ x.sigs.all sigOk = true) : readComS (showCommitS x) = (x, true) := by
  obtain ⟨_, h2, h3, h4⟩ := showCom_parts h
  unfold readComS
  rw [if_pos ⟨by rw [h2]; exact h3, by rw [h4], by rw [h4]⟩, h4]
/-- More signatures are told than may be: nothing that ShowCommit writes is like that. -/
theorem readCom_many {l : List UInt8} (h : 12 < (comN l).1) (x : CommitT) (hl : l ≠ []) : showCommitS x ≠ l := by
  intro e
  have hok := showCom_ne (x := x) (by rw [e]; exact hl)
  obtain ⟨_, h2, h3, _⟩ := showCom_parts hok
  rw [e] at h2
  rw [h2] at h
  simp only at h
  omega
end Go.Proofs.YtnmgecaflildoaaDoor
