/-
  Texts of this proof, laid into one: Scan0, Com0, ApC, ApC3.
-/
import Derived.Test.YtecimgkgdpnaeaaDoorGFnCommit11
import Derived.Test.YtecimgkgdpnaeaaDoorGFnCommit10
import Derived.Laws.AppendOwnNone
import Derived.Laws.OwnMore
import Derived.Maps.AppendAt
import Derived.Test.YtecimgkgdpnaeaaDoorGFnCommit3
/-
  Reading numbers and texts one behind the other, plain; what ReadHeader and ReadVals return.
-/
namespace Go.Proofs.YtecimgkgdpnaeaaDoor
set_option linter.unusedVariables false
set_option linter.unusedSimpArgs false

/-- What is left to be read, and whether something did not stand there. -/
abbrev Sc := List UInt8 × Bool
def numP (s : Sc) : Nat × Sc := if s.2 = true ∨ (readVarS s.1).2 = 0 then (0, (s.1, true)) else ((readVarS s.1).1, (s.1.drop (readVarS s.1).2, false))
def cutP (s : Sc) (n : Int) : List UInt8 × Sc := if s.2 = true ∨ n < 0 ∨ (s.1.length : Int) < n then ([], (s.1, true)) else (s.1.take n.toNat, (s.1.drop n.toNat, false))
def textP (s : Sc) : List UInt8 × Sc := cutP (numP s).2 (numP s).1
theorem numP_bad (r : List UInt8) : numP (r, true) = (0, (r, true)) := by unfold numP; rw [if_pos (.inl rfl)]
theorem cutP_bad (r : List UInt8) (n : Int) : cutP (r, true) n = ([], (r, true)) := by unfold cutP; rw [if_pos (.inl rfl)]
theorem textP_bad (r : List UInt8) : textP (r, true) = ([], (r, true)) := by unfold textP; rw [numP_bad, cutP_bad]
theorem numP_none {r : List UInt8} (h : (readVarS r).2 = 0) : numP (r, false) = (0, (r, true)) := by unfold numP; rw [if_pos (.inr h)]
theorem numP_some {r : List UInt8} (h : (readVarS r).2 ≠ 0) : numP (r, false) = ((readVarS r).1, (r.drop (readVarS r).2, false)) := by unfold numP; rw [if_neg (by simpa using h)]
theorem cutP_no {r : List UInt8} {n : Int} (h : n < 0 ∨ (r.length : Int) < n) : cutP (r, false) n = ([], (r, true)) := by unfold cutP; rw [if_pos (.inr h)]
theorem cutP_yes {r : List UInt8} {n : Nat} (h : n ≤ r.length) : cutP (r, false) n = (r.take n, (r.drop n, false)) := by
  unfold cutP; rw [if_neg (by simp; omega)]; simp
theorem numP_len (s : Sc) : (numP s).2.1.length ≤ s.1.length := by
  unfold numP; split
  · exact Nat.le_refl _
  · simp
theorem cutP_len (s : Sc) (n : Int) : (cutP s n).2.1.length ≤ s.1.length ∧ (cutP s n).1.length ≤ s.1.length := by
  unfold cutP; split
  · exact ⟨Nat.le_refl _, by simp⟩
  · exact ⟨by simp, by simp; omega⟩
theorem textP_len (s : Sc) : (textP s).2.1.length ≤ s.1.length ∧ (textP s).1.length ≤ s.1.length := by
  have h1 := numP_len s
  have h2 := cutP_len (numP s).2 (numP s).1
  unfold textP; omega
theorem numP_lt (s : Sc) : (numP s).1 < 562949953421312 := by
  unfold numP; split
  · show 0 < 562949953421312; omega
  · rcases readVar_spec s.1 with h | h
    · rw [h.2]; omega
    · exact h.2.2.2.1
/-- Nothing to be read: no number stands there. -/
theorem numP_nil : (numP ([], false)).2.2 = true := rfl
theorem numP_app {n : Int} (h0 : 0 ≤ n) (h1 : n ≤ 562949953421311) (t : List UInt8) : numP (varS n ++ t, false) = (n.toNat, (t, false)) := by
  obtain ⟨m, rfl⟩ := Int.eq_ofNat_of_zero_le h0
  have h := readVar_app m (by omega) t
  have hp := varL_pos m
  rw [varS_yes (by omega), numP_some (by rw [h]; show (varL m).length ≠ 0; omega), h]
  simp
theorem textP_app {x : List UInt8} (h : x.length ≤ 562949953421311) (t : List UInt8) : textP (sizedS x ++ t, false) = (x, (t, false)) := by
  unfold textP sizedS
  rw [List.append_assoc, numP_app (by omega) (by omega)]
  show cutP (x ++ t, false) ((x.length : Int).toNat) = _
  rw [Int.toNat_natCast, cutP_yes (by simp)]
  simp
/-- If it has gone wrong it stays wrong. -/
theorem numP_stay {s : Sc} (h : s.2 = true) : (numP s).2.2 = true := by obtain ⟨r, b⟩ := s; subst h; rw [numP_bad]
theorem textP_stay {s : Sc} (h : s.2 = true) : (textP s).2.2 = true := by obtain ⟨r, b⟩ := s; subst h; rw [textP_bad]
theorem good_num {s : Sc} (h : (numP s).2.2 = false) : s.2 = false := by
  cases hs : s.2
  · rfl
  · rw [numP_stay hs] at h; cases h
theorem good_text {s : Sc} (h : (textP s).2.2 = false) : s.2 = false := by
  cases hs : s.2
  · rfl
  · rw [textP_stay hs] at h; cases h

/-! Headers. -/
def headP (l : List UInt8) : HeadT × Sc :=
  (⟨(numP (l, false)).1, (numP (numP (l, false)).2).1, (textP (numP (numP (l, false)).2).2).1, (textP (textP (numP (numP (l, false)).2).2).2).1,
    (textP (textP (textP (numP (numP (l, false)).2).2).2).2).1, (textP (textP (textP (textP (numP (numP (l, false)).2).2).2).2).2).1⟩,
   (textP (textP (textP (textP (numP (numP (l, false)).2).2).2).2).2).2)
theorem headOk_parts {x : HeadT} (h : headOkB x = true) : (1 ≤ x.h ∧ x.h ≤ 1000000) ∧ (0 ≤ x.t ∧ x.t ≤ 1000000) ∧ x.last.length ≤ 8 ∧ x.vals.length ≤ 8 ∧ x.next.length ≤ 8 ∧ x.data.length ≤ 20 := by
  unfold headOkB at h
  simp only [Bool.and_eq_true, beq_iff_eq, decide_eq_true_eq] at h
  obtain ⟨⟨⟨⟨⟨h1, h2⟩, a⟩, b⟩, c⟩, d⟩ := h
  exact ⟨inB_true h1, inB_true h2, by rw [c]; split <;> omega, by omega, by omega, d⟩
theorem headP_show {x : HeadT} (h : headOkB x = true) : headP (showHeadS x) = (x, ([], false)) := by
  obtain ⟨⟨h1, h2⟩, ⟨h3, h4⟩, l1, l2, l3, l4⟩ := headOk_parts h
  have e : showHeadS x = varS x.h ++ (varS x.t ++ (sizedS x.last ++ (sizedS x.vals ++ (sizedS x.next ++ (sizedS x.data ++ []))))) := by
    unfold showHeadS; rw [if_pos h]; simp
  unfold headP
  rw [e]
  rw [numP_app (by omega) (by omega)]
  rw [numP_app (by omega) (by omega)]
  rw [textP_app (by omega)]
  rw [textP_app (by omega)]
  rw [textP_app (by omega)]
  rw [textP_app (by omega)]
  obtain ⟨h, t, a, b, c, d⟩ := x
  simp only [HeadT.mk.injEq, Prod.mk.injEq, and_true]
  simp only at h1 h3
  exact ⟨by omega, by omega⟩
def zeroHead : HeadT := ⟨0, 0, [], [], [], []⟩
/-- What ReadHeader returns. -/
def readHeadS (l : List UInt8) : HeadT × Bool := if (headP l).2.2 = false ∧ showHeadS (headP l).1 = l ∧ l ≠ [] then ((headP l).1, true) else (zeroHead, false)
theorem showHead_ne {x : HeadT} (h : showHeadS x ≠ []) : headOkB x = true := by
  unfold showHeadS at h
  cases hx : headOkB x
  · rw [hx] at h; exact absurd rfl h
  · rfl
theorem headP_good {l : List UInt8} (h : (headP l).2.2 = false) : (numP (numP (l, false)).2).2.2 = false ∧ l ≠ [] := by
  have h2 := good_text (good_text (good_text (good_text h)))
  refine ⟨h2, fun e => ?_⟩
  subst e
  have h1 := good_num h2
  rw [numP_nil] at h1
  cases h1
/-- The reference asks that all has been read. -/
theorem readHead_spec (l : List UInt8) : readHeadS l = if (headP l).2.2 = false ∧ (headP l).2.1 = [] ∧ showHeadS (headP l).1 = l then ((headP l).1, true) else (zeroHead, false) := by
  unfold readHeadS
  by_cases h : (headP l).2.2 = false ∧ showHeadS (headP l).1 = l
  · obtain ⟨h1, h2⟩ := h
    have hl := (headP_good h1).2
    have hok := showHead_ne (x := (headP l).1) (by rw [h2]; exact hl)
    have hp := headP_show hok
    rw [h2] at hp
    rw [if_pos ⟨h1, h2, hl⟩, if_pos ⟨h1, by rw [hp], h2⟩]
  · rw [if_neg (fun hc => h ⟨hc.1, hc.2.1⟩), if_neg (fun hc => h ⟨hc.1, hc.2.2⟩)]
theorem readHead_show {x : HeadT} (h : headOkB x = true) : readHeadS (showHeadS x) = (x, true) := by
  have hp := headP_show h
  have hne : showHeadS x ≠ [] := fun e => by rw [e] at hp; have h3 : (headP []).2.2 = true := rfl; rw [hp] at h3; cases h3
  unfold readHeadS
  rw [if_pos ⟨by rw [hp], by rw [hp], hne⟩, hp]

/-! Validators. -/
def valsAt (s : Sc) : Nat → List ValT × Sc
  | 0 => ([], s)
  | i + 1 => ((valsAt s i).1 ++ [⟨(numP (valsAt s i).2).1, (numP (numP (valsAt s i).2).2).1⟩], (numP (numP (valsAt s i).2).2).2)
theorem valsAt_len (s : Sc) (i : Nat) : (valsAt s i).1.length = i ∧ (valsAt s i).2.1.length ≤ s.1.length := by
  induction i with
  | zero => exact ⟨rfl, Nat.le_refl _⟩
  | succ i ih =>
    have h1 := numP_len (valsAt s i).2
    have h2 := numP_len (numP (valsAt s i).2).2
    simp only [valsAt, List.length_append, List.length_singleton]
    omega
theorem valsAt_good {s : Sc} {i j : Nat} (h : (valsAt s i).2.2 = true) (hij : i ≤ j) : (valsAt s j).2.2 = true := by
  induction j with
  | zero => obtain rfl : i = 0 := by omega
            exact h
  | succ j ih =>
    rcases Nat.lt_or_ge j i with h1 | h1
    · obtain rfl : i = j + 1 := by omega
      exact h
    · exact numP_stay (numP_stay (ih h1))
theorem valsAt_show (vs : List ValT) (hv : ∀ v ∈ vs, (0 ≤ v.id ∧ v.id ≤ 562949953421311) ∧ (0 ≤ v.power ∧ v.power ≤ 562949953421311)) (t : List UInt8) :
    ∀ i, i ≤ vs.length → valsAt (vs.flatMap showVal ++ t, false) i = (vs.take i, ((vs.drop i).flatMap showVal ++ t, false)) := by
  intro i
  induction i with
  | zero => intro _; rfl
  | succ i ih =>
    intro hi
    obtain ⟨⟨a0, a1⟩, b0, b1⟩ := hv vs[i] (List.getElem_mem (by omega))
    rw [valsAt, ih (by omega), List.drop_eq_getElem_cons (show i < vs.length by omega), List.flatMap_cons]
    unfold showVal
    rw [List.append_assoc, List.append_assoc, numP_app a0 a1, numP_app b0 b1, List.take_succ_eq_append_getElem (show i < vs.length by omega)]
    simp only [Prod.mk.injEq, and_true, List.append_cancel_left_eq, List.cons.injEq]
    obtain ⟨x, y⟩ : ∃ v, v = vs[i] := ⟨_, rfl⟩
    have e : ∀ v : ValT, 0 ≤ v.id → 0 ≤ v.power → (⟨(v.id.toNat : Int), (v.power.toNat : Int)⟩ : ValT) = v := fun v h1 h2 => by
      obtain ⟨p, q⟩ := v; simp only at h1 h2; rw [Int.toNat_of_nonneg h1, Int.toNat_of_nonneg h2]
    exact e _ a0 b0
def valsP (l : List UInt8) : List ValT × Sc := valsAt (numP (l, false)).2 (numP (l, false)).1
/-- What ReadVals returns. -/
def readValsS (l : List UInt8) : List ValT × Bool := if (numP (l, false)).1 ≤ 7 ∧ (valsP l).2.2 = false ∧ showValsS (valsP l).1 = l then ((valsP l).1, true) else ([], false)
theorem showVals_ne {x : List ValT} (h : showValsS x ≠ []) : valsOkB x = true := by
  unfold showValsS at h
  cases hx : valsOkB x
  · rw [hx] at h; exact absurd rfl h
  · rfl
theorem valsP_ne {l : List UInt8} (h : (valsP l).2.2 = false) : l ≠ [] := by
  rintro rfl
  have : (valsP []).2.2 = true := valsAt_good (i := 0) (j := (numP ([], false)).1) numP_nil (by omega)
  rw [this] at h; cases h
theorem ascOk_all : ∀ (l : List ValT) (p : Int), ascOk p l = true → ∀ v ∈ l, valOk1 v = true := by
  intro l
  induction l with
  | nil => intro p _ v hv; simp at hv
  | cons x t ih =>
    intro p h v hv
    simp only [ascOk, Bool.and_eq_true] at h
    rcases List.mem_cons.1 hv with rfl | hv
    · exact h.1
    · exact ih _ h.2.2 v hv
theorem readVals_show {x : List ValT} (h : valsOkB x = true) : readValsS (showValsS x) = (x, true) := by
  obtain ⟨n1, n7⟩ := valsOk_len h
  have hall : ∀ v ∈ x, (0 ≤ v.id ∧ v.id ≤ 562949953421311) ∧ (0 ≤ v.power ∧ v.power ≤ 562949953421311) := fun v hv => by
    have := ascOk_all x 0 (by unfold valsOkB at h; simp only [Bool.and_eq_true] at h; exact h.2) v hv
    unfold valOk1 at this
    simp only [Bool.and_eq_true] at this
    have h1 := inB_true this.1
    have h2 := inB_true this.2
    omega
  have e : showValsS x = varS (x.length : Int) ++ (x.flatMap showVal ++ []) := by unfold showValsS; rw [if_pos h]; simp
  have e1 : numP (showValsS x, false) = (x.length, (x.flatMap showVal ++ [], false)) := by rw [e, numP_app (by omega) (by omega)]; rfl
  have e2 : valsP (showValsS x) = (x, ([], false)) := by
    unfold valsP
    rw [e1]
    show valsAt (x.flatMap showVal ++ [], false) x.length = _
    rw [valsAt_show x hall [] x.length (Nat.le_refl _)]
    simp
  unfold readValsS
  rw [if_pos ⟨by rw [e1]; exact n7, by rw [e2], by rw [e2]⟩, e2]
end Go.Proofs.YtecimgkgdpnaeaaDoor

/-
  Commits as plain data; what ShowCommit and ReadCommit return. No program in sight.
-/
namespace Go.Proofs.YtecimgkgdpnaeaaDoor
set_option linter.unusedVariables false
set_option linter.unusedSimpArgs false
open Go.RowKit

structure SigT where
  val : Int
  sig : List UInt8
structure CommitT where
  h : Int
  r : Int
  id : List UInt8
  sigs : List SigT
/-- The cells of a row of signatures. -/
def scells (l : List SigT) : List Value := l.flatMap fun v => [.int .i64 v.val, .string (S v.sig)]
theorem scells_length (l : List SigT) : (scells l).length = l.length * 2 := by
  induction l with
  | nil => rfl
  | cons v l ih => simp only [scells, List.flatMap_cons, List.length_append, List.length_cons, List.length_nil] at ih ⊢; omega
theorem scells_append (a b : List SigT) : scells (a ++ b) = scells a ++ scells b := by unfold scells; rw [List.flatMap_append]
theorem scells_one (v : SigT) : scells [v] = [.int .i64 v.val, .string (S v.sig)] := rfl
theorem scells_cons (v : SigT) (l : List SigT) : scells (v :: l) = .int .i64 v.val :: .string (S v.sig) :: scells l := rfl
theorem scells_at (l : List SigT) : ∀ (j : Nat) (h : j < l.length), (scells l)[j * 2]? = some (.int .i64 l[j].val) ∧ (scells l)[j * 2 + 1]? = some (.string (S l[j].sig)) := by
  induction l with
  | nil => intro j h; simp at h
  | cons v l ih =>
    intro j h
    match j, h with
    | 0, _ => exact ⟨rfl, rfl⟩
    | j + 1, h =>
      rw [scells_cons, show (j + 1) * 2 = j * 2 + 1 + 1 from by omega]
      simp only [List.getElem?_cons_succ, List.getElem_cons_succ]
      exact ih j (by simpa using h)
/-- A slice at A reads as these signatures, below block B. -/
def SReads (w : World) (B : Nat) (A : Option Addr) (l : List SigT) : Prop :=
  0 < l.length → ∃ b off, A = some ⟨b, off, none⟩ ∧ b < B ∧ ∀ (j : Nat) (h : j < l.length), w.cell? ⟨b, off + j * 2, none⟩ = some (.int .i64 l[j].val) ∧ w.cell? ⟨b, off + j * 2 + 1, none⟩ = some (.string (S l[j].sig))
theorem SReads.below {w w' : World} {B B' : Nat} {A : Option Addr} {l : List SigT} (h : SReads w B A l) (hb : Below B' w w') (hB : B ≤ B') : SReads w' B A l := fun hl => by
  obtain ⟨b, off, rfl, hbB, hc⟩ := h hl
  exact ⟨b, off, rfl, hbB, fun j hj => ⟨(hb.cell (p := ⟨b, _, none⟩) (by show b < B'; omega)).trans (hc j hj).1, (hb.cell (p := ⟨b, _, none⟩) (by show b < B'; omega)).trans (hc j hj).2⟩⟩
theorem SReads.more {w : World} {B B' : Nat} {A : Option Addr} {l : List SigT} (h : SReads w B A l) (hB : B ≤ B') : SReads w B' A l := fun hl => by
  obtain ⟨b, off, rfl, hbB, hc⟩ := h hl
  exact ⟨b, off, rfl, by omega, hc⟩
/-- Onto a later world, whole. -/
theorem SReads.to {w w' : World} {A : Option Addr} {l : List SigT} (h : SReads w w.heap.size A l) (hb : Below w.heap.size w w') : SReads w' w'.heap.size A l := (h.below hb (Nat.le_refl _)).more hb.size
theorem SReads.of_own {w : World} {base : Nat} {e : TypeId} {A : Option Addr} {c : Nat} {l : List SigT} (h : w.ownsRow base e 2 (.slice A l.length c) l.length (scells l)) : SReads w w.heap.size A l := fun hl => by
  obtain ⟨g, cap, hv, _, hlt⟩ := h.form hl
  simp only [Value.slice.injEq] at hv
  obtain ⟨rfl, _, _⟩ := hv
  refine ⟨g, 0, rfl, hlt, fun j hj => ?_⟩
  have h1 := h.cellAt (j * 2) (by omega)
  have h2 := h.cellAt (j * 2 + 1) (by omega)
  rw [(scells_at l j hj).1] at h1
  rw [(scells_at l j hj).2] at h2
  rw [Nat.zero_add]
  exact ⟨h1, h2⟩

/-! The encoding. -/
def sigOk (s : SigT) : Bool := inB s.val 1 99 && decide (s.sig.length ≤ 8)
def showSig (s : SigT) : List UInt8 := varS s.val ++ sizedS s.sig
def headC (x : CommitT) : Bool := inB x.h 1 1000000 && inB x.r 0 1000 && isIdB x.id && decide (x.sigs.length ≤ 12)
/-- What ShowCommit returns. -/
def showCommitS (x : CommitT) : List UInt8 :=
  if headC x = true ∧ x.sigs.all sigOk = true then varS x.h ++ varS x.r ++ sizedS x.id ++ varS (x.sigs.length : Int) ++ x.sigs.flatMap showSig else []
theorem showSig_take (l : List SigT) (k : Nat) (h : k < l.length) : (l.take (k + 1)).flatMap showSig = (l.take k).flatMap showSig ++ (varS l[k].val ++ sizedS l[k].sig) := by
  rw [List.take_succ_eq_append_getElem h, List.flatMap_append]; simp [showSig]
theorem sized_len8 (l : List UInt8) : (sizedS l).length ≤ 8 + l.length := by
  have := varS_len (l.length : Int)
  unfold sizedS; rw [List.length_append]; omega
theorem showSig_len (l : List SigT) (h : ∀ s ∈ l, sigOk s = true) : (l.flatMap showSig).length ≤ 24 * l.length := by
  induction l with
  | nil => simp
  | cons v l ih =>
    have h1 := varS_len v.val
    have h2 := sized_len8 v.sig
    have h3 := h v (by simp)
    unfold sigOk at h3
    simp only [Bool.and_eq_true, decide_eq_true_eq] at h3
    have := ih (fun s hs => h s (by simp [hs]))
    simp only [List.flatMap_cons, List.length_append, showSig, List.length_cons] at this ⊢
    omega

/-! Reading. -/
def sigsAt (s : Sc) : Nat → List SigT × Sc
  | 0 => ([], s)
  | i + 1 => ((sigsAt s i).1 ++ [⟨(numP (sigsAt s i).2).1, (textP (numP (sigsAt s i).2).2).1⟩], (textP (numP (sigsAt s i).2).2).2)
theorem sigsAt_len (s : Sc) (i : Nat) : (sigsAt s i).1.length = i ∧ (sigsAt s i).2.1.length ≤ s.1.length := by
  induction i with
  | zero => exact ⟨rfl, Nat.le_refl _⟩
  | succ i ih =>
    have h1 := numP_len (sigsAt s i).2
    have h2 := textP_len (numP (sigsAt s i).2).2
    simp only [sigsAt, List.length_append, List.length_singleton]
    omega
theorem sigsAt_good {s : Sc} {i j : Nat} (h : (sigsAt s i).2.2 = true) (hij : i ≤ j) : (sigsAt s j).2.2 = true := by
  induction j with
  | zero => obtain rfl : i = 0 := by omega
            exact h
  | succ j ih =>
    rcases Nat.lt_or_ge j i with h1 | h1
    · obtain rfl : i = j + 1 := by omega
      exact h
    · exact textP_stay (numP_stay (ih h1))
theorem sigsAt_show (vs : List SigT) (hv : ∀ v ∈ vs, sigOk v = true) (t : List UInt8) :
    ∀ i, i ≤ vs.length → sigsAt (vs.flatMap showSig ++ t, false) i = (vs.take i, ((vs.drop i).flatMap showSig ++ t, false)) := by
  intro i
  induction i with
  | zero => intro _; rfl
  | succ i ih =>
    intro hi
    have hok := hv vs[i] (List.getElem_mem (by omega))
    unfold sigOk at hok
    simp only [Bool.and_eq_true, decide_eq_true_eq] at hok
    have hb := inB_true hok.1
    rw [sigsAt, ih (by omega), List.drop_eq_getElem_cons (show i < vs.length by omega), List.flatMap_cons]
    unfold showSig
    rw [List.append_assoc, List.append_assoc, numP_app (by omega) (by omega), textP_app (by omega), List.take_succ_eq_append_getElem (show i < vs.length by omega)]
    simp only [Prod.mk.injEq, and_true, List.append_cancel_left_eq, List.cons.injEq]
    have e : ∀ v : SigT, 0 ≤ v.val → (⟨(v.val.toNat : Int), v.sig⟩ : SigT) = v := fun v h1 => by
      obtain ⟨p, q⟩ := v; simp only at h1; rw [Int.toNat_of_nonneg h1]
    exact e _ (by omega)
/-- The numbers and the text ahead of the signatures' number. -/
def comH (l : List UInt8) : Nat × Nat × List UInt8 × Sc :=
  ((numP (l, false)).1, (numP (numP (l, false)).2).1, (textP (numP (numP (l, false)).2).2).1, (textP (numP (numP (l, false)).2).2).2)
def comN (l : List UInt8) : Nat × Sc := numP (comH l).2.2.2
def comP (l : List UInt8) : CommitT × Sc := (⟨(comH l).1, (comH l).2.1, (comH l).2.2.1, (sigsAt (comN l).2 (comN l).1).1⟩, (sigsAt (comN l).2 (comN l).1).2)
def zeroCom : CommitT := ⟨0, 0, [], []⟩
/-- What ReadCommit returns. -/
def readComS (l : List UInt8) : CommitT × Bool := if (comN l).1 ≤ 12 ∧ (comP l).2.2 = false ∧ showCommitS (comP l).1 = l then ((comP l).1, true) else (zeroCom, false)
theorem showCom_ne {x : CommitT} (h : showCommitS x ≠ []) : headC x = true ∧ x.sigs.all sigOk = true := by
  unfold showCommitS at h
  by_cases hx : headC x = true ∧ x.sigs.all sigOk = true
  · exact hx
  · rw [if_neg hx] at h; exact absurd rfl h
theorem showCom_parts {x : CommitT} (h : headC x = true ∧ x.sigs.all sigOk = true) :
    comH (showCommitS x) = (x.h.toNat, x.r.toNat, x.id, (varS (x.sigs.length : Int) ++ (x.sigs.flatMap showSig ++ []), false)) ∧ comN (showCommitS x) = (x.sigs.length, (x.sigs.flatMap showSig ++ [], false)) ∧ x.sigs.length ≤ 12 ∧ comP (showCommitS x) = (x, ([], false)) := by
  have hh := h.1
  unfold headC at hh
  simp only [Bool.and_eq_true, decide_eq_true_eq] at hh
  obtain ⟨⟨⟨h1, h2⟩, h3⟩, h4⟩ := hh
  have b1 := inB_true h1
  have b2 := inB_true h2
  have hid : x.id.length ≤ 8 := by
    unfold isIdB at h3
    simp only [Bool.or_eq_true, beq_iff_eq] at h3
    omega
  have e : showCommitS x = varS x.h ++ (varS x.r ++ (sizedS x.id ++ (varS (x.sigs.length : Int) ++ (x.sigs.flatMap showSig ++ [])))) := by
    unfold showCommitS; rw [if_pos h]; simp
  have c1 : comH (showCommitS x) = (x.h.toNat, x.r.toNat, x.id, (varS (x.sigs.length : Int) ++ (x.sigs.flatMap showSig ++ []), false)) := by
    unfold comH
    rw [e, numP_app (by omega) (by omega), numP_app (by omega) (by omega), textP_app (by omega)]
  have c2 : comN (showCommitS x) = (x.sigs.length, (x.sigs.flatMap showSig ++ [], false)) := by
    unfold comN
    rw [c1]
    show numP (varS (x.sigs.length : Int) ++ (x.sigs.flatMap showSig ++ []), false) = _
    rw [numP_app (by omega) (by omega)]; rfl
  refine ⟨c1, c2, h4, ?_⟩
  unfold comP
  rw [c1, c2]
  show (CommitT.mk _ _ _ (sigsAt (x.sigs.flatMap showSig ++ [], false) x.sigs.length).1, (sigsAt (x.sigs.flatMap showSig ++ [], false) x.sigs.length).2) = _
  rw [sigsAt_show x.sigs (fun v hv => List.all_eq_true.1 h.2 v hv) [] x.sigs.length (Nat.le_refl _)]
  obtain ⟨p, q, i, s⟩ := x
  simp only at b1 b2 ⊢
  rw [Int.toNat_of_nonneg (by omega), Int.toNat_of_nonneg (by omega), List.take_length, List.drop_length]
  rfl
theorem comN_ne {l : List UInt8} (h : (comN l).2.2 = false) : l ≠ [] ∧ (numP (numP (l, false)).2).2.2 = false ∧ (comH l).2.2.2.2 = false := by
  have h3 : (comH l).2.2.2.2 = false := good_num h
  have h2 : (numP (numP (l, false)).2).2.2 = false := good_text h3
  refine ⟨?_, h2, h3⟩
  rintro rfl
  have h1 := good_num h2
  rw [numP_nil] at h1
  cases h1
theorem comP_good {l : List UInt8} (h : (comP l).2.2 = false) : (comN l).2.2 = false := by
  cases hn : (comN l).2.2
  · rfl
  · have : (comP l).2.2 = true := sigsAt_good (i := 0) (j := (comN l).1) hn (by omega)
    rw [this] at h; cases h
theorem readCom_show {x : CommitT} (h : headC x = true ∧ x.sigs.all sigOk = true) : readComS (showCommitS x) = (x, true) := by
  obtain ⟨_, h2, h3, h4⟩ := showCom_parts h
  unfold readComS
  rw [if_pos ⟨by rw [h2]; exact h3, by rw [h4], by rw [h4]⟩, h4]
/-- More signatures are told than may be: nothing that ShowCommit writes is like that. -/
theorem readCom_many {l : List UInt8} (h : 12 < (comN l).1) (x : CommitT) (hl : l ≠ []) : showCommitS x ≠ l := by
  intro e
  have hok := showCom_ne (x := x) (by rw [e]; exact hl)
  obtain ⟨_, h2, h3, _⟩ := showCom_parts hok
  rw [e] at h2
  rw [h2] at h
  simp only at h
  omega
end Go.Proofs.YtecimgkgdpnaeaaDoor

/-
  append of one slice of signatures behind another.
-/
namespace Go.Proofs.YtecimgkgdpnaeaaDoor
open Go.ChangeShapes Go.WideShapes Go.ChangeAt Go.RowKit
set_option linter.unusedVariables false
set_option linter.unusedSimpArgs false
set_option maxRecDepth 100000

theorem scells_len (l : List SigT) : (scells l).length = l.length * 2 := by
  induction l with
  | nil => rfl
  | cons x t ih => rw [scells_cons, List.length_cons, List.length_cons, ih, List.length_cons]; omega
theorem scells_get {w : World} {b off : Nat} {l : List SigT} (hc : ∀ (j : Nat) (h : j < l.length), w.cell? ⟨b, off + j * 2, none⟩ = some (.int .i64 l[j].val) ∧ w.cell? ⟨b, off + j * 2 + 1, none⟩ = some (.string (S l[j].sig))) (j : Nat) (u : Value) (hj : (scells l)[j]? = some u) : w.cell? ((⟨b, off, none⟩ : Addr).add j) = some u := by
  have e : (⟨b, off, none⟩ : Addr).add j = ⟨b, off + j, none⟩ := by unfold Addr.add; split <;> simp_all
  rw [e]
  have hlt := (List.getElem?_eq_some_iff.1 hj).1
  rw [scells_len] at hlt
  have hk : j / 2 < l.length := by omega
  have h1 := scells_at l (j / 2) hk
  have h2 := hc (j / 2) hk
  rcases Nat.mod_two_eq_zero_or_one j with h0 | h0
  · have ej : j / 2 * 2 = j := by omega
    rw [ej] at h1 h2
    rw [h1.1] at hj; cases hj
    exact h2.1
  · have ej : j / 2 * 2 + 1 = j := by omega
    rw [Nat.add_assoc, ej] at h2
    rw [ej] at h1
    rw [h1.2] at hj; cases hj
    exact h2.2
theorem scells_cell (l : List SigT) : ∀ u ∈ scells l, u.oneCell' = true := by
  induction l with
  | nil => intro u hu; cases hu
  | cons x t ih =>
    intro u hu
    rw [scells_cons, List.mem_cons, List.mem_cons] at hu
    rcases hu with rfl | rfl | hu
    · rfl
    · rfl
    · exact ih u hu
/-- append(out, l...) of signatures, one step. -/
theorem wp_app_csigs {P : Program} {o : Oper} {a : Act} {K : Act → World → Prop} {Q : Exit → Act → World → Prop} (s x : Operand) (t : TypeId)
    (ho : o.op = .call { callee := .builtin .append, args := #[s, x], argTypes := #[t, t] })
    {w : World} {base : Nat} {e : TypeId} {i : TypeInfo} (ht : P.underlying t = some (.slice e)) (hi : P.info? e = some i) (hz : i.zero = some (.agg #[.int .i64 0, .string ByteArray.empty])) (hsize : i.size = 2) (hby : i.bytes = 24)
    {v : Value} {n : Nat} {xs : List Value} (hs : a.eval s = v) (hown : w.ownsRow base e 2 v n xs) (hz0 : base ≤ w.heap.size)
    {A : Option Addr} {c : Nat} {ids : List SigT} (hx : a.eval x = .slice A ids.length c) (hI : SReads w w.heap.size A ids) (hn : A = none → c = 0) (hsm : n + ids.length ≤ 1000000)
    (h : ∀ v' w', w'.ownsRow base e 2 v' (n + ids.length) (xs ++ scells ids) → w.grownBy w' v.ownBlock → (v'.ownBlock = v.ownBlock ∨ v'.ownBlock = some w.heap.size) → K (a.put o.dst v') w') :
    o.wp P a w K Q := by
  cases A with
  | none =>
    have h0 : ids = [] := by
      rcases Nat.eq_zero_or_pos ids.length with h | h
      · exact List.eq_nil_of_length_eq_zero h
      · obtain ⟨b, off, hA, _⟩ := hI h; cases hA
    subst h0
    have hrun := run_append_owned_none (P := P) (w := w) base t o.type e i 2 ht hi v n xs hown
    have hx' : a.eval x = .slice none 0 0 := by rw [hx, hn rfl]; rfl
    unfold Oper.wp
    simp [execOp, ho, resolve, invoke, builtin, hs, hx', hrun, Result.andThen]
    exact h v w (by simpa [scells] using hown) (gb_of_below (Below.refl _ _)) (.inl rfl)
  | some ad =>
    have hnews : ∀ (j : Nat) (u : Value), (scells ids)[j]? = some u → w.cell? (ad.add j) = some u := fun j u hj => by
      have hlt := (List.getElem?_eq_some_iff.1 hj).1
      rw [scells_len] at hlt
      obtain ⟨b, off, hA, _, hc⟩ := hI (by omega)
      cases hA
      exact scells_get hc j u hj
    obtain ⟨v', w', hr, h2, h3, _, h5⟩ := run_append_own_at (P := P) w base t o.type e i (.agg #[.int .i64 0, .string ByteArray.empty]) 2 24 ht hi hz hsize hby rfl (by decide) v n xs hown ad ids.length c (scells ids) (by rw [scells_len]) hnews (scells_cell ids) (by unfold maxLen; omega) (by omega) hz0
    unfold Oper.wp execOp
    simp only [ho, resolve, invoke, builtin, Sem.run_bind, Sem.run_pure, Result.andThen_ok, List.map_toArray, List.map_cons, List.map_nil, hs, hx, hr]
    exact h v' w' h2 h3 h5
/-- append(out, l...) of signatures. -/
theorem app_csigs {P : Program} {ops : Array Oper} {rest : List Oper} {o : Oper} {a : Act} {Q : Exit → Act → World → Prop} (hg : o.guard = none) (s x : Operand) (t : TypeId)
    (ho : o.op = .call { callee := .builtin .append, args := #[s, x], argTypes := #[t, t] })
    {w : World} {base : Nat} {e : TypeId} {i : TypeInfo} (ht : P.underlying t = some (.slice e)) (hi : P.info? e = some i) (hz : i.zero = some (.agg #[.int .i64 0, .string ByteArray.empty])) (hsize : i.size = 2) (hby : i.bytes = 24)
    {v : Value} {n : Nat} {xs : List Value} (hs : a.eval s = v) (hown : w.ownsRow base e 2 v n xs) (hz0 : base ≤ w.heap.size)
    {A : Option Addr} {c : Nat} {ids : List SigT} (hx : a.eval x = .slice A ids.length c) (hI : SReads w w.heap.size A ids) (hn : A = none → c = 0) (hsm : n + ids.length ≤ 1000000)
    (h : ∀ v' w', w'.ownsRow base e 2 v' (n + ids.length) (xs ++ scells ids) → Below base w w' → w.grownBy w' v.ownBlock → (v'.ownBlock = v.ownBlock ∨ v'.ownBlock = some w.heap.size) → wpList P ops Q rest (a.put o.dst v') w') :
    wpList P ops Q (o :: rest) a w :=
  wpList_plain hg fun _ hK => wp_app_csigs s x t ho ht hi hz hsize hby hs hown hz0 hx hI hn hsm fun v' w' h1 h2 h5 => hK _ _ (h v' w' h1 ((Below.refl base w).grown h2 (by omega) (fun k hk => (hown.lt k hk).1)) h2 h5)
end Go.Proofs.YtecimgkgdpnaeaaDoor

/-
  append of signatures in a region that draws its order.
-/
namespace Go.Proofs.YtecimgkgdpnaeaaDoor
open Go.ChangeShapes Go.WideShapes Go.ChangeAt Go.RowKit
set_option linter.unusedVariables false
set_option linter.unusedSimpArgs false
set_option maxRecDepth 100000

/-- .. at an operation of a region that draws its order. -/
theorem step_app_csigs {P : Program} {ops : Array Oper} {o : Oper} {a : Act} {K : Act → World → Prop} {Q : Exit → Act → World → Prop} {E : Prop} (hg : o.guard = none) (s x : Operand) (t : TypeId)
    (ho : o.op = .call { callee := .builtin .append, args := #[s, x], argTypes := #[t, t] })
    {w : World} {base : Nat} {e : TypeId} {i : TypeInfo} (ht : P.underlying t = some (.slice e)) (hi : P.info? e = some i) (hz : i.zero = some (.agg #[.int .i64 0, .string ByteArray.empty])) (hsize : i.size = 2) (hby : i.bytes = 24)
    {v : Value} {n : Nat} {xs : List Value} (hs : a.eval s = v) (hown : w.ownsRow base e 2 v n xs) (hz0 : base ≤ w.heap.size)
    {A : Option Addr} {c : Nat} {ids : List SigT} (hx : a.eval x = .slice A ids.length c) (hI : SReads w w.heap.size A ids) (hn : A = none → c = 0) (hsm : n + ids.length ≤ 1000000)
    (h : ∀ v' w', w'.ownsRow base e 2 v' (n + ids.length) (xs ++ scells ids) → Below base w w' → w.grownBy w' v.ownBlock → K (a.put o.dst v') w') :
    if Region.wanted o (yielded ops a.tmps) = true then Oper.wp P o a w K Q else E := by
  have hw : Region.wanted o (yielded ops a.tmps) = true := by simp [Region.wanted, hg]
  rw [if_pos hw]
  exact wp_app_csigs s x t ho ht hi hz hsize hby hs hown hz0 hx hI hn hsm fun v' w' h1 h2 _ => h v' w' h1 ((Below.refl base w).grown h2 (by omega) (fun k hk => (hown.lt k hk).1)) h2
end Go.Proofs.YtecimgkgdpnaeaaDoor
