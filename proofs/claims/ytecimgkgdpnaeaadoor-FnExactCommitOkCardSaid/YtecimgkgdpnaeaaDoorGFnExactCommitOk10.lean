/-
  Texts of this proof, laid into one: Scan0, Com0, Frame2, LawC.
-/
import Derived.Test.YtecimgkgdpnaeaaDoorGFnExactCommitOk9
import Derived.Test.YtecimgkgdpnaeaaDoorGFnExactCommitOk8
import Derived.Test.YtecimgkgdpnaeaaDoorGFnExactCommitOk4
import Derived.Test.YtecimgkgdpnaeaaDoorGFnExactCommitOk2
import Derived.Test.YtecimgkgdpnaeaaDoorGFnExactCommitOk3
import Derived.RegionTactic
import Derived.BigRegion
import Derived.Deep.RegionWith
/-
  Reading numbers and texts one behind the other, plain; what ReadHeader and ReadVals return.
-/
namespace Go.Proofs.YtecimgkgdpnaeaaDoor
set_option linter.unusedVariables false
set_option linter.unusedSimpArgs false

/-- What is left to be read, and whether something did not stand there. -/
abbrev Sc := List UInt8 × Bool
def numP (s : Sc) : Nat × Sc := if s.2 = true ∨ (readVarS s.1).2 = 0 then (0, (s.1, true)) else ((readVarS s.1).1, (s.1.drop (readVarS s.1).2, false))
def cutP (s : Sc) (n : Int) : List UInt8 × Sc := if s.2 = true ∨ n < 0 ∨ (s.1.length : Int) < n then ([], (s.1, true)) else (s.1.take n.toNat, (s.1.drop n.toNat, false))
def textP (s : Sc) : List UInt8 × Sc := cutP (numP s).2 (numP s).1
theorem numP_bad (r : List UInt8) : numP (r, true) = (0, (r, true)) := by unfold numP; rw [if_pos (.inl rfl)]
theorem cutP_bad (r : List UInt8) (n : Int) : cutP (r, true) n = ([], (r, true)) := by unfold cutP; rw [if_pos (.inl rfl)]
theorem textP_bad (r : List UInt8) : textP (r, true) = ([], (r, true)) := by unfold textP; rw [numP_bad, cutP_bad]
theorem numP_none {r : List UInt8} (h : (readVarS r).2 = 0) : numP (r, false) = (0, (r, true)) := by unfold numP; rw [if_pos (.inr h)]
theorem numP_some {r : List UInt8} (h : (readVarS r).2 ≠ 0) : numP (r, false) = ((readVarS r).1, (r.drop (readVarS r).2, false)) := by unfold numP; rw [if_neg (by simpa using h)]
theorem cutP_no {r : List UInt8} {n : Int} (h : n < 0 ∨ (r.length : Int) < n) : cutP (r, false) n = ([], (r, true)) := by unfold cutP; rw [if_pos (.inr h)]
theorem cutP_yes {r : List UInt8} {n : Nat} (h : n ≤ r.length) : cutP (r, false) n = (r.take n, (r.drop n, false)) := by
  unfold cutP; rw [if_neg (by simp; omega)]; simp
theorem numP_len (s : Sc) : (numP s).2.1.length ≤ s.1.length := by
  unfold numP; split
  · exact Nat.le_refl _
  · simp
theorem cutP_len (s : Sc) (n : Int) : (cutP s n).2.1.length ≤ s.1.length ∧ (cutP s n).1.length ≤ s.1.length := by
  unfold cutP; split
  · exact ⟨Nat.le_refl _, by simp⟩
  · exact ⟨by simp, by simp; omega⟩
theorem textP_len (s : Sc) : (textP s).2.1.length ≤ s.1.length ∧ (textP s).1.length ≤ s.1.length := by
  have h1 := numP_len s
  have h2 := cutP_len (numP s).2 (numP s).1
  unfold textP; omega
theorem numP_lt (s : Sc) : (numP s).1 < 562949953421312 := by
  unfold numP; split
  · show 0 < 562949953421312; omega
  · rcases readVar_spec s.1 with h | h
    · rw [h.2]; omega
    · exact h.2.2.2.1
/-- Nothing to be read: no number stands there. -/
theorem numP_nil : (numP ([], false)).2.2 = true := rfl
theorem numP_app {n : Int} (h0 : 0 ≤ n) (h1 : n ≤ 562949953421311) (t : List UInt8) : numP (varS n ++ t, false) = (n.toNat, (t, false)) := by
  obtain ⟨m, rfl⟩ := Int.eq_ofNat_of_zero_le h0
  have h := readVar_app m (by omega) t
  have hp := varL_pos m
  rw [varS_yes (by omega), numP_some (by rw [h]; show (varL m).length ≠ 0; omega), h]
  simp
theorem textP_app {x : List UInt8} (h : x.length ≤ 562949953421311) (t : List UInt8) : textP (sizedS x ++ t, false) = (x, (t, false)) := by
  unfold textP sizedS
  rw [List.append_assoc, numP_app (by omega) (by omega)]
  show cutP (x ++ t, false) ((x.length : Int).toNat) = _
  rw [Int.toNat_natCast, cutP_yes (by simp)]
  simp
/-- If it has gone wrong it stays wrong. -/
theorem numP_stay {s : Sc} (h : s.2 = true) : (numP s).2.2 = true := by obtain ⟨r, b⟩ := s; subst h; rw [numP_bad]
theorem textP_stay {s : Sc} (h : s.2 = true) : (textP s).2.2 = true := by obtain ⟨r, b⟩ := s; subst h; rw [textP_bad]
theorem good_num {s : Sc} (h : (numP s).2.2 = false) : s.2 = false := by
  cases hs : s.2
  · rfl
  · rw [numP_stay hs] at h; cases h
theorem good_text {s : Sc} (h : (textP s).2.2 = false) : s.2 = false := by
  cases hs : s.2
  · rfl
  · rw [textP_stay hs] at h; cases h

/-! Headers. -/
def headP (l : List UInt8) : HeadT × Sc :=
  (⟨(numP (l, false)).1, (numP (numP (l, false)).2).1, (textP (numP (numP (l, false)).2).2).1, (textP (textP (numP (numP (l, false)).2).2).2).1,
    (textP (textP (textP (numP (numP (l, false)).2).2).2).2).1, (textP (textP (textP (textP (numP (numP (l, false)).2).2).2).2).2).1⟩,
   (textP (textP (textP (textP (numP (numP (l, false)).2).2).2).2).2).2)
theorem headOk_parts {x : HeadT} (h : headOkB x = true) : (1 ≤ x.h ∧ x.h ≤ 1000000) ∧ (0 ≤ x.t ∧ x.t ≤ 1000000) ∧ x.last.length ≤ 8 ∧ x.vals.length ≤ 8 ∧ x.next.length ≤ 8 ∧ x.data.length ≤ 20 := by
  unfold headOkB at h
  simp only [Bool.and_eq_true, beq_iff_eq, decide_eq_true_eq] at h
  obtain ⟨⟨⟨⟨⟨h1, h2⟩, a⟩, b⟩, c⟩, d⟩ := h
  exact ⟨inB_true h1, inB_true h2, by rw [c]; split <;> omega, by omega, by omega, d⟩
theorem headP_show {x : HeadT} (h : headOkB x = true) : headP (showHeadS x) = (x, ([], false)) := by
  obtain ⟨⟨h1, h2⟩, ⟨h3, h4⟩, l1, l2, l3, l4⟩ := headOk_parts h
  have e : showHeadS x = varS x.h ++ (varS x.t ++ (sizedS x.last ++ (sizedS x.vals ++ (sizedS x.next ++ (sizedS x.data ++ []))))) := by
    unfold showHeadS; rw [if_pos h]; simp
  unfold headP
  rw [e]
  rw [numP_app (by omega) (by omega)]
  rw [numP_app (by omega) (by omega)]
  rw [textP_app (by omega)]
  rw [textP_app (by omega)]
  rw [textP_app (by omega)]
  rw [textP_app (by omega)]
  obtain ⟨h, t, a, b, c, d⟩ := x
  simp only [HeadT.mk.injEq, Prod.mk.injEq, and_true]
  simp only at h1 h3
  exact ⟨by omega, by omega⟩
def zeroHead : HeadT := ⟨0, 0, [], [], [], []⟩
/-- What ReadHeader returns. -/
def readHeadS (l : List UInt8) : HeadT × Bool := if (headP l).2.2 = false ∧ showHeadS (headP l).1 = l ∧ l ≠ [] then ((headP l).1, true) else (zeroHead, false)
theorem showHead_ne {x : HeadT} (h : showHeadS x ≠ []) : headOkB x = true := by
  unfold showHeadS at h
  cases hx : headOkB x
  · rw [hx] at h; exact absurd rfl h
  · rfl
theorem headP_good {l : List UInt8} (h : (headP l).2.2 = false) : (numP (numP (l, false)).2).2.2 = false ∧ l ≠ [] := by
  have h2 := good_text (good_text (good_text (good_text h)))
  refine ⟨h2, fun e => ?_⟩
  subst e
  have h1 := good_num h2
  rw [numP_nil] at h1
  cases h1
/-- The reference asks that all has been read. -/
theorem readHead_spec (l : List UInt8) : readHeadS l = if (headP l).2.2 = false ∧ (headP l).2.1 = [] ∧ showHeadS (headP l).1 = l then ((headP l).1, true) else (zeroHead, false) := by
  unfold readHeadS
  by_cases h : (headP l).2.2 = false ∧ showHeadS (headP l).1 = l
  · obtain ⟨h1, h2⟩ := h
    have hl := (headP_good h1).2
    have hok := showHead_ne (x := (headP l).1) (by rw [h2]; exact hl)
    have hp := headP_show hok
    rw [h2] at hp
    rw [if_pos ⟨h1, h2, hl⟩, if_pos ⟨h1, by rw [hp], h2⟩]
  · rw [if_neg (fun hc => h ⟨hc.1, hc.2.1⟩), if_neg (fun hc => h ⟨hc.1, hc.2.2⟩)]
theorem readHead_show {x : HeadT} (h : headOkB x = true) : readHeadS (showHeadS x) = (x, true) := by
  have hp := headP_show h
  have hne : showHeadS x ≠ [] := fun e => by rw [e] at hp; have h3 : (headP []).2.2 = true := rfl; rw [hp] at h3; cases h3
  unfold readHeadS
  rw [if_pos ⟨by rw [hp], by rw [hp], hne⟩, hp]

/-! Validators. -/
def valsAt (s : Sc) : Nat → List ValT × Sc
  | 0 => ([], s)
  | i + 1 => ((valsAt s i).1 ++ [⟨(numP (valsAt s i).2).1, (numP (numP (valsAt s i).2).2).1⟩], (numP (numP (valsAt s i).2).2).2)
theorem valsAt_len (s : Sc) (i : Nat) : (valsAt s i).1.length = i ∧ (valsAt s i).2.1.length ≤ s.1.length := by
  induction i with
  | zero => exact ⟨rfl, Nat.le_refl _⟩
  | succ i ih =>
    have h1 := numP_len (valsAt s i).2
    have h2 := numP_len (numP (valsAt s i).2).2
    simp only [valsAt, List.length_append, List.length_singleton]
    omega
theorem valsAt_good {s : Sc} {i j : Nat} (h : (valsAt s i).2.2 = true) (hij : i ≤ j) : (valsAt s j).2.2 = true := by
  induction j with
  | zero => obtain rfl : i = 0 := by omega
            exact h
  | succ j ih =>
    rcases Nat.lt_or_ge j i with h1 | h1
    · obtain rfl : i = j + 1 := by omega
      exact h
    · exact numP_stay (numP_stay (ih h1))
theorem valsAt_show (vs : List ValT) (hv : ∀ v ∈ vs, (0 ≤ v.id ∧ v.id ≤ 562949953421311) ∧ (0 ≤ v.power ∧ v.power ≤ 562949953421311)) (t : List UInt8) :
    ∀ i, i ≤ vs.length → valsAt (vs.flatMap showVal ++ t, false) i = (vs.take i, ((vs.drop i).flatMap showVal ++ t, false)) := by
  intro i
  induction i with
  | zero => intro _; rfl
  | succ i ih =>
    intro hi
    obtain ⟨⟨a0, a1⟩, b0, b1⟩ := hv vs[i] (List.getElem_mem (by omega))
    rw [valsAt, ih (by omega), List.drop_eq_getElem_cons (show i < vs.length by omega), List.flatMap_cons]
    unfold showVal
    rw [List.append_assoc, List.append_assoc, numP_app a0 a1, numP_app b0 b1, List.take_succ_eq_append_getElem (show i < vs.length by omega)]
    simp only [Prod.mk.injEq, and_true, List.append_cancel_left_eq, List.cons.injEq]
    obtain ⟨x, y⟩ : ∃ v, v = vs[i] := ⟨_, rfl⟩
    have e : ∀ v : ValT, 0 ≤ v.id → 0 ≤ v.power → (⟨(v.id.toNat : Int), (v.power.toNat : Int)⟩ : ValT) = v := fun v h1 h2 => by
      obtain ⟨p, q⟩ := v; simp only at h1 h2; rw [Int.toNat_of_nonneg h1, Int.toNat_of_nonneg h2]
    exact e _ a0 b0
def valsP (l : List UInt8) : List ValT × Sc := valsAt (numP (l, false)).2 (numP (l, false)).1
/-- What ReadVals returns. -/
def readValsS (l : List UInt8) : List ValT × Bool := if (numP (l, false)).1 ≤ 7 ∧ (valsP l).2.2 = false ∧ showValsS (valsP l).1 = l then ((valsP l).1, true) else ([], false)
theorem showVals_ne {x : List ValT} (h : showValsS x ≠ []) : valsOkB x = true := by
  unfold showValsS at h
  cases hx : valsOkB x
  · rw [hx] at h; exact absurd rfl h
  · rfl
theorem valsP_ne {l : List UInt8} (h : (valsP l).2.2 = false) : l ≠ [] := by
  rintro rfl
  have : (valsP []).2.2 = true := valsAt_good (i := 0) (j := (numP ([], false)).1) numP_nil (by omega)
  rw [this] at h; cases h
theorem ascOk_all : ∀ (l : List ValT) (p : Int), ascOk p l = true → ∀ v ∈ l, valOk1 v = true := by
  intro l
  induction l with
  | nil => intro p _ v hv; simp at hv
  | cons x t ih =>
    intro p h v hv
    simp only [ascOk, Bool.and_eq_true] at h
    rcases List.mem_cons.1 hv with rfl | hv
    · exact h.1
    · exact ih _ h.2.2 v hv
theorem readVals_show {x : List ValT} (h : valsOkB x = true) : readValsS (showValsS x) = (x, true) := by
  obtain ⟨n1, n7⟩ := valsOk_len h
  have hall : ∀ v ∈ x, (0 ≤ v.id ∧ v.id ≤ 562949953421311) ∧ (0 ≤ v.power ∧ v.power ≤ 562949953421311) := fun v hv => by
    have := ascOk_all x 0 (by unfold valsOkB at h; simp only [Bool.and_eq_true] at h; exact h.2) v hv
    unfold valOk1 at this
    simp only [Bool.and_eq_true] at this
    have h1 := inB_true this.1
    have h2 := inB_true this.2
    omega
  have e : showValsS x = varS (x.length : Int) ++ (x.flatMap showVal ++ []) := by unfold showValsS; rw [if_pos h]; simp
  have e1 : numP (showValsS x, false) = (x.length, (x.flatMap showVal ++ [], false)) := by rw [e, numP_app (by omega) (by omega)]; rfl
  have e2 : valsP (showValsS x) = (x, ([], false)) := by
    unfold valsP
    rw [e1]
    show valsAt (x.flatMap showVal ++ [], false) x.length = _
    rw [valsAt_show x hall [] x.length (Nat.le_refl _)]
    simp
  unfold readValsS
  rw [if_pos ⟨by rw [e1]; exact n7, by rw [e2], by rw [e2]⟩, e2]
end Go.Proofs.YtecimgkgdpnaeaaDoor

/-
  Commits as plain data; what ShowCommit and ReadCommit return. No program in sight.
-/
namespace Go.Proofs.YtecimgkgdpnaeaaDoor
set_option linter.unusedVariables false
set_option linter.unusedSimpArgs false
open Go.RowKit

structure SigT where
  val : Int
  sig : List UInt8
structure CommitT where
  h : Int
  r : Int
  id : List UInt8
  sigs : List SigT
/-- The cells of a row of signatures. -/
def scells (l : List SigT) : List Value := l.flatMap fun v => [.int .i64 v.val, .string (S v.sig)]
theorem scells_length (l : List SigT) : (scells l).length = l.length * 2 := by
  induction l with
  | nil => rfl
  | cons v l ih => simp only [scells, List.flatMap_cons, List.length_append, List.length_cons, List.length_nil] at ih ⊢; omega
theorem scells_append (a b : List SigT) : scells (a ++ b) = scells a ++ scells b := by unfold scells; rw [List.flatMap_append]
theorem scells_one (v : SigT) : scells [v] = [.int .i64 v.val, .string (S v.sig)] := rfl
theorem scells_cons (v : SigT) (l : List SigT) : scells (v :: l) = .int .i64 v.val :: .string (S v.sig) :: scells l := rfl
theorem scells_at (l : List SigT) : ∀ (j : Nat) (h : j < l.length), (scells l)[j * 2]? = some (.int .i64 l[j].val) ∧ (scells l)[j * 2 + 1]? = some (.string (S l[j].sig)) := by
  induction l with
  | nil => intro j h; simp at h
  | cons v l ih =>
    intro j h
    match j, h with
    | 0, _ => exact ⟨rfl, rfl⟩
    | j + 1, h =>
      rw [scells_cons, show (j + 1) * 2 = j * 2 + 1 + 1 from by omega]
      simp only [List.getElem?_cons_succ, List.getElem_cons_succ]
      exact ih j (by simpa using h)
/-- A slice at A reads as these signatures, below block B. -/
def SReads (w : World) (B : Nat) (A : Option Addr) (l : List SigT) : Prop :=
  0 < l.length → ∃ b off, A = some ⟨b, off, none⟩ ∧ b < B ∧ ∀ (j : Nat) (h : j < l.length), w.cell? ⟨b, off + j * 2, none⟩ = some (.int .i64 l[j].val) ∧ w.cell? ⟨b, off + j * 2 + 1, none⟩ = some (.string (S l[j].sig))
theorem SReads.below {w w' : World} {B B' : Nat} {A : Option Addr} {l : List SigT} (h : SReads w B A l) (hb : Below B' w w') (hB : B ≤ B') : SReads w' B A l := fun hl => by
  obtain ⟨b, off, rfl, hbB, hc⟩ := h hl
  exact ⟨b, off, rfl, hbB, fun j hj => ⟨(hb.cell (p := ⟨b, _, none⟩) (by show b < B'; omega)).trans (hc j hj).1, (hb.cell (p := ⟨b, _, none⟩) (by show b < B'; omega)).trans (hc j hj).2⟩⟩
theorem SReads.more {w : World} {B B' : Nat} {A : Option Addr} {l : List SigT} (h : SReads w B A l) (hB : B ≤ B') : SReads w B' A l := fun hl => by
  obtain ⟨b, off, rfl, hbB, hc⟩ := h hl
  exact ⟨b, off, rfl, by omega, hc⟩
/-- Onto a later world, whole. -/
theorem SReads.to {w w' : World} {A : Option Addr} {l : List SigT} (h : SReads w w.heap.size A l) (hb : Below w.heap.size w w') : SReads w' w'.heap.size A l := (h.below hb (Nat.le_refl _)).more hb.size
theorem SReads.of_own {w : World} {base : Nat} {e : TypeId} {A : Option Addr} {c : Nat} {l : List SigT} (h : w.ownsRow base e 2 (.slice A l.length c) l.length (scells l)) : SReads w w.heap.size A l := fun hl => by
  obtain ⟨g, cap, hv, _, hlt⟩ := h.form hl
  simp only [Value.slice.injEq] at hv
  obtain ⟨rfl, _, _⟩ := hv
  refine ⟨g, 0, rfl, hlt, fun j hj => ?_⟩
  have h1 := h.cellAt (j * 2) (by omega)
  have h2 := h.cellAt (j * 2 + 1) (by omega)
  rw [(scells_at l j hj).1] at h1
  rw [(scells_at l j hj).2] at h2
  rw [Nat.zero_add]
  exact ⟨h1, h2⟩

/-! The encoding. -/
def sigOk (s : SigT) : Bool := inB s.val 1 99 && decide (s.sig.length ≤ 8)
def showSig (s : SigT) : List UInt8 := varS s.val ++ sizedS s.sig
def headC (x : CommitT) : Bool := inB x.h 1 1000000 && inB x.r 0 1000 && isIdB x.id && decide (x.sigs.length ≤ 12)
/-- What ShowCommit returns. -/
def showCommitS (x : CommitT) : List UInt8 :=
  if headC x = true ∧ x.sigs.all sigOk = true then varS x.h ++ varS x.r ++ sizedS x.id ++ varS (x.sigs.length : Int) ++ x.sigs.flatMap showSig else []
theorem showSig_take (l : List SigT) (k : Nat) (h : k < l.length) : (l.take (k + 1)).flatMap showSig = (l.take k).flatMap showSig ++ (varS l[k].val ++ sizedS l[k].sig) := by
  rw [List.take_succ_eq_append_getElem h, List.flatMap_append]; simp [showSig]
theorem sized_len8 (l : List UInt8) : (sizedS l).length ≤ 8 + l.length := by
  have := varS_len (l.length : Int)
  unfold sizedS; rw [List.length_append]; omega
theorem showSig_len (l : List SigT) (h : ∀ s ∈ l, sigOk s = true) : (l.flatMap showSig).length ≤ 24 * l.length := by
  induction l with
  | nil => simp
  | cons v l ih =>
    have h1 := varS_len v.val
    have h2 := sized_len8 v.sig
    have h3 := h v (by simp)
    unfold sigOk at h3
    simp only [Bool.and_eq_true, decide_eq_true_eq] at h3
    have := ih (fun s hs => h s (by simp [hs]))
    simp only [List.flatMap_cons, List.length_append, showSig, List.length_cons] at this ⊢
    omega

/-! Reading. -/
def sigsAt (s : Sc) : Nat → List SigT × Sc
  | 0 => ([], s)
  | i + 1 => ((sigsAt s i).1 ++ [⟨(numP (sigsAt s i).2).1, (textP (numP (sigsAt s i).2).2).1⟩], (textP (numP (sigsAt s i).2).2).2)
theorem sigsAt_len (s : Sc) (i : Nat) : (sigsAt s i).1.length = i ∧ (sigsAt s i).2.1.length ≤ s.1.length := by
  induction i with
  | zero => exact ⟨rfl, Nat.le_refl _⟩
  | succ i ih =>
    have h1 := numP_len (sigsAt s i).2
    have h2 := textP_len (numP (sigsAt s i).2).2
    simp only [sigsAt, List.length_append, List.length_singleton]
    omega
theorem sigsAt_good {s : Sc} {i j : Nat} (h : (sigsAt s i).2.2 = true) (hij : i ≤ j) : (sigsAt s j).2.2 = true := by
  induction j with
  | zero => obtain rfl : i = 0 := by omega
            exact h
  | succ j ih =>
    rcases Nat.lt_or_ge j i with h1 | h1
    · obtain rfl : i = j + 1 := by omega
      exact h
    · exact textP_stay (numP_stay (ih h1))
theorem sigsAt_show (vs : List SigT) (hv : ∀ v ∈ vs, sigOk v = true) (t : List UInt8) :
    ∀ i, i ≤ vs.length → sigsAt (vs.flatMap showSig ++ t, false) i = (vs.take i, ((vs.drop i).flatMap showSig ++ t, false)) := by
  intro i
  induction i with
  | zero => intro _; rfl
  | succ i ih =>
    intro hi
    have hok := hv vs[i] (List.getElem_mem (by omega))
    unfold sigOk at hok
    simp only [Bool.and_eq_true, decide_eq_true_eq] at hok
    have hb := inB_true hok.1
    rw [sigsAt, ih (by omega), List.drop_eq_getElem_cons (show i < vs.length by omega), List.flatMap_cons]
    unfold showSig
    rw [List.append_assoc, List.append_assoc, numP_app (by omega) (by omega), textP_app (by omega), List.take_succ_eq_append_getElem (show i < vs.length by omega)]
    simp only [Prod.mk.injEq, and_true, List.append_cancel_left_eq, List.cons.injEq]
    have e : ∀ v : SigT, 0 ≤ v.val → (⟨(v.val.toNat : Int), v.sig⟩ : SigT) = v := fun v h1 => by
      obtain ⟨p, q⟩ := v; simp only at h1; rw [Int.toNat_of_nonneg h1]
    exact e _ (by omega)
/-- The numbers and the text ahead of the signatures' number. -/
def comH (l : List UInt8) : Nat × Nat × List UInt8 × Sc :=
  ((numP (l, false)).1, (numP (numP (l, false)).2).1, (textP (numP (numP (l, false)).2).2).1, (textP (numP (numP (l, false)).2).2).2)
def comN (l : List UInt8) : Nat × Sc := numP (comH l).2.2.2
def comP (l : List UInt8) : CommitT × Sc := (⟨(comH l).1, (comH l).2.1, (comH l).2.2.1, (sigsAt (comN l).2 (comN l).1).1⟩, (sigsAt (comN l).2 (comN l).1).2)
def zeroCom : CommitT := ⟨0, 0, [], []⟩
/-- What ReadCommit returns. -/
def readComS (l : List UInt8) : CommitT × Bool := if (comN l).1 ≤ 12 ∧ (comP l).2.2 = false ∧ showCommitS (comP l).1 = l then ((comP l).1, true) else (zeroCom, false)
theorem showCom_ne {x : CommitT} (h : showCommitS x ≠ []) : headC x = true ∧ x.sigs.all sigOk = true := by
  unfold showCommitS at h
  by_cases hx : headC x = true ∧ x.sigs.all sigOk = true
  · exact hx
  · rw [if_neg hx] at h; exact absurd rfl h
theorem showCom_parts {x : CommitT} (h : headC x = true ∧ x.sigs.all sigOk = true) :
    comH (showCommitS x) = (x.h.toNat, x.r.toNat, x.id, (varS (x.sigs.length : Int) ++ (x.sigs.flatMap showSig ++ []), false)) ∧ comN (showCommitS x) = (x.sigs.length, (x.sigs.flatMap showSig ++ [], false)) ∧ x.sigs.length ≤ 12 ∧ comP (showCommitS x) = (x, ([], false)) := by
  have hh := h.1
  unfold headC at hh
  simp only [Bool.and_eq_true, decide_eq_true_eq] at hh
  obtain ⟨⟨⟨h1, h2⟩, h3⟩, h4⟩ := hh
  have b1 := inB_true h1
  have b2 := inB_true h2
  have hid : x.id.length ≤ 8 := by
    unfold isIdB at h3
    simp only [Bool.or_eq_true, beq_iff_eq] at h3
    omega
  have e : showCommitS x = varS x.h ++ (varS x.r ++ (sizedS x.id ++ (varS (x.sigs.length : Int) ++ (x.sigs.flatMap showSig ++ [])))) := by
    unfold showCommitS; rw [if_pos h]; simp
  have c1 : comH (showCommitS x) = (x.h.toNat, x.r.toNat, x.id, (varS (x.sigs.length : Int) ++ (x.sigs.flatMap showSig ++ []), false)) := by
    unfold comH
    rw [e, numP_app (by omega) (by omega), numP_app (by omega) (by omega), textP_app (by omega)]
  have c2 : comN (showCommitS x) = (x.sigs.length, (x.sigs.flatMap showSig ++ [], false)) := by
    unfold comN
    rw [c1]
    show numP (varS (x.sigs.length : Int) ++ (x.sigs.flatMap showSig ++ []), false) = _
    rw [numP_app (by omega) (by omega)]; rfl
  refine ⟨c1, c2, h4, ?_⟩
  unfold comP
  rw [c1, c2]
  show (CommitT.mk _ _ _ (sigsAt (x.sigs.flatMap showSig ++ [], false) x.sigs.length).1, (sigsAt (x.sigs.flatMap showSig ++ [], false) x.sigs.length).2) = _
  rw [sigsAt_show x.sigs (fun v hv => List.all_eq_true.1 h.2 v hv) [] x.sigs.length (Nat.le_refl _)]
  obtain ⟨p, q, i, s⟩ := x
  simp only at b1 b2 ⊢
  rw [Int.toNat_of_nonneg (by omega), Int.toNat_of_nonneg (by omega), List.take_length, List.drop_length]
  rfl
theorem comN_ne {l : List UInt8} (h : (comN l).2.2 = false) : l ≠ [] ∧ (numP (numP (l, false)).2).2.2 = false ∧ (comH l).2.2.2.2 = false := by
  have h3 : (comH l).2.2.2.2 = false := good_num h
  have h2 : (numP (numP (l, false)).2).2.2 = false := good_text h3
  refine ⟨?_, h2, h3⟩
  rintro rfl
  have h1 := good_num h2
  rw [numP_nil] at h1
  cases h1
theorem comP_good {l : List UInt8} (h : (comP l).2.2 = false) : (comN l).2.2 = false := by
  cases hn : (comN l).2.2
  · rfl
  · have : (comP l).2.2 = true := sigsAt_good (i := 0) (j := (comN l).1) hn (by omega)
    rw [this] at h; cases h
theorem readCom_show {x : CommitT} (h : headC x = true ∧ x.sigs.all sigOk = true) : readComS (showCommitS x) = (x, true) := by
  obtain ⟨_, h2, h3, h4⟩ := showCom_parts h
  unfold readComS
  rw [if_pos ⟨by rw [h2]; exact h3, by rw [h4], by rw [h4]⟩, h4]
/-- More signatures are told than may be: nothing that ShowCommit writes is like that. -/
theorem readCom_many {l : List UInt8} (h : 12 < (comN l).1) (x : CommitT) (hl : l ≠ []) : showCommitS x ≠ l := by
  intro e
  have hok := showCom_ne (x := x) (by rw [e]; exact hl)
  obtain ⟨_, h2, h3, _⟩ := showCom_parts hok
  rw [e] at h2
  rw [h2] at h
  simp only at h
  omega
end Go.Proofs.YtecimgkgdpnaeaaDoor

/-
  Arguments opened, more: bytes, texts, commits.
-/
namespace Go.Proofs.YtecimgkgdpnaeaaDoor
open Go.ChangeShapes Go.WideShapes Go.ChangeAt Go.RowKit
set_option linter.unusedVariables false
section
open Go.Joins Go.Deep
variable {H : Type} {enc : TypeId × Value → H} {P : Program} {w : World} {base : Nat} {spare : Nat → Bool} {held : Bool}
theorem cell_u8 {ft : TypeId} {n : Nat} {c : Value} {y : DataW H × List MemPlace} (hu : P.underlying ft = some (.int .u8)) (h : DataW.trod enc P w base spare held n ft [c] = some y) : ∃ a : UInt8, c = .int .u8 (a.toNat : Int) := by
  obtain ⟨a, e, _, hw⟩ := DataW.trod_int hu h
  simp at e
  simp only [Lit.wf, Bool.and_eq_true, decide_eq_true_eq] at hw
  have h1 : 0 ≤ a := hw.1
  have h2 : a ≤ 255 := hw.2
  refine ⟨UInt8.ofNat a.toNat, ?_⟩
  rw [e, UInt8.toNat_ofNat', Nat.mod_eq_of_lt (by omega)]
  congr 1
  omega
theorem in_bytes {r : Reach} {b0 : Nat} {t e : TypeId} {v : Value} {d : DataW H} {p : List MemPlace} (ht : P.underlying t = some (.slice e)) (he : P.underlying e = some (.int .u8)) (hC : P.cellsOf e = 1)
    (hv : Value.okWide P w r b0 t v) (h : DataW.Trod enc P w base spare held t v d p) (hlt : ∀ x ∈ p, x.block < w.heap.size) :
    ∃ (A : Option Addr) (c : Nat) (l : List UInt8), v = .slice A l.length c ∧ l.length ≤ 9223372036854775807 ∧ BReads w w.heap.size A l := by
  obtain ⟨A, n, c, rfl⟩ := okWide_slice ht hv
  obtain ⟨fuel, hf⟩ := h
  rcases open_slice ht hf with ⟨hcs, _⟩ | ⟨a, len, cap, m, n', D, Pl, hcs, hb, hl, hm, hmm, hx, hi⟩
  · simp [Value.cells] at hcs
    obtain ⟨rfl, rfl, rfl⟩ := hcs
    exact ⟨none, 0, [], rfl, by simp, fun h => absurd h (by simp)⟩
  · simp [Value.cells] at hcs
    obtain ⟨rfl, rfl, rfl⟩ := hcs
    have hlm : n ≤ m := by rw [hmm]; split <;> omega
    have key : ∀ i, i < n → ∃ x : UInt8, w.cell? (a.add i) = some (.int .u8 (x.toNat : Int)) := by
      intro i hin
      obtain ⟨cs', hc, ht'⟩ := hi i (by omega)
      rw [hC, Nat.mul_one] at hc
      obtain ⟨_, hcl, hat⟩ := World.cells?_some hc
      match cs', hcl with
      | [z0], _ =>
        obtain ⟨x0, rfl⟩ := cell_u8 he ht'
        have h0 := hat 0 (by omega)
        rw [Go.Deep.add_add] at h0
        exact ⟨x0, h0⟩
    obtain ⟨f, hfk⟩ : ∃ f : Nat → UInt8, ∀ i, i < n → w.cell? (a.add i) = some (.int .u8 ((f i).toNat : Int)) := ⟨fun i => if h : i < n then Classical.choose (key i h) else 0, fun i h => by simp only [dif_pos h]; exact Classical.choose_spec (key i h)⟩
    clear key
    refine ⟨some a, c, (List.range n).map f, by simp, by simp; unfold maxLen at hm; omega, fun hn => ?_⟩
    simp only [List.length_map, List.length_range] at hn
    have hsp := spot_none (hfk 0 hn)
    obtain ⟨b, o, s⟩ := a
    have hs : s = none := by
      have : ((⟨b, o, s⟩ : Addr).add 0).spot = s := by simp [Addr.add]
      rw [this] at hsp
      exact hsp
    subst hs
    have hbl : b < w.heap.size := by
      have := World.block_lt_of_cell? w _ (hfk 0 hn)
      rw [block_of_add] at this
      exact this
    refine ⟨b, o, rfl, hbl, fun j hj => ?_⟩
    simp only [List.length_map, List.length_range] at hj
    have hk := hfk j hj
    rw [plain_add] at hk
    rw [List.getElem_map, List.getElem_range]
    exact hk

theorem in_strings {r : Reach} {b0 : Nat} {t e : TypeId} {v : Value} {d : DataW H} {p : List MemPlace} (ht : P.underlying t = some (.slice e)) (he : P.underlying e = some .string) (hC : P.cellsOf e = 1)
    (hv : Value.okWide P w r b0 t v) (h : DataW.Trod enc P w base spare held t v d p) (hlt : ∀ x ∈ p, x.block < w.heap.size) :
    ∃ (A : Option Addr) (c : Nat) (l : List (List UInt8)), v = .slice A l.length c ∧ l.length ≤ 9223372036854775807 ∧ (∀ x ∈ l, x.length ≤ 9223372036854775807) ∧ TReads w w.heap.size A l := by
  obtain ⟨A, n, c, rfl⟩ := okWide_slice ht hv
  obtain ⟨fuel, hf⟩ := h
  rcases open_slice ht hf with ⟨hcs, _⟩ | ⟨a, len, cap, m, n', D, Pl, hcs, hb, hl, hm, hmm, hx, hi⟩
  · simp [Value.cells] at hcs
    obtain ⟨rfl, rfl, rfl⟩ := hcs
    exact ⟨none, 0, [], rfl, by simp, by simp, fun h => absurd h (by simp)⟩
  · simp [Value.cells] at hcs
    obtain ⟨rfl, rfl, rfl⟩ := hcs
    have hlm : n ≤ m := by rw [hmm]; split <;> omega
    have key : ∀ i, i < n → ∃ x : List UInt8, w.cell? (a.add i) = some (.string (S x)) ∧ x.length ≤ 9223372036854775807 := by
      intro i hin
      obtain ⟨cs', hc, ht'⟩ := hi i (by omega)
      rw [hC, Nat.mul_one] at hc
      obtain ⟨_, hcl, hat⟩ := World.cells?_some hc
      match cs', hcl with
      | [z0], _ =>
        obtain ⟨x0, rfl, hx0⟩ := cell_string he ht'
        have h0 := hat 0 (by omega)
        rw [Go.Deep.add_add] at h0
        exact ⟨x0, h0, hx0⟩
    obtain ⟨f, hfk0⟩ : ∃ f : Nat → List UInt8, ∀ i, i < n → w.cell? (a.add i) = some (.string (S (f i))) ∧ (f i).length ≤ 9223372036854775807 := ⟨fun i => if h : i < n then Classical.choose (key i h) else [], fun i h => by simp only [dif_pos h]; exact Classical.choose_spec (key i h)⟩
    clear key
    have hfk := fun i h => (hfk0 i h).1
    refine ⟨some a, c, (List.range n).map f, by simp, by simp; unfold maxLen at hm; omega, fun x hx => ?_, fun hn => ?_⟩
    · obtain ⟨i, hi, rfl⟩ := List.mem_map.1 hx
      exact (hfk0 i (by simpa using hi)).2
    simp only [List.length_map, List.length_range] at hn
    have hsp := spot_none (hfk 0 hn)
    obtain ⟨b, o, s⟩ := a
    have hs : s = none := by
      have : ((⟨b, o, s⟩ : Addr).add 0).spot = s := by simp [Addr.add]
      rw [this] at hsp
      exact hsp
    subst hs
    have hbl : b < w.heap.size := by
      have := World.block_lt_of_cell? w _ (hfk 0 hn)
      rw [block_of_add] at this
      exact this
    refine ⟨b, o, rfl, hbl, fun j hj => ?_⟩
    simp only [List.length_map, List.length_range] at hj
    have hk := hfk j hj
    rw [plain_add] at hk
    rw [List.getElem_map, List.getElem_range]
    exact hk

theorem sigs_of_trod {t e : TypeId} {f0 f1 : Field} {v : Value} {fuel : Nat} {y : DataW H × List MemPlace} (ht : P.underlying t = some (.slice e)) (he : P.underlying e = some (.struct #[f0, f1]))
    (u0 : P.underlying f0.type = some (.int .i64)) (u1 : P.underlying f1.type = some .string) (hone : oneCellFields P #[f0, f1] = true) (hC : P.cellsOf e = 2)
    (hf : DataW.trod enc P w base spare held fuel t [v] = some y) :
    ∃ (A : Option Addr) (c : Nat) (l : List SigT), v = .slice A l.length c ∧ l.length ≤ 9223372036854775807 ∧ (∀ x ∈ l, x.sig.length ≤ 9223372036854775807) ∧ SReads w w.heap.size A l := by
  rcases open_slice ht hf with ⟨hcs, _⟩ | ⟨a, len, cap, m, n', D, Pl, hcs, hb, hl, hm, hmm, hx, hi⟩
  · obtain rfl : v = .slice none 0 0 := by simpa using hcs
    exact ⟨none, 0, [], rfl, by simp, by simp, fun h => absurd h (by simp)⟩
  · obtain rfl : v = .slice (some a) len cap := by simpa using hcs
    obtain ⟨n, rfl⟩ : ∃ n, n = len := ⟨_, rfl⟩
    obtain ⟨c, rfl⟩ : ∃ c, c = cap := ⟨_, rfl⟩
    have hlm : n ≤ m := by rw [hmm]; split <;> omega
    have key : ∀ i, i < n → ∃ x : SigT, w.cell? (a.add (i * 2)) = some (.int .i64 x.val) ∧ w.cell? (a.add (i * 2 + 1)) = some (.string (S x.sig)) ∧ x.sig.length ≤ 9223372036854775807 := by
      intro i hin
      obtain ⟨cs', hc, ht'⟩ := hi i (by omega)
      rw [hC] at hc
      obtain ⟨ys, n2, hn', hy, hlen, hyl, hg⟩ := DataW.trod_struct he ht'
      obtain ⟨_, hcl, hat⟩ := World.cells?_some hc
      obtain ⟨o0, k0⟩ := hone_of hone 0 f0 rfl
      obtain ⟨o1, k1⟩ := hone_of hone 1 f1 rfl
      match cs', hcl with
      | [z0, z1], _ =>
        match ys, hyl with
        | [y0, y1], _ =>
          have e0 : DataW.trod enc P w base spare held n2 f0.type [z0] = some y0 := by simpa [o0, k0] using hg 0 f0 rfl
          have e1 : DataW.trod enc P w base spare held n2 f1.type [z1] = some y1 := by simpa [o1, k1] using hg 1 f1 rfl
          obtain ⟨x0, rfl, _, _⟩ := cell_int u0 e0
          obtain ⟨x1, rfl, hx1⟩ := cell_string u1 e1
          have h0 := hat 0 (by omega)
          have h1 := hat 1 (by omega)
          rw [Go.Deep.add_add] at h0 h1
          exact ⟨⟨x0, x1⟩, h0, h1, hx1⟩
    obtain ⟨f, hfk⟩ : ∃ f : Nat → SigT, ∀ i, i < n → w.cell? (a.add (i * 2)) = some (.int .i64 (f i).val) ∧ w.cell? (a.add (i * 2 + 1)) = some (.string (S (f i).sig)) ∧ (f i).sig.length ≤ 9223372036854775807 := ⟨fun i => if h : i < n then Classical.choose (key i h) else ⟨0, []⟩, fun i h => by simp only [dif_pos h]; exact Classical.choose_spec (key i h)⟩
    clear key
    refine ⟨some a, c, (List.range n).map f, by simp, by simp; unfold maxLen at hm; omega, fun x hx => ?_, fun hn => ?_⟩
    · obtain ⟨i, hi, rfl⟩ := List.mem_map.1 hx
      exact (hfk i (by simpa using hi)).2.2
    simp only [List.length_map, List.length_range] at hn
    have hsp := spot_none (hfk 0 hn).1
    obtain ⟨b, o, s⟩ := a
    have hs : s = none := by
      have : ((⟨b, o, s⟩ : Addr).add (0 * 2)).spot = s := by simp [Addr.add]
      rw [this] at hsp
      exact hsp
    subst hs
    have hbl : b < w.heap.size := by
      have := World.block_lt_of_cell? w _ (hfk 0 hn).1
      rw [block_of_add] at this
      exact this
    refine ⟨b, o, rfl, hbl, fun j hj => ?_⟩
    simp only [List.length_map, List.length_range] at hj
    have hk := hfk j hj
    rw [plain_add, plain_add] at hk
    rw [List.getElem_map, List.getElem_range]
    exact ⟨hk.1, by rw [Nat.add_assoc]; exact hk.2.1⟩


theorem in_commit {r : Reach} {b0 : Nat} {t e : TypeId} {f0 f1 f2 f3 g0 g1 : Field} {v : Value} {d : DataW H} {p : List MemPlace} (hs : P.underlying t = some (.struct #[f0, f1, f2, f3])) (u0 : P.underlying f0.type = some (.int .i64)) (u1 : P.underlying f1.type = some (.int .i64)) (u2 : P.underlying f2.type = some .string) (u3 : P.underlying f3.type = some (.slice e))
    (he : P.underlying e = some (.struct #[g0, g1])) (v0 : P.underlying g0.type = some (.int .i64)) (v1 : P.underlying g1.type = some .string) (hone : oneCellFields P #[f0, f1, f2, f3] = true) (hone2 : oneCellFields P #[g0, g1] = true) (hC : P.cellsOf t = 4) (hC2 : P.cellsOf e = 2)
    (hv : Value.okWide P w r b0 t v) (h : DataW.Trod enc P w base spare held t v d p) :
    ∃ (x : CommitT) (A : Option Addr) (c : Nat), v = .agg #[.int .i64 x.h, .int .i64 x.r, .string (S x.id), .slice A x.sigs.length c] ∧ (-9223372036854775808 ≤ x.h ∧ x.h ≤ 9223372036854775807 ∧ -9223372036854775808 ≤ x.r ∧ x.r ≤ 9223372036854775807 ∧ x.id.length ≤ 9223372036854775807) ∧ x.sigs.length ≤ 9223372036854775807 ∧ (∀ s ∈ x.sigs, s.sig.length ≤ 9223372036854775807) ∧ SReads w w.heap.size A x.sigs := by
  obtain ⟨cs, rfl, hsz⟩ := okWide_struct hs hv
  obtain ⟨l⟩ := cs
  match l, hsz.trans hC with
  | [c0, c1, c2, c3], _ =>
    obtain ⟨fuel, hf⟩ := h
    obtain ⟨xs, n, _, hx, _, hlen, hg⟩ := DataW.trod_struct hs hf
    obtain ⟨o0, k0⟩ := hone_of hone 0 f0 rfl
    obtain ⟨o1, k1⟩ := hone_of hone 1 f1 rfl
    obtain ⟨o2, k2⟩ := hone_of hone 2 f2 rfl
    obtain ⟨o3, k3⟩ := hone_of hone 3 f3 rfl
    match xs, hlen with
    | [y0, y1, y2, y3], _ =>
      have e0 : DataW.trod enc P w base spare held n f0.type [c0] = some y0 := by simpa [Value.cells, o0, k0] using hg 0 f0 rfl
      have e1 : DataW.trod enc P w base spare held n f1.type [c1] = some y1 := by simpa [Value.cells, o1, k1] using hg 1 f1 rfl
      have e2 : DataW.trod enc P w base spare held n f2.type [c2] = some y2 := by simpa [Value.cells, o2, k2] using hg 2 f2 rfl
      have e3 : DataW.trod enc P w base spare held n f3.type [c3] = some y3 := by simpa [Value.cells, o3, k3] using hg 3 f3 rfl
      obtain ⟨a0, rfl, l0, m0⟩ := cell_int u0 e0
      obtain ⟨a1, rfl, l1, m1⟩ := cell_int u1 e1
      obtain ⟨a2, rfl, l2⟩ := cell_string u2 e2
      obtain ⟨A, c, ss, rfl, s1, s2, s3⟩ := sigs_of_trod u3 he v0 v1 hone2 hC2 e3
      exact ⟨⟨a0, a1, a2, ss⟩, A, c, rfl, ⟨l0, m0, l1, m1, l2⟩, s1, s2, s3⟩

end
end Go.Proofs.YtecimgkgdpnaeaaDoor

/-
  The laws' helpers over signatures of a commit: toCSig, toCSigS, eqCSig, eqCSigS.
-/
namespace Go.Proofs.YtecimgkgdpnaeaaDoor
open Go.ChangeShapes Go.WideShapes Go.ChangeAt Go.RowKit
set_option linter.unusedVariables false
set_option linter.unusedSimpArgs false
set_option maxRecDepth 100000

def SigT.cell (v : SigT) : Value := .agg #[.int .i64 v.val, .string (S v.sig)]
theorem info_csig : (Tryd.prog.info? 85).map (fun i => (i.zero, i.size, i.bytes)) = some (some (.agg #[.int .i64 0, .string ByteArray.empty]), 2, 24) := by kernel_rfl

theorem toCSig_any (v : SigT) (w : World) :
    Calls Tryd.prog 97 #[v.cell] w fun e w' => e = .returned v.cell ∧ Below w.heap.size w w' := by
  obtain ⟨i, p⟩ := v
  simp only [SigT.cell]
  go_enter Tryd.func97, Tryd.ntmps97
  go_wp2
  refine bodyPost_ret (v := .agg #[.int .i64 i, .string (S p)]) (by simp [results, Tryd.results97, go_sem]) rfl ⟨rfl, ?_⟩
  repeat (first | exact Below.refl _ _ | refine Below.setCell ?_ (by simp <;> omega) _ | refine Below.alloc ?_ (by simp <;> omega) _)

theorem eqCSig_same (i : Int) (p : List UInt8) (w : World) :
    Calls Tryd.prog 103 #[.agg #[.int .i64 i, .string (S p)], .agg #[.int .i64 i, .string (S p)]] w fun e w' => e = .returned (.bool true) ∧ Below w.heap.size w w' := by
  go_enter Tryd.func103, Tryd.ntmps103
  go_wp2
  go_ret
  refine ⟨rfl, ?_⟩
  repeat (first | exact Below.refl _ _ | refine Below.alloc ?_ (by simp <;> omega) _)

theorem scells_set (m : List SigT) : ∀ (k : Nat) (i : Int) (p : List UInt8), k < m.length → ((scells m).set (k * 2) (.int .i64 i)).set (k * 2 + 1) (.string (S p)) = scells (m.set k ⟨i, p⟩) := by
  induction m with
  | nil => intro k i p h; simp at h
  | cons v m ih =>
    intro k i p h
    match k, h with
    | 0, _ => rfl
    | k + 1, h =>
      rw [scells_cons, show (k + 1) * 2 = k * 2 + 1 + 1 from by omega]
      simp only [List.set_cons_succ, scells_cons]
      rw [ih k i p (by simpa using h)]
theorem scells_zeros (n : Nat) : (madeCells (Value.agg #[.int .i64 0, .string ByteArray.empty]).cells (n * 2)).toList = scells (List.replicate n ⟨0, []⟩) := by
  refine List.ext_getElem? fun j => ?_
  rcases Nat.lt_or_ge j (n * 2) with h | h
  · have hm : j / 2 < (List.replicate n (⟨0, []⟩ : SigT)).length := by simp; omega
    have h2 := scells_at (List.replicate n ⟨0, []⟩) (j / 2) hm
    rw [List.getElem?_eq_getElem (by simp [madeCells]; omega)]
    rcases Nat.mod_two_eq_zero_or_one j with hj | hj
    · have e : j / 2 * 2 = j := by omega
      rw [e] at h2
      rw [h2.1]
      simp [madeCells, Value.cells, hj]
    · have e : j / 2 * 2 + 1 = j := by omega
      rw [e] at h2
      rw [h2.2]
      simp [madeCells, Value.cells, hj]
      rfl
  · rw [List.getElem?_eq_none (by simp [madeCells]; omega), List.getElem?_eq_none (by rw [scells_length]; simp; omega)]
theorem fill_sig (l : List SigT) (k : Nat) (h : k < l.length) : (l.take k ++ List.replicate (l.length - k) (⟨0, []⟩ : SigT)).set k ⟨l[k].val, l[k].sig⟩ = l.take (k + 1) ++ List.replicate (l.length - (k + 1)) (⟨0, []⟩ : SigT) := by
  rw [List.set_append_right _ _ (by simp; omega), List.take_succ_eq_append_getElem h, List.append_assoc]
  congr 1
  rw [show k - (l.take k).length = 0 from by simp; omega, show l.length - k = (l.length - (k + 1)) + 1 from by omega, List.replicate_succ]
  rfl

theorem toCSigS_any (A : Option Addr) (c : Nat) (l : List SigT) (w : World) (hl : l.length ≤ 4194304) (hR : SReads w w.heap.size A l) :
    Calls Tryd.prog 67 #[.slice A l.length c] w fun e w' => e = .returned (.slice (some ⟨w.heap.size, 0, none⟩) l.length l.length) ∧ w'.ownsRow w.heap.size 85 2 (.slice (some ⟨w.heap.size, 0, none⟩) l.length l.length) l.length (scells l) ∧ Below w.heap.size w w' := by
  have HR := Lib.hid hR
  clear hR
  obtain ⟨i0, hi, hz0, hz1, hz2⟩ := info_parts info_csig
  go_enter Tryd.func67, Tryd.ntmps67
  go_wp2_with (at_make; refine wpList_make_full _ rfl _ _ 31 rfl w.heap.size 85 i0 _ 2 Tryd.underlying31 hi hz0 hz1 .i64 .i64 _ _ l.length rfl rfl rfl rfl (by rw [hz2]; omega) (by unfold maxLen; omega) (Nat.le_refl _) ?_; intro w1 hown hgrow)
  have hb1 : Below w.heap.size w w1 := (Below.refl _ _).grown hgrow (Nat.le_refl _) (fun _ h => by cases h)
  go_loopw [4] (fun i wr => ∃ k : Nat, k ≤ l.length ∧ i = .int .i64 k ∧ wr.ownsRow w.heap.size 85 2 (.slice (some ⟨w.heap.size, 0, none⟩) l.length l.length) l.length (scells (l.take k ++ List.replicate (l.length - k) ⟨0, []⟩)) ∧ Below w.heap.size w wr) (fun i _ => l.length - (intOf i).toNat)
  case atStart => exact ⟨0, by omega, rfl, by rw [scells_zeros] at hown; simpa using hown, hb1⟩
  case round =>
    obtain ⟨k, hk, rfl, hown, hb⟩ := hrel
    by_cases hlt : k < l.length
    · obtain ⟨b, off, rfl, hbB, hc⟩ := ((HR.out.below hb (Nat.le_refl _)).more hb.size) (by omega)
      obtain ⟨c0, c1⟩ := hc k hlt
      have hki : 0 ≤ (k : Int) ∧ (k : Int) < l.length := by omega
      have hgb : w.heap.size < wr.heap.size := (hown.lt _ rfl).2
      clear hc
      go_wp2_with fail
      refine (toCSig_any ⟨l[k].val, l[k].sig⟩ _).mono ?_
      rintro e wn ⟨rfl, hbn⟩
      have hb2 := Below.next (w := w) hb hbn
      have hown2 := own_below hown hbn
      have hlen : (l.take k ++ List.replicate (l.length - k) (⟨0, []⟩ : SigT)).length = l.length := by simp; omega
      obtain ⟨u0, s0⟩ : ∃ u, wn.cell? ⟨w.heap.size, k * 2, none⟩ = some u := ⟨_, (hown2.cellAt (k * 2) (by omega)).trans (scells_at _ k (by omega)).1⟩
      obtain ⟨u1, s1⟩ : ∃ u, wn.cell? ⟨w.heap.size, k * 2 + 1, none⟩ = some u := ⟨_, (hown2.cellAt (k * 2 + 1) (by omega)).trans (scells_at _ k (by omega)).2⟩
      have f0 := hown2.frozenAt (k * 2)
      have f1 := hown2.frozenAt (k * 2 + 1)
      have hst := ((hown2.stored (k * 2) (.int .i64 l[k].val)).1.stored (k * 2 + 1) (.string (S l[k].sig))).1
      rw [scells_set _ k _ _ (by omega), fill_sig l k hlt] at hst
      have HST := Lib.hid hst
      clear hst hown hown2 hbn hlen c0 c1 hb
      simp only [SigT.cell]
      go_wp2
      go_roundw
      case rel => exact ⟨k + 1, by omega, by go_num, HST.out, (hb2.setCell (Nat.le_refl _) _).setCell (Nat.le_refl _) _⟩
      case measure => simp [intOf]; omega
    · have hkl : Hid (k = l.length) := by unfold Hid; omega
      go_wp2
      go_ret
      exact ⟨rfl, by have := hown; rw [hkl.out] at this; simpa using this, hb⟩

/-- eqCSigS at two slices that read as one list. -/
theorem eqCSigS_same (A1 A2 : Option Addr) (c1 c2 : Nat) (l : List SigT) (w : World) (hl : l.length ≤ 4194304) (hR1 : SReads w w.heap.size A1 l) (hR2 : SReads w w.heap.size A2 l) :
    Calls Tryd.prog 71 #[.slice A1 l.length c1, .slice A2 l.length c2] w fun e w' => e = .returned (.bool true) ∧ Below w.heap.size w w' := by
  have HR1 := Lib.hid hR1
  have HR2 := Lib.hid hR2
  clear hR1 hR2
  go_enter Tryd.func71, Tryd.ntmps71
  go_wp2
  go_loopw [5] (fun i wr => ∃ k : Nat, k ≤ l.length ∧ i = .int .i64 k ∧ Below w.heap.size w wr) (fun i _ => l.length - (intOf i).toNat)
  case atStart => exact ⟨0, by omega, rfl, Below.refl _ _⟩
  case round =>
    obtain ⟨k, hk, rfl, hb⟩ := hrel
    by_cases hlt : k < l.length
    · obtain ⟨b1, o1, rfl, hbB1, hc1⟩ := ((HR1.out.below hb (Nat.le_refl _)).more hb.size) (by omega)
      obtain ⟨b2, o2, rfl, hbB2, hc2⟩ := ((HR2.out.below hb (Nat.le_refl _)).more hb.size) (by omega)
      obtain ⟨x0, x1⟩ := hc1 k hlt
      obtain ⟨y0, y1⟩ := hc2 k hlt
      clear hc1 hc2
      have hki : 0 ≤ (k : Int) ∧ (k : Int) < l.length := by omega
      go_wp2_with fail
      go_region_with (go_at_call 103; refine (eqCSig_same _ _ _).mono ?_; rintro e wn ⟨rfl, hbn⟩; have hb := Below.next (w := w) hb.drew hbn)
      all_goals
        go_wp2
        go_roundw
        case rel => exact ⟨k + 1, by omega, by go_num, hb⟩
        case measure => simp [intOf]; omega
    · go_wp2
      go_ret
      exact ⟨rfl, hb⟩
end Go.Proofs.YtecimgkgdpnaeaaDoor
