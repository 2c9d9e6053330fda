/-
  ShowCommit, both, at every commit; what the scanner reads of a commit.
-/
import Derived.Test.YtabkbaepnnfjhaaCom1
namespace Go.Proofs.Ytabkbaepnnfjhaa
open Go.ChangeShapes Go.WideShapes Go.ChangeAt Go.RowKit
set_option linter.unusedVariables false

theorem iShowCommit_any (x : CommitT) (A : Option Addr) (c : Nat) (w : World) (hid : x.id.length ≤ 9223372036854775807) (hn : x.sigs.length ≤ 9223372036854775807) (hR : SReads w w.heap.size A x.sigs) (hm : ∀ s ∈ x.sigs, s.sig.length ≤ 9223372036854775807) :
    Calls Try.prog 20 #[.agg #[.int .i64 x.h, .int .i64 x.r, .string (S x.id), .slice A x.sigs.length c]] w fun e w' => e = .returned (.string (S (showCommitS x))) ∧ Below w.heap.size w w' := by
  obtain ⟨h, r, id, l⟩ := x
  cases hh : headC ⟨h, r, id, l⟩
  · exact iShowCommit_no h r id l A c w hid hn hR hh
  · exact iShowCommit_yes h r id l A c w hid hn hR hm hh
theorem sShowCommit_any (x : CommitT) (A : Option Addr) (c : Nat) (w : World) (hid : x.id.length ≤ 9223372036854775807) (hn : x.sigs.length ≤ 9223372036854775807) (hR : SReads w w.heap.size A x.sigs) (hm : ∀ s ∈ x.sigs, s.sig.length ≤ 9223372036854775807) :
    Calls Try.prog 18 #[.agg #[.int .i64 x.h, .int .i64 x.r, .string (S x.id), .slice A x.sigs.length c]] w fun e w' => e = .returned (.string (S (showCommitS x))) ∧ Below w.heap.size w w' := by
  obtain ⟨h, r, id, l⟩ := x
  cases hh : headC ⟨h, r, id, l⟩
  · exact sShowCommit_no h r id l A c w hid hn hR hh
  · exact sShowCommit_yes h r id l A c w hid hn hR hm hh
theorem sigsAt_sig (s : Sc) (i : Nat) : ∀ x ∈ (sigsAt s i).1, x.sig.length ≤ s.1.length := by
  induction i with
  | zero => intro x hx; simp [sigsAt] at hx
  | succ i ih =>
    intro x hx
    simp only [sigsAt, List.mem_append, List.mem_singleton] at hx
    rcases hx with hx | rfl
    · exact ih x hx
    · have h1 := (sigsAt_len s i).2
      have h2 := numP_len (sigsAt s i).2
      have h3 := (textP_len (numP (sigsAt s i).2).2).2
      simp only; omega
/-- What the scanner reads ahead of the signatures, a name for each. -/
theorem com_parts (l : List UInt8) : ∃ (n1 n2 n : Nat) (t1 : List UInt8) (s2 s3 s4 s5 : Sc),
    numP (l, false) = (n1, s2) ∧ numP s2 = (n2, s3) ∧ textP s3 = (t1, s4) ∧ numP s4 = (n, s5) ∧ comN l = (n, s5) ∧ (∀ i, i = n → comP l = (⟨n1, n2, t1, (sigsAt s5 i).1⟩, (sigsAt s5 i).2)) ∧
    s2.1.length ≤ l.length ∧ s3.1.length ≤ l.length ∧ s4.1.length ≤ l.length ∧ s5.1.length ≤ l.length ∧ t1.length ≤ l.length ∧ n < 562949953421312 := by
  obtain ⟨n1, s2, h1⟩ : ∃ n s, numP (l, false) = (n, s) := ⟨_, _, rfl⟩
  obtain ⟨n2, s3, h2⟩ : ∃ n s, numP s2 = (n, s) := ⟨_, _, rfl⟩
  obtain ⟨t1, s4, h3⟩ : ∃ n s, textP s3 = (n, s) := ⟨_, _, rfl⟩
  obtain ⟨n, s5, h4⟩ : ∃ n s, numP s4 = (n, s) := ⟨_, _, rfl⟩
  have a1 := numP_len (l, false)
  have a2 := numP_len s2
  have a3 := textP_len s3
  have a4 := numP_len s4
  have a5 := numP_lt s4
  rw [h1] at a1
  rw [h2] at a2
  rw [h3] at a3
  rw [h4] at a4 a5
  simp only at a1 a2 a3 a4 a5
  have hH : comH l = (n1, n2, t1, s4) := by unfold comH; simp only [h1, h2, h3]
  have hN : comN l = (n, s5) := by unfold comN; rw [hH]; exact h4
  refine ⟨n1, n2, n, t1, s2, s3, s4, s5, h1, h2, h3, h4, hN, ?_, ?_⟩
  · rintro i rfl
    unfold comP
    rw [hN, hH]
  · omega
theorem readCom_len (l : List UInt8) : (readComS l).1.sigs.length ≤ 12 ∧ (readComS l).1.id.length ≤ l.length ∧ ∀ s ∈ (readComS l).1.sigs, s.sig.length ≤ l.length := by
  obtain ⟨n1, n2, n, t1, s2, s3, s4, s5, h1, h2, h3, h4, hN, hP, l2, l3, l4, l5, q1, q2⟩ := com_parts l
  unfold readComS
  by_cases h : (comN l).1 ≤ 12 ∧ (comP l).2.2 = false ∧ showCommitS (comP l).1 = l
  · rw [if_pos h]
    rw [hN] at h
    rw [hP n rfl]
    exact ⟨by simp only [(sigsAt_len s5 n).1]; exact h.1, q1, fun s hs => Nat.le_trans (sigsAt_sig s5 n s hs) l5⟩
  · rw [if_neg h]; exact ⟨by simp [zeroCom], by simp [zeroCom], by simp [zeroCom]⟩
end Go.Proofs.Ytabkbaepnnfjhaa
