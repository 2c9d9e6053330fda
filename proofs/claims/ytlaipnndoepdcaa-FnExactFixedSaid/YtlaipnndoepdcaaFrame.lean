/-
  What the frames of the laws share: the set-up's closed facts; arguments opened.
-/
import Derived.Test.YtlaipnndoepdcaaBase
import Derived.OpenShut
import Derived.ShutString
import Derived.ChangeOld
import Derived.Below
namespace Go.Proofs.Ytlaipnndoepdcaa
open Go.ChangeShapes Go.WideShapes Go.ChangeAt Go.RowKit
open Go.ChangeMaps (open_string shut_string)

theorem own : ownKnob Try.prog.godebug = none := by kernel_rfl
theorem laidOut : laidOutB Try.prog = true := by kernel_rfl
theorem wf_hi {a : Int} (h : (Lit.int .i64 a).wf = true) : a ≤ 9223372036854775807 := by
  simp only [Lit.wf, Bool.and_eq_true, decide_eq_true_eq] at h; exact h.2
theorem wf_lo {a : Int} (h : (Lit.int .i64 a).wf = true) : -9223372036854775808 ≤ a := by
  simp only [Lit.wf, Bool.and_eq_true, decide_eq_true_eq] at h; exact h.1
theorem S_ex (b : ByteArray) : ∃ l, b = S l := ⟨_, S_of b⟩
theorem str_len {l : List UInt8} (h : (S l).size ≤ maxLen) : l.length ≤ 9223372036854775807 := by simpa [maxLen] using h
end Go.Proofs.Ytlaipnndoepdcaa
