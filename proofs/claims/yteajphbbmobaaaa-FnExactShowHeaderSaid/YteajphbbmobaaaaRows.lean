/-
  No cell of these rows narrows 'for every input' (looked for: loops, veiled, ifaces, maps, wideKeys, modest, calm, conditions, laid).
  DERIVED. THE GIVEN ROWS OF THIS SEAT. 11 by the template 'for every input the law returns true; each argument reads behind the call as it read before'; 0 by the template 'total and deterministic' (their statements: YteajphbbmobaaaaTotals.lean).
  GIVEN WITH THE SEED: the statements are not yours to turn. If you find one false, say at which input.
  Laid BY PROGRAM, IN A SANDBOX (cutbox-rows.mjs): the forced cells as the released guide's own fill.sh prints them over the translation 89ca666ebf3de4cb… (all of the seat's roots in one cut). By AI agents, Wed Nov 11 2026. No macro, syntax, notation, axiom, sorry.
-/
import Derived.Test.YteajphbbmobaaaaChecked
import GoSem.Claim
import GoSem.ClaimJoined
import GoSem.ClaimMapViews
import Derived.JoinedTies
import Derived.KernelRfl
namespace Go.Proofs.Yteajphbbmobaaaa
/- THE CELL 'sum', in the pinned program and in every row, IS THE sha256 OF THE DUMP (.gsa) THAT YteajphbbmobaaaaProg.lean LOADS. Nothing in Lean hashes anything: it is a label: what it is worth is what the hold of that sum in a sandbox is worth. -/
noncomputable def Try.pinned : Pinned := { name := "yteajphbbmobaaaa", sum := "89ca666ebf3de4cb328f95402ead6f0b48637952af8ba069a7fc8865274f2b31", checked := Try.checked }
namespace Rows
def none {H : Type} : Left H := { results := [], args := [] }

/-- 'laws.FnExactValsOk': WHATEVER THE INPUT: true; the input reads as it did. -/
def fnExactValsOkSpec : ChangeSpec := { name := "fnExactValsOk", fn := fun _ => fun
  | [d] => { results := [.lit (.bool true)], args := [d] }
  | _ => none }
def fnExactValsOkRow : OpenClaim := { program := "yteajphbbmobaaaa", sum := "89ca666ebf3de4cb328f95402ead6f0b48637952af8ba069a7fc8865274f2b31", func := "loop.example/g00946/laws.FnExactValsOk", spec := "fnExactValsOk", apart := false }
def FnExactValsOkSaid : Prop := fnExactValsOkRow.holds Try.pinned (OpenSpec.ofChange fnExactValsOkSpec)

/-- ITS FALSE NEIGHBOUR: 'it returns false'. Refute it at one input. -/
def fnExactValsOkWrong : ChangeSpec := { name := "fnExactValsOk", fn := fun _ => fun
  | [d] => { results := [.lit (.bool false)], args := [d] }
  | _ => none }
def FnExactValsOkWrongFalsely : Prop := fnExactValsOkRow.holds Try.pinned (OpenSpec.ofChange fnExactValsOkWrong)

/-- 'laws.FnExactDigest': WHATEVER THE INPUT: true; the input reads as it did. -/
def fnExactDigestSpec : ChangeSpec := { name := "fnExactDigest", fn := fun _ => fun
  | [d] => { results := [.lit (.bool true)], args := [d] }
  | _ => none }
def fnExactDigestRow : OpenClaim := { program := "yteajphbbmobaaaa", sum := "89ca666ebf3de4cb328f95402ead6f0b48637952af8ba069a7fc8865274f2b31", func := "loop.example/g00946/laws.FnExactDigest", spec := "fnExactDigest", apart := false }
def FnExactDigestSaid : Prop := fnExactDigestRow.holds Try.pinned (OpenSpec.ofChange fnExactDigestSpec)

/-- ITS FALSE NEIGHBOUR: 'it returns false'. Refute it at one input. -/
def fnExactDigestWrong : ChangeSpec := { name := "fnExactDigest", fn := fun _ => fun
  | [d] => { results := [.lit (.bool false)], args := [d] }
  | _ => none }
def FnExactDigestWrongFalsely : Prop := fnExactDigestRow.holds Try.pinned (OpenSpec.ofChange fnExactDigestWrong)

/-- 'laws.FnExactProposer': WHATEVER THE INPUT: true; the input reads as it did. -/
def fnExactProposerSpec : ChangeSpec := { name := "fnExactProposer", fn := fun _ => fun
  | [d1, d2, d3] => { results := [.lit (.bool true)], args := [d1, d2, d3] }
  | _ => none }
def fnExactProposerRow : OpenClaim := { program := "yteajphbbmobaaaa", sum := "89ca666ebf3de4cb328f95402ead6f0b48637952af8ba069a7fc8865274f2b31", func := "loop.example/g00946/laws.FnExactProposer", spec := "fnExactProposer", apart := false }
def FnExactProposerSaid : Prop := fnExactProposerRow.holds Try.pinned (OpenSpec.ofChange fnExactProposerSpec)

/-- ITS FALSE NEIGHBOUR: 'it returns false'. Refute it at one input. -/
def fnExactProposerWrong : ChangeSpec := { name := "fnExactProposer", fn := fun _ => fun
  | [d1, d2, d3] => { results := [.lit (.bool false)], args := [d1, d2, d3] }
  | _ => none }
def FnExactProposerWrongFalsely : Prop := fnExactProposerRow.holds Try.pinned (OpenSpec.ofChange fnExactProposerWrong)

/-- 'laws.FnExactReadDec': WHATEVER THE INPUT: true; the input reads as it did. -/
def fnExactReadDecSpec : ChangeSpec := { name := "fnExactReadDec", fn := fun _ => fun
  | [d] => { results := [.lit (.bool true)], args := [d] }
  | _ => none }
def fnExactReadDecRow : OpenClaim := { program := "yteajphbbmobaaaa", sum := "89ca666ebf3de4cb328f95402ead6f0b48637952af8ba069a7fc8865274f2b31", func := "loop.example/g00946/laws.FnExactReadDec", spec := "fnExactReadDec", apart := false }
def FnExactReadDecSaid : Prop := fnExactReadDecRow.holds Try.pinned (OpenSpec.ofChange fnExactReadDecSpec)

/-- ITS FALSE NEIGHBOUR: 'it returns false'. Refute it at one input. -/
def fnExactReadDecWrong : ChangeSpec := { name := "fnExactReadDec", fn := fun _ => fun
  | [d] => { results := [.lit (.bool false)], args := [d] }
  | _ => none }
def FnExactReadDecWrongFalsely : Prop := fnExactReadDecRow.holds Try.pinned (OpenSpec.ofChange fnExactReadDecWrong)

/-- 'laws.FnExactPowerOf': WHATEVER THE INPUT: true; the input reads as it did. -/
def fnExactPowerOfSpec : ChangeSpec := { name := "fnExactPowerOf", fn := fun _ => fun
  | [d] => { results := [.lit (.bool true)], args := [d] }
  | _ => none }
def fnExactPowerOfRow : OpenClaim := { program := "yteajphbbmobaaaa", sum := "89ca666ebf3de4cb328f95402ead6f0b48637952af8ba069a7fc8865274f2b31", func := "loop.example/g00946/laws.FnExactPowerOf", spec := "fnExactPowerOf", unfollowed := true, recurses := true, apart := false }
def FnExactPowerOfSaid : Prop := fnExactPowerOfRow.holds Try.pinned (OpenSpec.ofChange fnExactPowerOfSpec)

/-- ITS FALSE NEIGHBOUR: 'it returns false'. Refute it at one input. -/
def fnExactPowerOfWrong : ChangeSpec := { name := "fnExactPowerOf", fn := fun _ => fun
  | [d] => { results := [.lit (.bool false)], args := [d] }
  | _ => none }
def FnExactPowerOfWrongFalsely : Prop := fnExactPowerOfRow.holds Try.pinned (OpenSpec.ofChange fnExactPowerOfWrong)

/-- 'laws.FnExactShowHeader': WHATEVER THE INPUT: true; the input reads as it did. -/
def fnExactShowHeaderSpec : ChangeSpec := { name := "fnExactShowHeader", fn := fun _ => fun
  | [d] => { results := [.lit (.bool true)], args := [d] }
  | _ => none }
def fnExactShowHeaderRow : OpenClaim := { program := "yteajphbbmobaaaa", sum := "89ca666ebf3de4cb328f95402ead6f0b48637952af8ba069a7fc8865274f2b31", func := "loop.example/g00946/laws.FnExactShowHeader", spec := "fnExactShowHeader", apart := false }
def FnExactShowHeaderSaid : Prop := fnExactShowHeaderRow.holds Try.pinned (OpenSpec.ofChange fnExactShowHeaderSpec)

/-- ITS FALSE NEIGHBOUR: 'it returns false'. Refute it at one input. -/
def fnExactShowHeaderWrong : ChangeSpec := { name := "fnExactShowHeader", fn := fun _ => fun
  | [d] => { results := [.lit (.bool false)], args := [d] }
  | _ => none }
def FnExactShowHeaderWrongFalsely : Prop := fnExactShowHeaderRow.holds Try.pinned (OpenSpec.ofChange fnExactShowHeaderWrong)

/-- 'laws.FnExactShowVals': WHATEVER THE INPUT: true; the input reads as it did. -/
def fnExactShowValsSpec : ChangeSpec := { name := "fnExactShowVals", fn := fun _ => fun
  | [d] => { results := [.lit (.bool true)], args := [d] }
  | _ => none }
def fnExactShowValsRow : OpenClaim := { program := "yteajphbbmobaaaa", sum := "89ca666ebf3de4cb328f95402ead6f0b48637952af8ba069a7fc8865274f2b31", func := "loop.example/g00946/laws.FnExactShowVals", spec := "fnExactShowVals", apart := false }
def FnExactShowValsSaid : Prop := fnExactShowValsRow.holds Try.pinned (OpenSpec.ofChange fnExactShowValsSpec)

/-- ITS FALSE NEIGHBOUR: 'it returns false'. Refute it at one input. -/
def fnExactShowValsWrong : ChangeSpec := { name := "fnExactShowVals", fn := fun _ => fun
  | [d] => { results := [.lit (.bool false)], args := [d] }
  | _ => none }
def FnExactShowValsWrongFalsely : Prop := fnExactShowValsRow.holds Try.pinned (OpenSpec.ofChange fnExactShowValsWrong)

/-- 'laws.FnExactEnough': WHATEVER THE INPUT: true; the input reads as it did. -/
def fnExactEnoughSpec : ChangeSpec := { name := "fnExactEnough", fn := fun _ => fun
  | [d1, d2] => { results := [.lit (.bool true)], args := [d1, d2] }
  | _ => none }
def fnExactEnoughRow : OpenClaim := { program := "yteajphbbmobaaaa", sum := "89ca666ebf3de4cb328f95402ead6f0b48637952af8ba069a7fc8865274f2b31", func := "loop.example/g00946/laws.FnExactEnough", spec := "fnExactEnough", unfollowed := true, recurses := true, apart := false }
def FnExactEnoughSaid : Prop := fnExactEnoughRow.holds Try.pinned (OpenSpec.ofChange fnExactEnoughSpec)

/-- ITS FALSE NEIGHBOUR: 'it returns false'. Refute it at one input. -/
def fnExactEnoughWrong : ChangeSpec := { name := "fnExactEnough", fn := fun _ => fun
  | [d1, d2] => { results := [.lit (.bool false)], args := [d1, d2] }
  | _ => none }
def FnExactEnoughWrongFalsely : Prop := fnExactEnoughRow.holds Try.pinned (OpenSpec.ofChange fnExactEnoughWrong)

/-- 'laws.FnExactShowCommit': WHATEVER THE INPUT: true; the input reads as it did. -/
def fnExactShowCommitSpec : ChangeSpec := { name := "fnExactShowCommit", fn := fun _ => fun
  | [d] => { results := [.lit (.bool true)], args := [d] }
  | _ => none }
def fnExactShowCommitRow : OpenClaim := { program := "yteajphbbmobaaaa", sum := "89ca666ebf3de4cb328f95402ead6f0b48637952af8ba069a7fc8865274f2b31", func := "loop.example/g00946/laws.FnExactShowCommit", spec := "fnExactShowCommit", apart := false }
def FnExactShowCommitSaid : Prop := fnExactShowCommitRow.holds Try.pinned (OpenSpec.ofChange fnExactShowCommitSpec)

/-- ITS FALSE NEIGHBOUR: 'it returns false'. Refute it at one input. -/
def fnExactShowCommitWrong : ChangeSpec := { name := "fnExactShowCommit", fn := fun _ => fun
  | [d] => { results := [.lit (.bool false)], args := [d] }
  | _ => none }
def FnExactShowCommitWrongFalsely : Prop := fnExactShowCommitRow.holds Try.pinned (OpenSpec.ofChange fnExactShowCommitWrong)

/-- 'laws.FnExactReadHeader': WHATEVER THE INPUT: true; the input reads as it did. -/
def fnExactReadHeaderSpec : ChangeSpec := { name := "fnExactReadHeader", fn := fun _ => fun
  | [d] => { results := [.lit (.bool true)], args := [d] }
  | _ => none }
def fnExactReadHeaderRow : OpenClaim := { program := "yteajphbbmobaaaa", sum := "89ca666ebf3de4cb328f95402ead6f0b48637952af8ba069a7fc8865274f2b31", func := "loop.example/g00946/laws.FnExactReadHeader", spec := "fnExactReadHeader", apart := false }
def FnExactReadHeaderSaid : Prop := fnExactReadHeaderRow.holds Try.pinned (OpenSpec.ofChange fnExactReadHeaderSpec)

/-- ITS FALSE NEIGHBOUR: 'it returns false'. Refute it at one input. -/
def fnExactReadHeaderWrong : ChangeSpec := { name := "fnExactReadHeader", fn := fun _ => fun
  | [d] => { results := [.lit (.bool false)], args := [d] }
  | _ => none }
def FnExactReadHeaderWrongFalsely : Prop := fnExactReadHeaderRow.holds Try.pinned (OpenSpec.ofChange fnExactReadHeaderWrong)

/-- 'laws.FnExactReadVals': WHATEVER THE INPUT: true; the input reads as it did. -/
def fnExactReadValsSpec : ChangeSpec := { name := "fnExactReadVals", fn := fun _ => fun
  | [d] => { results := [.lit (.bool true)], args := [d] }
  | _ => none }
def fnExactReadValsRow : OpenClaim := { program := "yteajphbbmobaaaa", sum := "89ca666ebf3de4cb328f95402ead6f0b48637952af8ba069a7fc8865274f2b31", func := "loop.example/g00946/laws.FnExactReadVals", spec := "fnExactReadVals", apart := false }
def FnExactReadValsSaid : Prop := fnExactReadValsRow.holds Try.pinned (OpenSpec.ofChange fnExactReadValsSpec)

/-- ITS FALSE NEIGHBOUR: 'it returns false'. Refute it at one input. -/
def fnExactReadValsWrong : ChangeSpec := { name := "fnExactReadVals", fn := fun _ => fun
  | [d] => { results := [.lit (.bool false)], args := [d] }
  | _ => none }
def FnExactReadValsWrongFalsely : Prop := fnExactReadValsRow.holds Try.pinned (OpenSpec.ofChange fnExactReadValsWrong)

/- THE SECOND FORM. 'bulk': how many values and letters a reading holds, each counted each time it is reached (what is shared counts as often as it is met; a slice's spare places count too). A statement '..UptoSaid' is the law's where the arguments, and the package variables that the reading takes, are together of bulk at most 1048576: NARROWER than '..Said'. Prove '..Said' where nothing that the law and all that it calls make is longer than what came in: it says more and counts as full. Else prove '..UptoSaid'. A law counts once. -/
mutual
def uptoBulk {H : Type} : DataW H → Nat
  | .lit (.string bytes) => bytes.length + 1
  | .lit _ => 1
  | .nil => 1
  | .ptr d => uptoBulk d + 1
  | .slice elems spare => uptoBulkAll elems + uptoBulkAll spare + 1
  | .agg parts => uptoBulkAll parts + 1
  | .iface _ d => uptoBulk d + 1
  | .map entries => uptoBulkEntries entries + 1
  | .held _ => 1
def uptoBulkAll {H : Type} : List (DataW H) → Nat
  | [] => 0
  | d :: r => uptoBulk d + uptoBulkAll r
def uptoBulkEntries {H : Type} : List (Lit × DataW H) → Nat
  | [] => 0
  | x :: r => uptoBulkEntry x + uptoBulkEntries r
def uptoBulkEntry {H : Type} : Lit × DataW H → Nat
  | (.string bytes, d) => bytes.length + uptoBulk d + 1
  | (_, d) => uptoBulk d + 1
 end
def uptoSmall : (H : Type) → List (DataW H) → Bool := fun _ ds => decide (uptoBulkAll ds ≤ 1048576)
def OpenSpec.upto (s : _root_.Go.ChangeSpec) : _root_.Go.OpenSpec := { _root_.Go.OpenSpec.ofChange s with cond := some uptoSmall }

/-- 'laws.FnExactValsOk', WHERE WHAT IT READS IS OF BULK AT MOST 1048576: true; the input reads as it did. -/
def fnExactValsOkUptoRow : OpenClaim := { program := "yteajphbbmobaaaa", sum := "89ca666ebf3de4cb328f95402ead6f0b48637952af8ba069a7fc8865274f2b31", func := "loop.example/g00946/laws.FnExactValsOk", spec := "fnExactValsOk", apart := false, narrowed := true }
def FnExactValsOkUptoSaid : Prop := fnExactValsOkUptoRow.holds Try.pinned (OpenSpec.upto fnExactValsOkSpec)

/-- 'laws.FnExactDigest', WHERE WHAT IT READS IS OF BULK AT MOST 1048576: true; the input reads as it did. -/
def fnExactDigestUptoRow : OpenClaim := { program := "yteajphbbmobaaaa", sum := "89ca666ebf3de4cb328f95402ead6f0b48637952af8ba069a7fc8865274f2b31", func := "loop.example/g00946/laws.FnExactDigest", spec := "fnExactDigest", apart := false, narrowed := true }
def FnExactDigestUptoSaid : Prop := fnExactDigestUptoRow.holds Try.pinned (OpenSpec.upto fnExactDigestSpec)

/-- 'laws.FnExactProposer', WHERE WHAT IT READS IS OF BULK AT MOST 1048576: true; the input reads as it did. -/
def fnExactProposerUptoRow : OpenClaim := { program := "yteajphbbmobaaaa", sum := "89ca666ebf3de4cb328f95402ead6f0b48637952af8ba069a7fc8865274f2b31", func := "loop.example/g00946/laws.FnExactProposer", spec := "fnExactProposer", apart := false, narrowed := true }
def FnExactProposerUptoSaid : Prop := fnExactProposerUptoRow.holds Try.pinned (OpenSpec.upto fnExactProposerSpec)

/-- 'laws.FnExactReadDec', WHERE WHAT IT READS IS OF BULK AT MOST 1048576: true; the input reads as it did. -/
def fnExactReadDecUptoRow : OpenClaim := { program := "yteajphbbmobaaaa", sum := "89ca666ebf3de4cb328f95402ead6f0b48637952af8ba069a7fc8865274f2b31", func := "loop.example/g00946/laws.FnExactReadDec", spec := "fnExactReadDec", apart := false, narrowed := true }
def FnExactReadDecUptoSaid : Prop := fnExactReadDecUptoRow.holds Try.pinned (OpenSpec.upto fnExactReadDecSpec)

/-- 'laws.FnExactPowerOf', WHERE WHAT IT READS IS OF BULK AT MOST 1048576: true; the input reads as it did. -/
def fnExactPowerOfUptoRow : OpenClaim := { program := "yteajphbbmobaaaa", sum := "89ca666ebf3de4cb328f95402ead6f0b48637952af8ba069a7fc8865274f2b31", func := "loop.example/g00946/laws.FnExactPowerOf", spec := "fnExactPowerOf", unfollowed := true, recurses := true, apart := false, narrowed := true }
def FnExactPowerOfUptoSaid : Prop := fnExactPowerOfUptoRow.holds Try.pinned (OpenSpec.upto fnExactPowerOfSpec)

/-- 'laws.FnExactShowHeader', WHERE WHAT IT READS IS OF BULK AT MOST 1048576: true; the input reads as it did. -/
def fnExactShowHeaderUptoRow : OpenClaim := { program := "yteajphbbmobaaaa", sum := "89ca666ebf3de4cb328f95402ead6f0b48637952af8ba069a7fc8865274f2b31", func := "loop.example/g00946/laws.FnExactShowHeader", spec := "fnExactShowHeader", apart := false, narrowed := true }
def FnExactShowHeaderUptoSaid : Prop := fnExactShowHeaderUptoRow.holds Try.pinned (OpenSpec.upto fnExactShowHeaderSpec)

/-- 'laws.FnExactShowVals', WHERE WHAT IT READS IS OF BULK AT MOST 1048576: true; the input reads as it did. -/
def fnExactShowValsUptoRow : OpenClaim := { program := "yteajphbbmobaaaa", sum := "89ca666ebf3de4cb328f95402ead6f0b48637952af8ba069a7fc8865274f2b31", func := "loop.example/g00946/laws.FnExactShowVals", spec := "fnExactShowVals", apart := false, narrowed := true }
def FnExactShowValsUptoSaid : Prop := fnExactShowValsUptoRow.holds Try.pinned (OpenSpec.upto fnExactShowValsSpec)

/-- 'laws.FnExactEnough', WHERE WHAT IT READS IS OF BULK AT MOST 1048576: true; the input reads as it did. -/
def fnExactEnoughUptoRow : OpenClaim := { program := "yteajphbbmobaaaa", sum := "89ca666ebf3de4cb328f95402ead6f0b48637952af8ba069a7fc8865274f2b31", func := "loop.example/g00946/laws.FnExactEnough", spec := "fnExactEnough", unfollowed := true, recurses := true, apart := false, narrowed := true }
def FnExactEnoughUptoSaid : Prop := fnExactEnoughUptoRow.holds Try.pinned (OpenSpec.upto fnExactEnoughSpec)

/-- 'laws.FnExactShowCommit', WHERE WHAT IT READS IS OF BULK AT MOST 1048576: true; the input reads as it did. -/
def fnExactShowCommitUptoRow : OpenClaim := { program := "yteajphbbmobaaaa", sum := "89ca666ebf3de4cb328f95402ead6f0b48637952af8ba069a7fc8865274f2b31", func := "loop.example/g00946/laws.FnExactShowCommit", spec := "fnExactShowCommit", apart := false, narrowed := true }
def FnExactShowCommitUptoSaid : Prop := fnExactShowCommitUptoRow.holds Try.pinned (OpenSpec.upto fnExactShowCommitSpec)

/-- 'laws.FnExactReadHeader', WHERE WHAT IT READS IS OF BULK AT MOST 1048576: true; the input reads as it did. -/
def fnExactReadHeaderUptoRow : OpenClaim := { program := "yteajphbbmobaaaa", sum := "89ca666ebf3de4cb328f95402ead6f0b48637952af8ba069a7fc8865274f2b31", func := "loop.example/g00946/laws.FnExactReadHeader", spec := "fnExactReadHeader", apart := false, narrowed := true }
def FnExactReadHeaderUptoSaid : Prop := fnExactReadHeaderUptoRow.holds Try.pinned (OpenSpec.upto fnExactReadHeaderSpec)

/-- 'laws.FnExactReadVals', WHERE WHAT IT READS IS OF BULK AT MOST 1048576: true; the input reads as it did. -/
def fnExactReadValsUptoRow : OpenClaim := { program := "yteajphbbmobaaaa", sum := "89ca666ebf3de4cb328f95402ead6f0b48637952af8ba069a7fc8865274f2b31", func := "loop.example/g00946/laws.FnExactReadVals", spec := "fnExactReadVals", apart := false, narrowed := true }
def FnExactReadValsUptoSaid : Prop := fnExactReadValsUptoRow.holds Try.pinned (OpenSpec.upto fnExactReadValsSpec)

end Rows
end Go.Proofs.Yteajphbbmobaaaa
