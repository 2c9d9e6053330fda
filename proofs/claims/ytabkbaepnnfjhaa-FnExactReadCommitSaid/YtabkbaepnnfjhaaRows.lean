/-
  No cell of these rows narrows 'for every input' (looked for: loops, veiled, ifaces, maps, wideKeys, modest, calm, conditions, laid).
  DERIVED. THE GIVEN ROWS OF THIS SEAT. 6 by the template 'for every input the law returns true; each argument reads behind the call as it read before'; 0 by the template 'total and deterministic' (their statements: YtabkbaepnnfjhaaTotals.lean).
  GIVEN WITH THE SEED: the statements are not yours to turn. If you find one false, say at which input.
  Laid BY PROGRAM, IN A SANDBOX (cutbox-rows.mjs): the forced cells as the released guide's own fill.sh prints them over the translation 5640b7eebcd34e63… (all of the seat's roots in one cut). By AI agents, Wed Nov 11 2026. No macro, syntax, notation, axiom, sorry.
-/
import Derived.Test.YtabkbaepnnfjhaaChecked
import GoSem.Claim
import GoSem.ClaimJoined
import GoSem.ClaimMapViews
import Derived.JoinedTies
import Derived.KernelRfl
namespace Go.Proofs.Ytabkbaepnnfjhaa
/- THE CELL 'sum', in the pinned program and in every row, IS THE sha256 OF THE DUMP (.gsa) THAT YtabkbaepnnfjhaaProg.lean LOADS. Nothing in Lean hashes anything: it is a label: what it is worth is what the hold of that sum in a sandbox is worth. -/
noncomputable def Try.pinned : Pinned := { name := "ytabkbaepnnfjhaa", sum := "5640b7eebcd34e637cd7dda8ad577fcc24a496f816019a69a662d93c4294225a", checked := Try.checked }
namespace Rows
def none {H : Type} : Left H := { results := [], args := [] }

/-- 'laws.FnEnough': WHATEVER THE INPUT: true; the input reads as it did. -/
def fnEnoughSpec : ChangeSpec := { name := "fnEnough", fn := fun _ => fun
  | [d] => { results := [.lit (.bool true)], args := [d] }
  | _ => none }
def fnEnoughRow : OpenClaim := { program := "ytabkbaepnnfjhaa", sum := "5640b7eebcd34e637cd7dda8ad577fcc24a496f816019a69a662d93c4294225a", func := "loop.example/g00946/laws.FnEnough", spec := "fnEnough", unfollowed := true, recurses := true, apart := false }
def FnEnoughSaid : Prop := fnEnoughRow.holds Try.pinned (OpenSpec.ofChange fnEnoughSpec)

/-- ITS FALSE NEIGHBOUR: 'it returns false'. Refute it at one input. -/
def fnEnoughWrong : ChangeSpec := { name := "fnEnough", fn := fun _ => fun
  | [d] => { results := [.lit (.bool false)], args := [d] }
  | _ => none }
def FnEnoughWrongFalsely : Prop := fnEnoughRow.holds Try.pinned (OpenSpec.ofChange fnEnoughWrong)

/-- 'laws.FnExactShowCommit': WHATEVER THE INPUT: true; the input reads as it did. -/
def fnExactShowCommitSpec : ChangeSpec := { name := "fnExactShowCommit", fn := fun _ => fun
  | [d] => { results := [.lit (.bool true)], args := [d] }
  | _ => none }
def fnExactShowCommitRow : OpenClaim := { program := "ytabkbaepnnfjhaa", sum := "5640b7eebcd34e637cd7dda8ad577fcc24a496f816019a69a662d93c4294225a", func := "loop.example/g00946/laws.FnExactShowCommit", spec := "fnExactShowCommit", apart := false }
def FnExactShowCommitSaid : Prop := fnExactShowCommitRow.holds Try.pinned (OpenSpec.ofChange fnExactShowCommitSpec)

/-- ITS FALSE NEIGHBOUR: 'it returns false'. Refute it at one input. -/
def fnExactShowCommitWrong : ChangeSpec := { name := "fnExactShowCommit", fn := fun _ => fun
  | [d] => { results := [.lit (.bool false)], args := [d] }
  | _ => none }
def FnExactShowCommitWrongFalsely : Prop := fnExactShowCommitRow.holds Try.pinned (OpenSpec.ofChange fnExactShowCommitWrong)

/-- 'laws.FnExactReadHeader': WHATEVER THE INPUT: true; the input reads as it did. -/
def fnExactReadHeaderSpec : ChangeSpec := { name := "fnExactReadHeader", fn := fun _ => fun
  | [d] => { results := [.lit (.bool true)], args := [d] }
  | _ => none }
def fnExactReadHeaderRow : OpenClaim := { program := "ytabkbaepnnfjhaa", sum := "5640b7eebcd34e637cd7dda8ad577fcc24a496f816019a69a662d93c4294225a", func := "loop.example/g00946/laws.FnExactReadHeader", spec := "fnExactReadHeader", apart := false }
def FnExactReadHeaderSaid : Prop := fnExactReadHeaderRow.holds Try.pinned (OpenSpec.ofChange fnExactReadHeaderSpec)

/-- ITS FALSE NEIGHBOUR: 'it returns false'. Refute it at one input. -/
def fnExactReadHeaderWrong : ChangeSpec := { name := "fnExactReadHeader", fn := fun _ => fun
  | [d] => { results := [.lit (.bool false)], args := [d] }
  | _ => none }
def FnExactReadHeaderWrongFalsely : Prop := fnExactReadHeaderRow.holds Try.pinned (OpenSpec.ofChange fnExactReadHeaderWrong)

/-- 'laws.FnExactReadVals': WHATEVER THE INPUT: true; the input reads as it did. -/
def fnExactReadValsSpec : ChangeSpec := { name := "fnExactReadVals", fn := fun _ => fun
  | [d] => { results := [.lit (.bool true)], args := [d] }
  | _ => none }
def fnExactReadValsRow : OpenClaim := { program := "ytabkbaepnnfjhaa", sum := "5640b7eebcd34e637cd7dda8ad577fcc24a496f816019a69a662d93c4294225a", func := "loop.example/g00946/laws.FnExactReadVals", spec := "fnExactReadVals", apart := false }
def FnExactReadValsSaid : Prop := fnExactReadValsRow.holds Try.pinned (OpenSpec.ofChange fnExactReadValsSpec)

/-- ITS FALSE NEIGHBOUR: 'it returns false'. Refute it at one input. -/
def fnExactReadValsWrong : ChangeSpec := { name := "fnExactReadVals", fn := fun _ => fun
  | [d] => { results := [.lit (.bool false)], args := [d] }
  | _ => none }
def FnExactReadValsWrongFalsely : Prop := fnExactReadValsRow.holds Try.pinned (OpenSpec.ofChange fnExactReadValsWrong)

/-- 'laws.FnNumbers': WHATEVER THE INPUT: true; the input reads as it did. -/
def fnNumbersSpec : ChangeSpec := { name := "fnNumbers", fn := fun _ => fun
  | [d] => { results := [.lit (.bool true)], args := [d] }
  | _ => none }
def fnNumbersRow : OpenClaim := { program := "ytabkbaepnnfjhaa", sum := "5640b7eebcd34e637cd7dda8ad577fcc24a496f816019a69a662d93c4294225a", func := "loop.example/g00946/laws.FnNumbers", spec := "fnNumbers", apart := false }
def FnNumbersSaid : Prop := fnNumbersRow.holds Try.pinned (OpenSpec.ofChange fnNumbersSpec)

/-- ITS FALSE NEIGHBOUR: 'it returns false'. Refute it at one input. -/
def fnNumbersWrong : ChangeSpec := { name := "fnNumbers", fn := fun _ => fun
  | [d] => { results := [.lit (.bool false)], args := [d] }
  | _ => none }
def FnNumbersWrongFalsely : Prop := fnNumbersRow.holds Try.pinned (OpenSpec.ofChange fnNumbersWrong)

/-- 'laws.FnExactReadCommit': WHATEVER THE INPUT: true; the input reads as it did. -/
def fnExactReadCommitSpec : ChangeSpec := { name := "fnExactReadCommit", fn := fun _ => fun
  | [d] => { results := [.lit (.bool true)], args := [d] }
  | _ => none }
def fnExactReadCommitRow : OpenClaim := { program := "ytabkbaepnnfjhaa", sum := "5640b7eebcd34e637cd7dda8ad577fcc24a496f816019a69a662d93c4294225a", func := "loop.example/g00946/laws.FnExactReadCommit", spec := "fnExactReadCommit", apart := false }
def FnExactReadCommitSaid : Prop := fnExactReadCommitRow.holds Try.pinned (OpenSpec.ofChange fnExactReadCommitSpec)

/-- ITS FALSE NEIGHBOUR: 'it returns false'. Refute it at one input. -/
def fnExactReadCommitWrong : ChangeSpec := { name := "fnExactReadCommit", fn := fun _ => fun
  | [d] => { results := [.lit (.bool false)], args := [d] }
  | _ => none }
def FnExactReadCommitWrongFalsely : Prop := fnExactReadCommitRow.holds Try.pinned (OpenSpec.ofChange fnExactReadCommitWrong)

/- THE SECOND FORM. 'bulk': how many values and letters a reading holds, each counted each time it is reached (what is shared counts as often as it is met; a slice's spare places count too). A statement '..UptoSaid' is the law's where the arguments, and the package variables that the reading takes, are together of bulk at most 1048576: NARROWER than '..Said'. Prove '..Said' where nothing that the law and all that it calls make is longer than what came in: it says more and counts as full. Else prove '..UptoSaid'. A law counts once. -/
mutual
def uptoBulk {H : Type} : DataW H → Nat
  | .lit (.string bytes) => bytes.length + 1
  | .lit _ => 1
  | .nil => 1
  | .ptr d => uptoBulk d + 1
  | .slice elems spare => uptoBulkAll elems + uptoBulkAll spare + 1
  | .agg parts => uptoBulkAll parts + 1
  | .iface _ d => uptoBulk d + 1
  | .map entries => uptoBulkEntries entries + 1
  | .held _ => 1
def uptoBulkAll {H : Type} : List (DataW H) → Nat
  | [] => 0
  | d :: r => uptoBulk d + uptoBulkAll r
def uptoBulkEntries {H : Type} : List (Lit × DataW H) → Nat
  | [] => 0
  | x :: r => uptoBulkEntry x + uptoBulkEntries r
def uptoBulkEntry {H : Type} : Lit × DataW H → Nat
  | (.string bytes, d) => bytes.length + uptoBulk d + 1
  | (_, d) => uptoBulk d + 1
 end
def uptoSmall : (H : Type) → List (DataW H) → Bool := fun _ ds => decide (uptoBulkAll ds ≤ 1048576)
def OpenSpec.upto (s : _root_.Go.ChangeSpec) : _root_.Go.OpenSpec := { _root_.Go.OpenSpec.ofChange s with cond := some uptoSmall }

/-- 'laws.FnEnough', WHERE WHAT IT READS IS OF BULK AT MOST 1048576: true; the input reads as it did. -/
def fnEnoughUptoRow : OpenClaim := { program := "ytabkbaepnnfjhaa", sum := "5640b7eebcd34e637cd7dda8ad577fcc24a496f816019a69a662d93c4294225a", func := "loop.example/g00946/laws.FnEnough", spec := "fnEnough", unfollowed := true, recurses := true, apart := false, narrowed := true }
def FnEnoughUptoSaid : Prop := fnEnoughUptoRow.holds Try.pinned (OpenSpec.upto fnEnoughSpec)

/-- 'laws.FnExactShowCommit', WHERE WHAT IT READS IS OF BULK AT MOST 1048576: true; the input reads as it did. -/
def fnExactShowCommitUptoRow : OpenClaim := { program := "ytabkbaepnnfjhaa", sum := "5640b7eebcd34e637cd7dda8ad577fcc24a496f816019a69a662d93c4294225a", func := "loop.example/g00946/laws.FnExactShowCommit", spec := "fnExactShowCommit", apart := false, narrowed := true }
def FnExactShowCommitUptoSaid : Prop := fnExactShowCommitUptoRow.holds Try.pinned (OpenSpec.upto fnExactShowCommitSpec)

/-- 'laws.FnExactReadHeader', WHERE WHAT IT READS IS OF BULK AT MOST 1048576: true; the input reads as it did. -/
def fnExactReadHeaderUptoRow : OpenClaim := { program := "ytabkbaepnnfjhaa", sum := "5640b7eebcd34e637cd7dda8ad577fcc24a496f816019a69a662d93c4294225a", func := "loop.example/g00946/laws.FnExactReadHeader", spec := "fnExactReadHeader", apart := false, narrowed := true }
def FnExactReadHeaderUptoSaid : Prop := fnExactReadHeaderUptoRow.holds Try.pinned (OpenSpec.upto fnExactReadHeaderSpec)

/-- 'laws.FnExactReadVals', WHERE WHAT IT READS IS OF BULK AT MOST 1048576: true; the input reads as it did. -/
def fnExactReadValsUptoRow : OpenClaim := { program := "ytabkbaepnnfjhaa", sum := "5640b7eebcd34e637cd7dda8ad577fcc24a496f816019a69a662d93c4294225a", func := "loop.example/g00946/laws.FnExactReadVals", spec := "fnExactReadVals", apart := false, narrowed := true }
def FnExactReadValsUptoSaid : Prop := fnExactReadValsUptoRow.holds Try.pinned (OpenSpec.upto fnExactReadValsSpec)

/-- 'laws.FnNumbers', WHERE WHAT IT READS IS OF BULK AT MOST 1048576: true; the input reads as it did. -/
def fnNumbersUptoRow : OpenClaim := { program := "ytabkbaepnnfjhaa", sum := "5640b7eebcd34e637cd7dda8ad577fcc24a496f816019a69a662d93c4294225a", func := "loop.example/g00946/laws.FnNumbers", spec := "fnNumbers", apart := false, narrowed := true }
def FnNumbersUptoSaid : Prop := fnNumbersUptoRow.holds Try.pinned (OpenSpec.upto fnNumbersSpec)

/-- 'laws.FnExactReadCommit', WHERE WHAT IT READS IS OF BULK AT MOST 1048576: true; the input reads as it did. -/
def fnExactReadCommitUptoRow : OpenClaim := { program := "ytabkbaepnnfjhaa", sum := "5640b7eebcd34e637cd7dda8ad577fcc24a496f816019a69a662d93c4294225a", func := "loop.example/g00946/laws.FnExactReadCommit", spec := "fnExactReadCommit", apart := false, narrowed := true }
def FnExactReadCommitUptoSaid : Prop := fnExactReadCommitUptoRow.holds Try.pinned (OpenSpec.upto fnExactReadCommitSpec)

end Rows
end Go.Proofs.Ytabkbaepnnfjhaa
