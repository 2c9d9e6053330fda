/-
  DERIVED. GIVEN WITH THE SEED: THE CARDS: each row of YtecimgkgdpnaeaaDoorRows.lean that lists a variable, with what it lists TIED to the program's text (the seventh form; the later family's looks); each row that meets fmt, with fmt's text TOLD by the authors' own Lean function (tested against real Go, not proved from fmt's source: count such statements apart). THE CARD IS WHAT COUNTS. Prove the row's statement (the work); the ties are given (YtecimgkgdpnaeaaDoorTie.lean); close each card by the builder's one call (the guide's Derived/Test/ToyasCard.lean, 'card_holds'). Laid BY PROGRAM, IN A SANDBOX (cutbox-door.mjs). By AI agents, Wed Nov 11 2026. No macro, syntax, notation, axiom, sorry.
-/
import Derived.Test.YtecimgkgdpnaeaaDoorRows
import GoSem.ClaimSeven
namespace Go.Proofs.YtecimgkgdpnaeaaDoor
namespace Rows

/-- THE TIED CARD OF 'laws.FnHeaders'. -/
def fnHeadersCard : Claim7 := { stood := { row := fnHeadersRow, standIns := [], harness := (true, "6790e1a6e9d0cc2da4acb336e0fa5b6e416526edc03e3c1008f0d60587405127"), looks := false }, kinds := [], alts := [], laidByText := true, laidKinds := [.data], laidTests := true, laidLooks := .later }
def FnHeadersCardSaid : Prop := Claim7.holds Tryd.pinned (.plain (OpenSpec.ofChange fnHeadersSpec)) fnHeadersCard

/-- THE TIED CARD OF 'laws.FnExactCommitVals'. -/
def fnExactCommitValsCard : Claim7 := { stood := { row := fnExactCommitValsRow, standIns := [], harness := (true, "6790e1a6e9d0cc2da4acb336e0fa5b6e416526edc03e3c1008f0d60587405127"), looks := false }, kinds := [], alts := [], laidByText := true, laidKinds := [.data], laidTests := true, laidLooks := .later }
def FnExactCommitValsCardSaid : Prop := Claim7.holds Tryd.pinned (.plain (OpenSpec.ofChange fnExactCommitValsSpec)) fnExactCommitValsCard

/-- THE TIED CARD OF 'laws.FnCommit'. -/
def fnCommitCard : Claim7 := { stood := { row := fnCommitRow, standIns := [], harness := (true, "6790e1a6e9d0cc2da4acb336e0fa5b6e416526edc03e3c1008f0d60587405127"), looks := false }, kinds := [], alts := [], laidByText := true, laidKinds := [.data], laidTests := true, laidLooks := .later }
def FnCommitCardSaid : Prop := Claim7.holds Tryd.pinned (.plain (OpenSpec.ofChange fnCommitSpec)) fnCommitCard

/-- THE TIED CARD OF 'laws.FnExactCommitOk'. -/
def fnExactCommitOkCard : Claim7 := { stood := { row := fnExactCommitOkRow, standIns := [], harness := (true, "6790e1a6e9d0cc2da4acb336e0fa5b6e416526edc03e3c1008f0d60587405127"), looks := false }, kinds := [], alts := [], laidByText := true, laidKinds := [.data], laidTests := true, laidLooks := .later }
def FnExactCommitOkCardSaid : Prop := Claim7.holds Tryd.pinned (.plain (OpenSpec.ofChange fnExactCommitOkSpec)) fnExactCommitOkCard

/-- THE SECOND FORM's CARD OF 'laws.FnHeaders'. -/
def fnHeadersUptoCard : Claim7 := { stood := { row := fnHeadersUptoRow, standIns := [], harness := (true, "6790e1a6e9d0cc2da4acb336e0fa5b6e416526edc03e3c1008f0d60587405127"), looks := false }, kinds := [], alts := [], laidByText := true, laidKinds := [.data], laidTests := true, laidLooks := .later }
def FnHeadersUptoCardSaid : Prop := Claim7.holds Tryd.pinned (.plain (OpenSpec.upto fnHeadersSpec)) fnHeadersUptoCard

/-- THE SECOND FORM's CARD OF 'laws.FnExactCommitVals'. -/
def fnExactCommitValsUptoCard : Claim7 := { stood := { row := fnExactCommitValsUptoRow, standIns := [], harness := (true, "6790e1a6e9d0cc2da4acb336e0fa5b6e416526edc03e3c1008f0d60587405127"), looks := false }, kinds := [], alts := [], laidByText := true, laidKinds := [.data], laidTests := true, laidLooks := .later }
def FnExactCommitValsUptoCardSaid : Prop := Claim7.holds Tryd.pinned (.plain (OpenSpec.upto fnExactCommitValsSpec)) fnExactCommitValsUptoCard

/-- THE SECOND FORM's CARD OF 'laws.FnCommit'. -/
def fnCommitUptoCard : Claim7 := { stood := { row := fnCommitUptoRow, standIns := [], harness := (true, "6790e1a6e9d0cc2da4acb336e0fa5b6e416526edc03e3c1008f0d60587405127"), looks := false }, kinds := [], alts := [], laidByText := true, laidKinds := [.data], laidTests := true, laidLooks := .later }
def FnCommitUptoCardSaid : Prop := Claim7.holds Tryd.pinned (.plain (OpenSpec.upto fnCommitSpec)) fnCommitUptoCard

/-- THE SECOND FORM's CARD OF 'laws.FnExactCommitOk'. -/
def fnExactCommitOkUptoCard : Claim7 := { stood := { row := fnExactCommitOkUptoRow, standIns := [], harness := (true, "6790e1a6e9d0cc2da4acb336e0fa5b6e416526edc03e3c1008f0d60587405127"), looks := false }, kinds := [], alts := [], laidByText := true, laidKinds := [.data], laidTests := true, laidLooks := .later }
def FnExactCommitOkUptoCardSaid : Prop := Claim7.holds Tryd.pinned (.plain (OpenSpec.upto fnExactCommitOkSpec)) fnExactCommitOkUptoCard
end Rows
end Go.Proofs.YtecimgkgdpnaeaaDoor
