/-
  DERIVED. GIVEN WITH THE SEED: THE CARDS: each row of YtepfjacpfbdkeaaDoorRows.lean that lists a variable, with what it lists TIED to the program's text (the seventh form; the later family's looks); each row that meets fmt, with fmt's text TOLD by the authors' own Lean function (tested against real Go, not proved from fmt's source: count such statements apart). THE CARD IS WHAT COUNTS. Prove the row's statement (the work); the ties are given (YtepfjacpfbdkeaaDoorTie.lean); close each card by the builder's one call (the guide's Derived/Test/ToyasCard.lean, 'card_holds'). Laid BY PROGRAM, IN A SANDBOX (cutbox-door.mjs). By AI agents, Wed Nov 11 2026. No macro, syntax, notation, axiom, sorry.
-/
import Derived.Test.YtepfjacpfbdkeaaDoorRows
import GoSem.ClaimSeven
namespace Go.Proofs.YtepfjacpfbdkeaaDoor
namespace Rows

/-- THE TIED CARD OF 'laws.FnExactSigned'. -/
def fnExactSignedCard : Claim7 := { stood := { row := fnExactSignedRow, standIns := [], harness := (true, "bcadc8c97babb8ad5580ef07d7723ad7a59b55a04d1f060f2c867947777c013e"), looks := false }, kinds := [], alts := [], laidByText := true, laidKinds := [.data], laidTests := true, laidLooks := .later }
def FnExactSignedCardSaid : Prop := Claim7.holds Tryd.pinned (.plain (OpenSpec.ofChange fnExactSignedSpec)) fnExactSignedCard

/-- THE TIED CARD OF 'laws.FnExactHeadId'. -/
def fnExactHeadIdCard : Claim7 := { stood := { row := fnExactHeadIdRow, standIns := [], harness := (true, "bcadc8c97babb8ad5580ef07d7723ad7a59b55a04d1f060f2c867947777c013e"), looks := false }, kinds := [], alts := [], laidByText := true, laidKinds := [.data], laidTests := true, laidLooks := .later }
def FnExactHeadIdCardSaid : Prop := Claim7.holds Tryd.pinned (.plain (OpenSpec.ofChange fnExactHeadIdSpec)) fnExactHeadIdCard

/-- THE TIED CARD OF 'laws.FnExactValsHash'. -/
def fnExactValsHashCard : Claim7 := { stood := { row := fnExactValsHashRow, standIns := [], harness := (true, "bcadc8c97babb8ad5580ef07d7723ad7a59b55a04d1f060f2c867947777c013e"), looks := false }, kinds := [], alts := [], laidByText := true, laidKinds := [.data], laidTests := true, laidLooks := .later }
def FnExactValsHashCardSaid : Prop := Claim7.holds Tryd.pinned (.plain (OpenSpec.ofChange fnExactValsHashSpec)) fnExactValsHashCard

/-- THE TIED CARD OF 'laws.FnExactTreeRoot'. -/
def fnExactTreeRootCard : Claim7 := { stood := { row := fnExactTreeRootRow, standIns := [], harness := (true, "bcadc8c97babb8ad5580ef07d7723ad7a59b55a04d1f060f2c867947777c013e"), looks := false }, kinds := [], alts := [], laidByText := true, laidKinds := [.data], laidTests := true, laidLooks := .later }
def FnExactTreeRootCardSaid : Prop := Claim7.holds Tryd.pinned (.plain (OpenSpec.ofChange fnExactTreeRootSpec)) fnExactTreeRootCard

/-- THE TIED CARD OF 'laws.FnExactPathRoot'. -/
def fnExactPathRootCard : Claim7 := { stood := { row := fnExactPathRootRow, standIns := [], harness := (true, "bcadc8c97babb8ad5580ef07d7723ad7a59b55a04d1f060f2c867947777c013e"), looks := false }, kinds := [], alts := [], laidByText := true, laidKinds := [.data], laidTests := true, laidLooks := .later }
def FnExactPathRootCardSaid : Prop := Claim7.holds Tryd.pinned (.plain (OpenSpec.ofChange fnExactPathRootSpec)) fnExactPathRootCard

/-- THE TIED CARD OF 'laws.FnExactIncludes'. -/
def fnExactIncludesCard : Claim7 := { stood := { row := fnExactIncludesRow, standIns := [], harness := (true, "bcadc8c97babb8ad5580ef07d7723ad7a59b55a04d1f060f2c867947777c013e"), looks := false }, kinds := [], alts := [], laidByText := true, laidKinds := [.data], laidTests := true, laidLooks := .later }
def FnExactIncludesCardSaid : Prop := Claim7.holds Tryd.pinned (.plain (OpenSpec.ofChange fnExactIncludesSpec)) fnExactIncludesCard

/-- THE TIED CARD OF 'laws.FnExactTreePath'. -/
def fnExactTreePathCard : Claim7 := { stood := { row := fnExactTreePathRow, standIns := [], harness := (true, "bcadc8c97babb8ad5580ef07d7723ad7a59b55a04d1f060f2c867947777c013e"), looks := false }, kinds := [], alts := [], laidByText := true, laidKinds := [.data], laidTests := true, laidLooks := .later }
def FnExactTreePathCardSaid : Prop := Claim7.holds Tryd.pinned (.plain (OpenSpec.ofChange fnExactTreePathSpec)) fnExactTreePathCard

/-- THE TIED CARD OF 'laws.FnExactHsRoot'. -/
def fnExactHsRootCard : Claim7 := { stood := { row := fnExactHsRootRow, standIns := [], harness := (true, "bcadc8c97babb8ad5580ef07d7723ad7a59b55a04d1f060f2c867947777c013e"), looks := false }, kinds := [], alts := [], laidByText := true, laidKinds := [.data], laidTests := true, laidLooks := .later }
def FnExactHsRootCardSaid : Prop := Claim7.holds Tryd.pinned (.plain (OpenSpec.ofChange fnExactHsRootSpec)) fnExactHsRootCard

/-- THE SECOND FORM's CARD OF 'laws.FnExactSigned'. -/
def fnExactSignedUptoCard : Claim7 := { stood := { row := fnExactSignedUptoRow, standIns := [], harness := (true, "bcadc8c97babb8ad5580ef07d7723ad7a59b55a04d1f060f2c867947777c013e"), looks := false }, kinds := [], alts := [], laidByText := true, laidKinds := [.data], laidTests := true, laidLooks := .later }
def FnExactSignedUptoCardSaid : Prop := Claim7.holds Tryd.pinned (.plain (OpenSpec.upto fnExactSignedSpec)) fnExactSignedUptoCard

/-- THE SECOND FORM's CARD OF 'laws.FnExactHeadId'. -/
def fnExactHeadIdUptoCard : Claim7 := { stood := { row := fnExactHeadIdUptoRow, standIns := [], harness := (true, "bcadc8c97babb8ad5580ef07d7723ad7a59b55a04d1f060f2c867947777c013e"), looks := false }, kinds := [], alts := [], laidByText := true, laidKinds := [.data], laidTests := true, laidLooks := .later }
def FnExactHeadIdUptoCardSaid : Prop := Claim7.holds Tryd.pinned (.plain (OpenSpec.upto fnExactHeadIdSpec)) fnExactHeadIdUptoCard

/-- THE SECOND FORM's CARD OF 'laws.FnExactValsHash'. -/
def fnExactValsHashUptoCard : Claim7 := { stood := { row := fnExactValsHashUptoRow, standIns := [], harness := (true, "bcadc8c97babb8ad5580ef07d7723ad7a59b55a04d1f060f2c867947777c013e"), looks := false }, kinds := [], alts := [], laidByText := true, laidKinds := [.data], laidTests := true, laidLooks := .later }
def FnExactValsHashUptoCardSaid : Prop := Claim7.holds Tryd.pinned (.plain (OpenSpec.upto fnExactValsHashSpec)) fnExactValsHashUptoCard

/-- THE SECOND FORM's CARD OF 'laws.FnExactTreeRoot'. -/
def fnExactTreeRootUptoCard : Claim7 := { stood := { row := fnExactTreeRootUptoRow, standIns := [], harness := (true, "bcadc8c97babb8ad5580ef07d7723ad7a59b55a04d1f060f2c867947777c013e"), looks := false }, kinds := [], alts := [], laidByText := true, laidKinds := [.data], laidTests := true, laidLooks := .later }
def FnExactTreeRootUptoCardSaid : Prop := Claim7.holds Tryd.pinned (.plain (OpenSpec.upto fnExactTreeRootSpec)) fnExactTreeRootUptoCard

/-- THE SECOND FORM's CARD OF 'laws.FnExactPathRoot'. -/
def fnExactPathRootUptoCard : Claim7 := { stood := { row := fnExactPathRootUptoRow, standIns := [], harness := (true, "bcadc8c97babb8ad5580ef07d7723ad7a59b55a04d1f060f2c867947777c013e"), looks := false }, kinds := [], alts := [], laidByText := true, laidKinds := [.data], laidTests := true, laidLooks := .later }
def FnExactPathRootUptoCardSaid : Prop := Claim7.holds Tryd.pinned (.plain (OpenSpec.upto fnExactPathRootSpec)) fnExactPathRootUptoCard

/-- THE SECOND FORM's CARD OF 'laws.FnExactIncludes'. -/
def fnExactIncludesUptoCard : Claim7 := { stood := { row := fnExactIncludesUptoRow, standIns := [], harness := (true, "bcadc8c97babb8ad5580ef07d7723ad7a59b55a04d1f060f2c867947777c013e"), looks := false }, kinds := [], alts := [], laidByText := true, laidKinds := [.data], laidTests := true, laidLooks := .later }
def FnExactIncludesUptoCardSaid : Prop := Claim7.holds Tryd.pinned (.plain (OpenSpec.upto fnExactIncludesSpec)) fnExactIncludesUptoCard

/-- THE SECOND FORM's CARD OF 'laws.FnExactTreePath'. -/
def fnExactTreePathUptoCard : Claim7 := { stood := { row := fnExactTreePathUptoRow, standIns := [], harness := (true, "bcadc8c97babb8ad5580ef07d7723ad7a59b55a04d1f060f2c867947777c013e"), looks := false }, kinds := [], alts := [], laidByText := true, laidKinds := [.data], laidTests := true, laidLooks := .later }
def FnExactTreePathUptoCardSaid : Prop := Claim7.holds Tryd.pinned (.plain (OpenSpec.upto fnExactTreePathSpec)) fnExactTreePathUptoCard

/-- THE SECOND FORM's CARD OF 'laws.FnExactHsRoot'. -/
def fnExactHsRootUptoCard : Claim7 := { stood := { row := fnExactHsRootUptoRow, standIns := [], harness := (true, "bcadc8c97babb8ad5580ef07d7723ad7a59b55a04d1f060f2c867947777c013e"), looks := false }, kinds := [], alts := [], laidByText := true, laidKinds := [.data], laidTests := true, laidLooks := .later }
def FnExactHsRootUptoCardSaid : Prop := Claim7.holds Tryd.pinned (.plain (OpenSpec.upto fnExactHsRootSpec)) fnExactHsRootUptoCard
end Rows
end Go.Proofs.YtepfjacpfbdkeaaDoor
