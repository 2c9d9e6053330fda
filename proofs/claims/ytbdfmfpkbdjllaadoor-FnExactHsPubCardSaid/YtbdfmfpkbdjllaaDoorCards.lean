/-
  DERIVED. GIVEN WITH THE SEED: THE CARDS: each row of YtbdfmfpkbdjllaaDoorRows.lean that lists a variable, with what it lists TIED to the program's text (the seventh form; the later family's looks); each row that meets fmt, with fmt's text TOLD by the authors' own Lean function (tested against real Go, not proved from fmt's source: count such statements apart). THE CARD IS WHAT COUNTS. Prove the row's statement (the work); the ties are given (YtbdfmfpkbdjllaaDoorTie.lean); close each card by the builder's one call (the guide's Derived/Test/ToyasCard.lean, 'card_holds'). Laid BY PROGRAM, IN A SANDBOX (cutbox-door.mjs). By AI agents, Wed Nov 11 2026. No macro, syntax, notation, axiom, sorry.
-/
import Derived.Test.YtbdfmfpkbdjllaaDoorRows
import GoSem.ClaimSeven
namespace Go.Proofs.YtbdfmfpkbdjllaaDoor
namespace Rows

/-- THE TIED CARD OF 'laws.FnExactSha'. -/
def fnExactShaCard : Claim7 := { stood := { row := fnExactShaRow, standIns := [], harness := (true, "5073517c1266d6a06d4a093937a59ec3d747dd917ea22d5575c65b6175d0b729"), looks := false }, kinds := [], alts := [], laidByText := true, laidKinds := [.data], laidTests := true, laidLooks := .later }
def FnExactShaCardSaid : Prop := Claim7.holds Tryd.pinned (.plain (OpenSpec.ofChange fnExactShaSpec)) fnExactShaCard

/-- THE TIED CARD OF 'laws.FnExactLeafHash'. -/
def fnExactLeafHashCard : Claim7 := { stood := { row := fnExactLeafHashRow, standIns := [], harness := (true, "5073517c1266d6a06d4a093937a59ec3d747dd917ea22d5575c65b6175d0b729"), looks := false }, kinds := [], alts := [], laidByText := true, laidKinds := [.data], laidTests := true, laidLooks := .later }
def FnExactLeafHashCardSaid : Prop := Claim7.holds Tryd.pinned (.plain (OpenSpec.ofChange fnExactLeafHashSpec)) fnExactLeafHashCard

/-- THE TIED CARD OF 'laws.FnExactNodeHash'. -/
def fnExactNodeHashCard : Claim7 := { stood := { row := fnExactNodeHashRow, standIns := [], harness := (true, "5073517c1266d6a06d4a093937a59ec3d747dd917ea22d5575c65b6175d0b729"), looks := false }, kinds := [], alts := [], laidByText := true, laidKinds := [.data], laidTests := true, laidLooks := .later }
def FnExactNodeHashCardSaid : Prop := Claim7.holds Tryd.pinned (.plain (OpenSpec.ofChange fnExactNodeHashSpec)) fnExactNodeHashCard

/-- THE TIED CARD OF 'laws.FnExactShort'. -/
def fnExactShortCard : Claim7 := { stood := { row := fnExactShortRow, standIns := [], harness := (true, "5073517c1266d6a06d4a093937a59ec3d747dd917ea22d5575c65b6175d0b729"), looks := false }, kinds := [], alts := [], laidByText := true, laidKinds := [.data], laidTests := true, laidLooks := .later }
def FnExactShortCardSaid : Prop := Claim7.holds Tryd.pinned (.plain (OpenSpec.ofChange fnExactShortSpec)) fnExactShortCard

/-- THE TIED CARD OF 'laws.FnExactHsLink'. -/
def fnExactHsLinkCard : Claim7 := { stood := { row := fnExactHsLinkRow, standIns := [], harness := (true, "5073517c1266d6a06d4a093937a59ec3d747dd917ea22d5575c65b6175d0b729"), looks := false }, kinds := [], alts := [], laidByText := true, laidKinds := [.data], laidTests := true, laidLooks := .later }
def FnExactHsLinkCardSaid : Prop := Claim7.holds Tryd.pinned (.plain (OpenSpec.ofChange fnExactHsLinkSpec)) fnExactHsLinkCard

/-- THE TIED CARD OF 'laws.FnExactHsSecret'. -/
def fnExactHsSecretCard : Claim7 := { stood := { row := fnExactHsSecretRow, standIns := [], harness := (true, "5073517c1266d6a06d4a093937a59ec3d747dd917ea22d5575c65b6175d0b729"), looks := false }, kinds := [], alts := [], laidByText := true, laidKinds := [.data], laidTests := true, laidLooks := .later }
def FnExactHsSecretCardSaid : Prop := Claim7.holds Tryd.pinned (.plain (OpenSpec.ofChange fnExactHsSecretSpec)) fnExactHsSecretCard

/-- THE TIED CARD OF 'laws.FnExactSignAs'. -/
def fnExactSignAsCard : Claim7 := { stood := { row := fnExactSignAsRow, standIns := [], harness := (true, "5073517c1266d6a06d4a093937a59ec3d747dd917ea22d5575c65b6175d0b729"), looks := false }, kinds := [], alts := [], laidByText := true, laidKinds := [.data], laidTests := true, laidLooks := .later }
def FnExactSignAsCardSaid : Prop := Claim7.holds Tryd.pinned (.plain (OpenSpec.ofChange fnExactSignAsSpec)) fnExactSignAsCard

/-- THE TIED CARD OF 'laws.FnExactHsPub'. -/
def fnExactHsPubCard : Claim7 := { stood := { row := fnExactHsPubRow, standIns := [], harness := (true, "5073517c1266d6a06d4a093937a59ec3d747dd917ea22d5575c65b6175d0b729"), looks := false }, kinds := [], alts := [], laidByText := true, laidKinds := [.data], laidTests := true, laidLooks := .later }
def FnExactHsPubCardSaid : Prop := Claim7.holds Tryd.pinned (.plain (OpenSpec.ofChange fnExactHsPubSpec)) fnExactHsPubCard

/-- THE SECOND FORM's CARD OF 'laws.FnExactSha'. -/
def fnExactShaUptoCard : Claim7 := { stood := { row := fnExactShaUptoRow, standIns := [], harness := (true, "5073517c1266d6a06d4a093937a59ec3d747dd917ea22d5575c65b6175d0b729"), looks := false }, kinds := [], alts := [], laidByText := true, laidKinds := [.data], laidTests := true, laidLooks := .later }
def FnExactShaUptoCardSaid : Prop := Claim7.holds Tryd.pinned (.plain (OpenSpec.upto fnExactShaSpec)) fnExactShaUptoCard

/-- THE SECOND FORM's CARD OF 'laws.FnExactLeafHash'. -/
def fnExactLeafHashUptoCard : Claim7 := { stood := { row := fnExactLeafHashUptoRow, standIns := [], harness := (true, "5073517c1266d6a06d4a093937a59ec3d747dd917ea22d5575c65b6175d0b729"), looks := false }, kinds := [], alts := [], laidByText := true, laidKinds := [.data], laidTests := true, laidLooks := .later }
def FnExactLeafHashUptoCardSaid : Prop := Claim7.holds Tryd.pinned (.plain (OpenSpec.upto fnExactLeafHashSpec)) fnExactLeafHashUptoCard

/-- THE SECOND FORM's CARD OF 'laws.FnExactNodeHash'. -/
def fnExactNodeHashUptoCard : Claim7 := { stood := { row := fnExactNodeHashUptoRow, standIns := [], harness := (true, "5073517c1266d6a06d4a093937a59ec3d747dd917ea22d5575c65b6175d0b729"), looks := false }, kinds := [], alts := [], laidByText := true, laidKinds := [.data], laidTests := true, laidLooks := .later }
def FnExactNodeHashUptoCardSaid : Prop := Claim7.holds Tryd.pinned (.plain (OpenSpec.upto fnExactNodeHashSpec)) fnExactNodeHashUptoCard

/-- THE SECOND FORM's CARD OF 'laws.FnExactShort'. -/
def fnExactShortUptoCard : Claim7 := { stood := { row := fnExactShortUptoRow, standIns := [], harness := (true, "5073517c1266d6a06d4a093937a59ec3d747dd917ea22d5575c65b6175d0b729"), looks := false }, kinds := [], alts := [], laidByText := true, laidKinds := [.data], laidTests := true, laidLooks := .later }
def FnExactShortUptoCardSaid : Prop := Claim7.holds Tryd.pinned (.plain (OpenSpec.upto fnExactShortSpec)) fnExactShortUptoCard

/-- THE SECOND FORM's CARD OF 'laws.FnExactHsLink'. -/
def fnExactHsLinkUptoCard : Claim7 := { stood := { row := fnExactHsLinkUptoRow, standIns := [], harness := (true, "5073517c1266d6a06d4a093937a59ec3d747dd917ea22d5575c65b6175d0b729"), looks := false }, kinds := [], alts := [], laidByText := true, laidKinds := [.data], laidTests := true, laidLooks := .later }
def FnExactHsLinkUptoCardSaid : Prop := Claim7.holds Tryd.pinned (.plain (OpenSpec.upto fnExactHsLinkSpec)) fnExactHsLinkUptoCard

/-- THE SECOND FORM's CARD OF 'laws.FnExactHsSecret'. -/
def fnExactHsSecretUptoCard : Claim7 := { stood := { row := fnExactHsSecretUptoRow, standIns := [], harness := (true, "5073517c1266d6a06d4a093937a59ec3d747dd917ea22d5575c65b6175d0b729"), looks := false }, kinds := [], alts := [], laidByText := true, laidKinds := [.data], laidTests := true, laidLooks := .later }
def FnExactHsSecretUptoCardSaid : Prop := Claim7.holds Tryd.pinned (.plain (OpenSpec.upto fnExactHsSecretSpec)) fnExactHsSecretUptoCard

/-- THE SECOND FORM's CARD OF 'laws.FnExactSignAs'. -/
def fnExactSignAsUptoCard : Claim7 := { stood := { row := fnExactSignAsUptoRow, standIns := [], harness := (true, "5073517c1266d6a06d4a093937a59ec3d747dd917ea22d5575c65b6175d0b729"), looks := false }, kinds := [], alts := [], laidByText := true, laidKinds := [.data], laidTests := true, laidLooks := .later }
def FnExactSignAsUptoCardSaid : Prop := Claim7.holds Tryd.pinned (.plain (OpenSpec.upto fnExactSignAsSpec)) fnExactSignAsUptoCard

/-- THE SECOND FORM's CARD OF 'laws.FnExactHsPub'. -/
def fnExactHsPubUptoCard : Claim7 := { stood := { row := fnExactHsPubUptoRow, standIns := [], harness := (true, "5073517c1266d6a06d4a093937a59ec3d747dd917ea22d5575c65b6175d0b729"), looks := false }, kinds := [], alts := [], laidByText := true, laidKinds := [.data], laidTests := true, laidLooks := .later }
def FnExactHsPubUptoCardSaid : Prop := Claim7.holds Tryd.pinned (.plain (OpenSpec.upto fnExactHsPubSpec)) fnExactHsPubUptoCard
end Rows
end Go.Proofs.YtbdfmfpkbdjllaaDoor
