/-
  DERIVED. GIVEN WITH THE SEED: THE CARDS: each row of YtllfnhkloaenhaaDoorRows.lean that lists a variable, with what it lists TIED to the program's text (the seventh form; the later family's looks); each row that meets fmt, with fmt's text TOLD by the authors' own Lean function (tested against real Go, not proved from fmt's source: count such statements apart). THE CARD IS WHAT COUNTS. Prove the row's statement (the work); the ties are given (YtllfnhkloaenhaaDoorTie.lean); close each card by the builder's one call (the guide's Derived/Test/ToyasCard.lean, 'card_holds'). Laid BY PROGRAM, IN A SANDBOX (cutbox-door.mjs). By AI agents, Wed Nov 11 2026. No macro, syntax, notation, axiom, sorry.
-/
import Derived.Test.YtllfnhkloaenhaaDoorRows
import GoSem.ClaimSeven
namespace Go.Proofs.YtllfnhkloaenhaaDoor
namespace Rows

/-- THE TIED CARD OF 'laws.FnExactHsCheck'. -/
def fnExactHsCheckCard : Claim7 := { stood := { row := fnExactHsCheckRow, standIns := [], harness := (true, "0b0ab6710448540c10bc9b40071664f84be81860378a819f6ec0d9e13e7a5378"), looks := false }, kinds := [], alts := [], laidByText := true, laidKinds := [.data], laidTests := true, laidLooks := .later }
def FnExactHsCheckCardSaid : Prop := Claim7.holds Tryd.pinned (.plain (OpenSpec.ofChange fnExactHsCheckSpec)) fnExactHsCheckCard

/-- THE TIED CARD OF 'laws.FnExactHsSign'. -/
def fnExactHsSignCard : Claim7 := { stood := { row := fnExactHsSignRow, standIns := [], harness := (true, "0b0ab6710448540c10bc9b40071664f84be81860378a819f6ec0d9e13e7a5378"), looks := false }, kinds := [], alts := [], laidByText := true, laidKinds := [.data], laidTests := true, laidLooks := .later }
def FnExactHsSignCardSaid : Prop := Claim7.holds Tryd.pinned (.plain (OpenSpec.ofChange fnExactHsSignSpec)) fnExactHsSignCard

/-- THE SECOND FORM's CARD OF 'laws.FnExactHsCheck'. -/
def fnExactHsCheckUptoCard : Claim7 := { stood := { row := fnExactHsCheckUptoRow, standIns := [], harness := (true, "0b0ab6710448540c10bc9b40071664f84be81860378a819f6ec0d9e13e7a5378"), looks := false }, kinds := [], alts := [], laidByText := true, laidKinds := [.data], laidTests := true, laidLooks := .later }
def FnExactHsCheckUptoCardSaid : Prop := Claim7.holds Tryd.pinned (.plain (OpenSpec.upto fnExactHsCheckSpec)) fnExactHsCheckUptoCard

/-- THE SECOND FORM's CARD OF 'laws.FnExactHsSign'. -/
def fnExactHsSignUptoCard : Claim7 := { stood := { row := fnExactHsSignUptoRow, standIns := [], harness := (true, "0b0ab6710448540c10bc9b40071664f84be81860378a819f6ec0d9e13e7a5378"), looks := false }, kinds := [], alts := [], laidByText := true, laidKinds := [.data], laidTests := true, laidLooks := .later }
def FnExactHsSignUptoCardSaid : Prop := Claim7.holds Tryd.pinned (.plain (OpenSpec.upto fnExactHsSignSpec)) fnExactHsSignUptoCard
end Rows
end Go.Proofs.YtllfnhkloaenhaaDoor
