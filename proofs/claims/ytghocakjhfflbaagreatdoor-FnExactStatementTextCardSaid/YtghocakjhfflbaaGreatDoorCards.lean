/-
  DERIVED. GIVEN WITH THE SEED: THE CARDS: each row of YtghocakjhfflbaaGreatDoorRows.lean that lists a variable, with what it lists TIED to the program's text (the seventh form; the later family's looks); each row that meets fmt, with fmt's text TOLD by the authors' own Lean function (tested against real Go, not proved from fmt's source: count such statements apart). THE CARD IS WHAT COUNTS. Prove the row's statement (the work); the ties are given (YtghocakjhfflbaaGreatDoorTie.lean); close each card by the builder's one call (the guide's Derived/Test/ToyasCard.lean, 'card_holds'). Laid BY PROGRAM, IN A SANDBOX (cutbox-door.mjs). By AI agents, Wed Nov 11 2026. No macro, syntax, notation, axiom, sorry.
-/
import Derived.Test.YtghocakjhfflbaaGreatDoorRows
import GoSem.ClaimSeven
namespace Go.Proofs.YtghocakjhfflbaaGreatDoor
namespace Rows

/-- THE TIED CARD OF 'laws.FnExactValidWorkspace'. -/
def fnExactValidWorkspaceCard : Claim7 := { stood := { row := fnExactValidWorkspaceRow, standIns := [], harness := (true, "6d03fc338f1d3734fc51ad8dbe914f140962e7af930b85e2731a41e60ca04677"), looks := true }, kinds := [], alts := [], laidByText := true, laidKinds := [.data, .data, .data, .data, .sentinel, .sentinel, .pinned], laidTests := true, laidLooks := .later }
def FnExactValidWorkspaceCardSaid : Prop := Claim7.holds Tryz.pinned (.plain (OpenSpec.ofChange fnExactValidWorkspaceSpec)) fnExactValidWorkspaceCard

/-- THE TIED CARD OF 'laws.FnExactStatementText'. -/
def fnExactStatementTextCard : Claim7 := { stood := { row := fnExactStatementTextRow, standIns := [], harness := (true, "6d03fc338f1d3734fc51ad8dbe914f140962e7af930b85e2731a41e60ca04677"), looks := true }, kinds := [], alts := [], laidByText := true, laidKinds := [.data, .data, .data, .data, .sentinel, .sentinel, .pinned], laidTests := true, laidLooks := .later }
def FnExactStatementTextCardSaid : Prop := Claim7.holds Tryz.pinned (.plain (OpenSpec.ofChange fnExactStatementTextSpec)) fnExactStatementTextCard

/-- THE SECOND FORM's CARD OF 'laws.FnExactValidWorkspace'. -/
def fnExactValidWorkspaceUptoCard : Claim7 := { stood := { row := fnExactValidWorkspaceUptoRow, standIns := [], harness := (true, "6d03fc338f1d3734fc51ad8dbe914f140962e7af930b85e2731a41e60ca04677"), looks := true }, kinds := [], alts := [], laidByText := true, laidKinds := [.data, .data, .data, .data, .sentinel, .sentinel, .pinned], laidTests := true, laidLooks := .later }
def FnExactValidWorkspaceUptoCardSaid : Prop := Claim7.holds Tryz.pinned (.plain (OpenSpec.upto fnExactValidWorkspaceSpec)) fnExactValidWorkspaceUptoCard

/-- THE SECOND FORM's CARD OF 'laws.FnExactStatementText'. -/
def fnExactStatementTextUptoCard : Claim7 := { stood := { row := fnExactStatementTextUptoRow, standIns := [], harness := (true, "6d03fc338f1d3734fc51ad8dbe914f140962e7af930b85e2731a41e60ca04677"), looks := true }, kinds := [], alts := [], laidByText := true, laidKinds := [.data, .data, .data, .data, .sentinel, .sentinel, .pinned], laidTests := true, laidLooks := .later }
def FnExactStatementTextUptoCardSaid : Prop := Claim7.holds Tryz.pinned (.plain (OpenSpec.upto fnExactStatementTextSpec)) fnExactStatementTextUptoCard
end Rows
end Go.Proofs.YtghocakjhfflbaaGreatDoor
