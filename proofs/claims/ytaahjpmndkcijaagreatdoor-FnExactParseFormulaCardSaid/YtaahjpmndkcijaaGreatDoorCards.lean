/-
  DERIVED. GIVEN WITH THE SEED: THE CARDS: each row of YtaahjpmndkcijaaGreatDoorRows.lean that lists a variable, with what it lists TIED to the program's text (the seventh form; the later family's looks); each row that meets fmt, with fmt's text TOLD by the authors' own Lean function (tested against real Go, not proved from fmt's source: count such statements apart). THE CARD IS WHAT COUNTS. Prove the row's statement (the work); the ties are given (YtaahjpmndkcijaaGreatDoorTie.lean); close each card by the builder's one call (the guide's Derived/Test/ToyasCard.lean, 'card_holds'). Laid BY PROGRAM, IN A SANDBOX (cutbox-door.mjs). By AI agents, Wed Nov 11 2026. No macro, syntax, notation, axiom, sorry.
-/
import Derived.Test.YtaahjpmndkcijaaGreatDoorRows
import GoSem.ClaimSeven
namespace Go.Proofs.YtaahjpmndkcijaaGreatDoor
namespace Rows

/-- THE TIED CARD OF 'laws.FnExactParseRegular'. -/
def fnExactParseRegularCard : Claim7 := { stood := { row := fnExactParseRegularRow, standIns := [], harness := (true, "03659ede63909eab153a5a294dbc334e3b038bfcb4dd4d0de113a2b541fb4e91"), looks := true }, kinds := [], alts := [], laidByText := true, laidKinds := [.data, .data, .data, .data, .sentinel, .sentinel, .pinned], laidTests := true, laidLooks := .later }
def FnExactParseRegularCardSaid : Prop := Claim7.holds Tryz.pinned (.plain (OpenSpec.ofChange fnExactParseRegularSpec)) fnExactParseRegularCard

/-- THE TIED CARD OF 'laws.FnExactParseFormula'. -/
def fnExactParseFormulaCard : Claim7 := { stood := { row := fnExactParseFormulaRow, standIns := [], harness := (true, "03659ede63909eab153a5a294dbc334e3b038bfcb4dd4d0de113a2b541fb4e91"), looks := true }, kinds := [], alts := [], laidByText := true, laidKinds := [.data, .data, .data, .data, .sentinel, .sentinel, .pinned], laidTests := true, laidLooks := .later }
def FnExactParseFormulaCardSaid : Prop := Claim7.holds Tryz.pinned (.plain (OpenSpec.ofChange fnExactParseFormulaSpec)) fnExactParseFormulaCard

/-- THE SECOND FORM's CARD OF 'laws.FnExactParseRegular'. -/
def fnExactParseRegularUptoCard : Claim7 := { stood := { row := fnExactParseRegularUptoRow, standIns := [], harness := (true, "03659ede63909eab153a5a294dbc334e3b038bfcb4dd4d0de113a2b541fb4e91"), looks := true }, kinds := [], alts := [], laidByText := true, laidKinds := [.data, .data, .data, .data, .sentinel, .sentinel, .pinned], laidTests := true, laidLooks := .later }
def FnExactParseRegularUptoCardSaid : Prop := Claim7.holds Tryz.pinned (.plain (OpenSpec.upto fnExactParseRegularSpec)) fnExactParseRegularUptoCard

/-- THE SECOND FORM's CARD OF 'laws.FnExactParseFormula'. -/
def fnExactParseFormulaUptoCard : Claim7 := { stood := { row := fnExactParseFormulaUptoRow, standIns := [], harness := (true, "03659ede63909eab153a5a294dbc334e3b038bfcb4dd4d0de113a2b541fb4e91"), looks := true }, kinds := [], alts := [], laidByText := true, laidKinds := [.data, .data, .data, .data, .sentinel, .sentinel, .pinned], laidTests := true, laidLooks := .later }
def FnExactParseFormulaUptoCardSaid : Prop := Claim7.holds Tryz.pinned (.plain (OpenSpec.upto fnExactParseFormulaSpec)) fnExactParseFormulaUptoCard
end Rows
end Go.Proofs.YtaahjpmndkcijaaGreatDoor
