/-
  DERIVED. GIVEN WITH THE SEED: THE CARDS: each row of YthoacpecfmfeiaaGreatDoorRows.lean that lists a variable, with what it lists TIED to the program's text (the seventh form; the later family's looks); each row that meets fmt, with fmt's text TOLD by the authors' own Lean function (tested against real Go, not proved from fmt's source: count such statements apart). THE CARD IS WHAT COUNTS. Prove the row's statement (the work); the ties are given (YthoacpecfmfeiaaGreatDoorTie.lean); close each card by the builder's one call (the guide's Derived/Test/ToyasCard.lean, 'card_holds'). Laid BY PROGRAM, IN A SANDBOX (cutbox-door.mjs). By AI agents, Wed Nov 11 2026. No macro, syntax, notation, axiom, sorry.
-/
import Derived.Test.YthoacpecfmfeiaaGreatDoorRows
import GoSem.ClaimSeven
namespace Go.Proofs.YthoacpecfmfeiaaGreatDoor
namespace Rows

/-- THE TIED CARD OF 'laws.FnExactEncodeFormula'. -/
def fnExactEncodeFormulaCard : Claim7 := { stood := { row := fnExactEncodeFormulaRow, standIns := [], harness := (true, "a5c4e721665d50c9e52adb29e5c19957de53db31b21fae86d1e5e3803c1599a5"), looks := true }, kinds := [], alts := [], laidByText := true, laidKinds := [.data, .data, .data, .data, .sentinel, .sentinel, .pinned], laidTests := true, laidLooks := .later }
def FnExactEncodeFormulaCardSaid : Prop := Claim7.holds Tryz.pinned (.plain (OpenSpec.ofChange fnExactEncodeFormulaSpec)) fnExactEncodeFormulaCard

/-- THE TIED CARD OF 'laws.FnExactDecodeFormula'. -/
def fnExactDecodeFormulaCard : Claim7 := { stood := { row := fnExactDecodeFormulaRow, standIns := [], harness := (true, "a5c4e721665d50c9e52adb29e5c19957de53db31b21fae86d1e5e3803c1599a5"), looks := true }, kinds := [], alts := [], laidByText := true, laidKinds := [.data, .data, .data, .data, .sentinel, .sentinel, .pinned], laidTests := true, laidLooks := .later }
def FnExactDecodeFormulaCardSaid : Prop := Claim7.holds Tryz.pinned (.plain (OpenSpec.ofChange fnExactDecodeFormulaSpec)) fnExactDecodeFormulaCard

/-- THE SECOND FORM's CARD OF 'laws.FnExactEncodeFormula'. -/
def fnExactEncodeFormulaUptoCard : Claim7 := { stood := { row := fnExactEncodeFormulaUptoRow, standIns := [], harness := (true, "a5c4e721665d50c9e52adb29e5c19957de53db31b21fae86d1e5e3803c1599a5"), looks := true }, kinds := [], alts := [], laidByText := true, laidKinds := [.data, .data, .data, .data, .sentinel, .sentinel, .pinned], laidTests := true, laidLooks := .later }
def FnExactEncodeFormulaUptoCardSaid : Prop := Claim7.holds Tryz.pinned (.plain (OpenSpec.upto fnExactEncodeFormulaSpec)) fnExactEncodeFormulaUptoCard

/-- THE SECOND FORM's CARD OF 'laws.FnExactDecodeFormula'. -/
def fnExactDecodeFormulaUptoCard : Claim7 := { stood := { row := fnExactDecodeFormulaUptoRow, standIns := [], harness := (true, "a5c4e721665d50c9e52adb29e5c19957de53db31b21fae86d1e5e3803c1599a5"), looks := true }, kinds := [], alts := [], laidByText := true, laidKinds := [.data, .data, .data, .data, .sentinel, .sentinel, .pinned], laidTests := true, laidLooks := .later }
def FnExactDecodeFormulaUptoCardSaid : Prop := Claim7.holds Tryz.pinned (.plain (OpenSpec.upto fnExactDecodeFormulaSpec)) fnExactDecodeFormulaUptoCard
end Rows
end Go.Proofs.YthoacpecfmfeiaaGreatDoor
