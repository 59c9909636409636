/-
  DERIVED. GIVEN WITH THE SEED: THE CARDS: each row of YtijmkcnipflpbaaGreatDoorRows.lean that lists a variable, with what it lists TIED to the program's text (the seventh form; the later family's looks); each row that meets fmt, with fmt's text TOLD by the authors' own Lean function (tested against real Go, not proved from fmt's source: count such statements apart). THE CARD IS WHAT COUNTS. Prove the row's statement (the work); the ties are given (YtijmkcnipflpbaaGreatDoorTie.lean); close each card by the builder's one call (the guide's Derived/Test/ToyasCard.lean, 'card_holds'). Laid BY PROGRAM, IN A SANDBOX (cutbox-door.mjs). By AI agents, Wed Nov 11 2026. No macro, syntax, notation, axiom, sorry.
-/
import Derived.Test.YtijmkcnipflpbaaGreatDoorRows
import GoSem.ClaimSeven
namespace Go.Proofs.YtijmkcnipflpbaaGreatDoor
namespace Rows

/-- THE TIED CARD OF 'laws.FnExactSystemText'. -/
def fnExactSystemTextCard : Claim7 := { stood := { row := fnExactSystemTextRow, standIns := [], harness := (true, "2e6c21f63c3419b47ba49646f918ecbbcceecf9c612edfabe600a7e49d59867d"), looks := false }, kinds := [], alts := [], laidByText := true, laidKinds := [.data, .data, .data, .widerDeep, .data], laidTests := true, laidLooks := .later }
def FnExactSystemTextCardSaid : Prop := Claim7.holds Tryz.pinned (.plain (OpenSpec.ofChange fnExactSystemTextSpec)) fnExactSystemTextCard

/-- THE TIED CARD OF 'laws.FnExactSystemLines'. -/
def fnExactSystemLinesCard : Claim7 := { stood := { row := fnExactSystemLinesRow, standIns := [], harness := (true, "2e6c21f63c3419b47ba49646f918ecbbcceecf9c612edfabe600a7e49d59867d"), looks := false }, kinds := [], alts := [], laidByText := true, laidKinds := [.data, .data, .data, .widerDeep, .data], laidTests := true, laidLooks := .later }
def FnExactSystemLinesCardSaid : Prop := Claim7.holds Tryz.pinned (.plain (OpenSpec.ofChange fnExactSystemLinesSpec)) fnExactSystemLinesCard

/-- THE SECOND FORM's CARD OF 'laws.FnExactSystemText'. -/
def fnExactSystemTextUptoCard : Claim7 := { stood := { row := fnExactSystemTextUptoRow, standIns := [], harness := (true, "2e6c21f63c3419b47ba49646f918ecbbcceecf9c612edfabe600a7e49d59867d"), looks := false }, kinds := [], alts := [], laidByText := true, laidKinds := [.data, .data, .data, .widerDeep, .data], laidTests := true, laidLooks := .later }
def FnExactSystemTextUptoCardSaid : Prop := Claim7.holds Tryz.pinned (.plain (OpenSpec.upto fnExactSystemTextSpec)) fnExactSystemTextUptoCard

/-- THE SECOND FORM's CARD OF 'laws.FnExactSystemLines'. -/
def fnExactSystemLinesUptoCard : Claim7 := { stood := { row := fnExactSystemLinesUptoRow, standIns := [], harness := (true, "2e6c21f63c3419b47ba49646f918ecbbcceecf9c612edfabe600a7e49d59867d"), looks := false }, kinds := [], alts := [], laidByText := true, laidKinds := [.data, .data, .data, .widerDeep, .data], laidTests := true, laidLooks := .later }
def FnExactSystemLinesUptoCardSaid : Prop := Claim7.holds Tryz.pinned (.plain (OpenSpec.upto fnExactSystemLinesSpec)) fnExactSystemLinesUptoCard
end Rows
end Go.Proofs.YtijmkcnipflpbaaGreatDoor
