/-
  DERIVED. GIVEN WITH THE SEED: THE CARDS: each row of YtjelcjiofcoifaaGreatDoorRows.lean that lists a variable, with what it lists TIED to the program's text (the seventh form; the later family's looks); each row that meets fmt, with fmt's text TOLD by the authors' own Lean function (tested against real Go, not proved from fmt's source: count such statements apart). THE CARD IS WHAT COUNTS. Prove the row's statement (the work); the ties are given (YtjelcjiofcoifaaGreatDoorTie.lean); close each card by the builder's one call (the guide's Derived/Test/ToyasCard.lean, 'card_holds'). Laid BY PROGRAM, IN A SANDBOX (cutbox-door.mjs). By AI agents, Wed Nov 11 2026. No macro, syntax, notation, axiom, sorry.
-/
import Derived.Test.YtjelcjiofcoifaaGreatDoorRows
import GoSem.ClaimSeven
namespace Go.Proofs.YtjelcjiofcoifaaGreatDoor
namespace Rows

/-- THE TIED CARD OF 'laws.FnExactDefinitionText'. -/
def fnExactDefinitionTextCard : Claim7 := { stood := { row := fnExactDefinitionTextRow, standIns := [], harness := (true, "a3cb23a6cd9453c30d7417bbac8161943dd36f70d0556fd36db29e0d61a563d1"), looks := false }, kinds := [], alts := [], laidByText := true, laidKinds := [.data, .data, .data, .widerDeep, .data], laidTests := true, laidLooks := .later }
def FnExactDefinitionTextCardSaid : Prop := Claim7.holds Tryz.pinned (.plain (OpenSpec.ofChange fnExactDefinitionTextSpec)) fnExactDefinitionTextCard

/-- THE TIED CARD OF 'laws.FnExactSystemText'. -/
def fnExactSystemTextCard : Claim7 := { stood := { row := fnExactSystemTextRow, standIns := [], harness := (true, "a3cb23a6cd9453c30d7417bbac8161943dd36f70d0556fd36db29e0d61a563d1"), looks := false }, kinds := [], alts := [], laidByText := true, laidKinds := [.data, .data, .data, .widerDeep, .data], laidTests := true, laidLooks := .later }
def FnExactSystemTextCardSaid : Prop := Claim7.holds Tryz.pinned (.plain (OpenSpec.ofChange fnExactSystemTextSpec)) fnExactSystemTextCard

/-- THE TIED CARD OF 'laws.FnExactSystemLines'. -/
def fnExactSystemLinesCard : Claim7 := { stood := { row := fnExactSystemLinesRow, standIns := [], harness := (true, "a3cb23a6cd9453c30d7417bbac8161943dd36f70d0556fd36db29e0d61a563d1"), looks := false }, kinds := [], alts := [], laidByText := true, laidKinds := [.data, .data, .data, .widerDeep, .data], laidTests := true, laidLooks := .later }
def FnExactSystemLinesCardSaid : Prop := Claim7.holds Tryz.pinned (.plain (OpenSpec.ofChange fnExactSystemLinesSpec)) fnExactSystemLinesCard

/-- THE SECOND FORM's CARD OF 'laws.FnExactDefinitionText'. -/
def fnExactDefinitionTextUptoCard : Claim7 := { stood := { row := fnExactDefinitionTextUptoRow, standIns := [], harness := (true, "a3cb23a6cd9453c30d7417bbac8161943dd36f70d0556fd36db29e0d61a563d1"), looks := false }, kinds := [], alts := [], laidByText := true, laidKinds := [.data, .data, .data, .widerDeep, .data], laidTests := true, laidLooks := .later }
def FnExactDefinitionTextUptoCardSaid : Prop := Claim7.holds Tryz.pinned (.plain (OpenSpec.upto fnExactDefinitionTextSpec)) fnExactDefinitionTextUptoCard

/-- THE SECOND FORM's CARD OF 'laws.FnExactSystemText'. -/
def fnExactSystemTextUptoCard : Claim7 := { stood := { row := fnExactSystemTextUptoRow, standIns := [], harness := (true, "a3cb23a6cd9453c30d7417bbac8161943dd36f70d0556fd36db29e0d61a563d1"), looks := false }, kinds := [], alts := [], laidByText := true, laidKinds := [.data, .data, .data, .widerDeep, .data], laidTests := true, laidLooks := .later }
def FnExactSystemTextUptoCardSaid : Prop := Claim7.holds Tryz.pinned (.plain (OpenSpec.upto fnExactSystemTextSpec)) fnExactSystemTextUptoCard

/-- THE SECOND FORM's CARD OF 'laws.FnExactSystemLines'. -/
def fnExactSystemLinesUptoCard : Claim7 := { stood := { row := fnExactSystemLinesUptoRow, standIns := [], harness := (true, "a3cb23a6cd9453c30d7417bbac8161943dd36f70d0556fd36db29e0d61a563d1"), looks := false }, kinds := [], alts := [], laidByText := true, laidKinds := [.data, .data, .data, .widerDeep, .data], laidTests := true, laidLooks := .later }
def FnExactSystemLinesUptoCardSaid : Prop := Claim7.holds Tryz.pinned (.plain (OpenSpec.upto fnExactSystemLinesSpec)) fnExactSystemLinesUptoCard
end Rows
end Go.Proofs.YtjelcjiofcoifaaGreatDoor
