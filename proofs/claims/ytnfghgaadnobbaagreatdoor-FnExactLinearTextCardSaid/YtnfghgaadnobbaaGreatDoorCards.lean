/-
  DERIVED. GIVEN WITH THE SEED: THE CARDS: each row of YtnfghgaadnobbaaGreatDoorRows.lean that lists a variable, with what it lists TIED to the program's text (the seventh form; the later family's looks); each row that meets fmt, with fmt's text TOLD by the authors' own Lean function (tested against real Go, not proved from fmt's source: count such statements apart). THE CARD IS WHAT COUNTS. Prove the row's statement (the work); the ties are given (YtnfghgaadnobbaaGreatDoorTie.lean); close each card by the builder's one call (the guide's Derived/Test/ToyasCard.lean, 'card_holds'). Laid BY PROGRAM, IN A SANDBOX (cutbox-door.mjs). By AI agents, Wed Nov 11 2026. No macro, syntax, notation, axiom, sorry.
-/
import Derived.Test.YtnfghgaadnobbaaGreatDoorRows
import GoSem.ClaimSeven
namespace Go.Proofs.YtnfghgaadnobbaaGreatDoor
namespace Rows

/-- THE TIED CARD OF 'laws.FnExactLinearText'. -/
def fnExactLinearTextCard : Claim7 := { stood := { row := fnExactLinearTextRow, standIns := [], harness := (true, "f54b7025109043c9d12b948ae72893d0428ebe55ceca11f8abeba9f300c79053"), looks := false }, kinds := [], alts := [], laidByText := true, laidKinds := [.data, .data, .data, .widerDeep, .data], laidTests := true, laidLooks := .later }
def FnExactLinearTextCardSaid : Prop := Claim7.holds Tryz.pinned (.plain (OpenSpec.ofChange fnExactLinearTextSpec)) fnExactLinearTextCard

/-- THE SECOND FORM's CARD OF 'laws.FnExactLinearText'. -/
def fnExactLinearTextUptoCard : Claim7 := { stood := { row := fnExactLinearTextUptoRow, standIns := [], harness := (true, "f54b7025109043c9d12b948ae72893d0428ebe55ceca11f8abeba9f300c79053"), looks := false }, kinds := [], alts := [], laidByText := true, laidKinds := [.data, .data, .data, .widerDeep, .data], laidTests := true, laidLooks := .later }
def FnExactLinearTextUptoCardSaid : Prop := Claim7.holds Tryz.pinned (.plain (OpenSpec.upto fnExactLinearTextSpec)) fnExactLinearTextUptoCard
end Rows
end Go.Proofs.YtnfghgaadnobbaaGreatDoor
