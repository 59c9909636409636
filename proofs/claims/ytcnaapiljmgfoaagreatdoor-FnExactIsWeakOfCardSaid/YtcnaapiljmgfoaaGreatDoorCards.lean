/-
  DERIVED. GIVEN WITH THE SEED: THE CARDS: each row of YtcnaapiljmgfoaaGreatDoorRows.lean that lists a variable, with what it lists TIED to the program's text (the seventh form; the later family's looks); each row that meets fmt, with fmt's text TOLD by the authors' own Lean function (tested against real Go, not proved from fmt's source: count such statements apart). THE CARD IS WHAT COUNTS. Prove the row's statement (the work); the ties are given (YtcnaapiljmgfoaaGreatDoorTie.lean); close each card by the builder's one call (the guide's Derived/Test/ToyasCard.lean, 'card_holds'). Laid BY PROGRAM, IN A SANDBOX (cutbox-door.mjs). By AI agents, Wed Nov 11 2026. No macro, syntax, notation, axiom, sorry.
-/
import Derived.Test.YtcnaapiljmgfoaaGreatDoorRows
import GoSem.ClaimSeven
namespace Go.Proofs.YtcnaapiljmgfoaaGreatDoor
namespace Rows

/-- THE TIED CARD OF 'laws.FnExactIsBisimulationOf'. -/
def fnExactIsBisimulationOfCard : Claim7 := { stood := { row := fnExactIsBisimulationOfRow, standIns := [], harness := (true, "bc3b400f0f9ef448122de4ef9383855e62ba819c24a79b4d287492e8cf21d80e"), looks := true }, kinds := [], alts := [], laidByText := true, laidKinds := [.data, .data, .data, .data, .sentinel, .sentinel, .pinned], laidTests := true, laidLooks := .later }
def FnExactIsBisimulationOfCardSaid : Prop := Claim7.holds Tryz.pinned (.plain (OpenSpec.ofChange fnExactIsBisimulationOfSpec)) fnExactIsBisimulationOfCard

/-- THE TIED CARD OF 'laws.FnExactIsBranchingOf'. -/
def fnExactIsBranchingOfCard : Claim7 := { stood := { row := fnExactIsBranchingOfRow, standIns := [], harness := (true, "bc3b400f0f9ef448122de4ef9383855e62ba819c24a79b4d287492e8cf21d80e"), looks := true }, kinds := [], alts := [], laidByText := true, laidKinds := [.data, .data, .data, .data, .sentinel, .sentinel, .pinned], laidTests := true, laidLooks := .later }
def FnExactIsBranchingOfCardSaid : Prop := Claim7.holds Tryz.pinned (.plain (OpenSpec.ofChange fnExactIsBranchingOfSpec)) fnExactIsBranchingOfCard

/-- THE TIED CARD OF 'laws.FnExactCanLeave'. -/
def fnExactCanLeaveCard : Claim7 := { stood := { row := fnExactCanLeaveRow, standIns := [], harness := (true, "bc3b400f0f9ef448122de4ef9383855e62ba819c24a79b4d287492e8cf21d80e"), looks := true }, kinds := [], alts := [], laidByText := true, laidKinds := [.data, .data, .data, .data, .sentinel, .sentinel, .pinned], laidTests := true, laidLooks := .later }
def FnExactCanLeaveCardSaid : Prop := Claim7.holds Tryz.pinned (.plain (OpenSpec.ofChange fnExactCanLeaveSpec)) fnExactCanLeaveCard

/-- THE TIED CARD OF 'laws.FnExactIsWeakOf'. -/
def fnExactIsWeakOfCard : Claim7 := { stood := { row := fnExactIsWeakOfRow, standIns := [], harness := (true, "bc3b400f0f9ef448122de4ef9383855e62ba819c24a79b4d287492e8cf21d80e"), looks := true }, kinds := [], alts := [], laidByText := true, laidKinds := [.data, .data, .data, .data, .sentinel, .sentinel, .pinned], laidTests := true, laidLooks := .later }
def FnExactIsWeakOfCardSaid : Prop := Claim7.holds Tryz.pinned (.plain (OpenSpec.ofChange fnExactIsWeakOfSpec)) fnExactIsWeakOfCard

/-- THE SECOND FORM's CARD OF 'laws.FnExactIsBisimulationOf'. -/
def fnExactIsBisimulationOfUptoCard : Claim7 := { stood := { row := fnExactIsBisimulationOfUptoRow, standIns := [], harness := (true, "bc3b400f0f9ef448122de4ef9383855e62ba819c24a79b4d287492e8cf21d80e"), looks := true }, kinds := [], alts := [], laidByText := true, laidKinds := [.data, .data, .data, .data, .sentinel, .sentinel, .pinned], laidTests := true, laidLooks := .later }
def FnExactIsBisimulationOfUptoCardSaid : Prop := Claim7.holds Tryz.pinned (.plain (OpenSpec.upto fnExactIsBisimulationOfSpec)) fnExactIsBisimulationOfUptoCard

/-- THE SECOND FORM's CARD OF 'laws.FnExactIsBranchingOf'. -/
def fnExactIsBranchingOfUptoCard : Claim7 := { stood := { row := fnExactIsBranchingOfUptoRow, standIns := [], harness := (true, "bc3b400f0f9ef448122de4ef9383855e62ba819c24a79b4d287492e8cf21d80e"), looks := true }, kinds := [], alts := [], laidByText := true, laidKinds := [.data, .data, .data, .data, .sentinel, .sentinel, .pinned], laidTests := true, laidLooks := .later }
def FnExactIsBranchingOfUptoCardSaid : Prop := Claim7.holds Tryz.pinned (.plain (OpenSpec.upto fnExactIsBranchingOfSpec)) fnExactIsBranchingOfUptoCard

/-- THE SECOND FORM's CARD OF 'laws.FnExactCanLeave'. -/
def fnExactCanLeaveUptoCard : Claim7 := { stood := { row := fnExactCanLeaveUptoRow, standIns := [], harness := (true, "bc3b400f0f9ef448122de4ef9383855e62ba819c24a79b4d287492e8cf21d80e"), looks := true }, kinds := [], alts := [], laidByText := true, laidKinds := [.data, .data, .data, .data, .sentinel, .sentinel, .pinned], laidTests := true, laidLooks := .later }
def FnExactCanLeaveUptoCardSaid : Prop := Claim7.holds Tryz.pinned (.plain (OpenSpec.upto fnExactCanLeaveSpec)) fnExactCanLeaveUptoCard

/-- THE SECOND FORM's CARD OF 'laws.FnExactIsWeakOf'. -/
def fnExactIsWeakOfUptoCard : Claim7 := { stood := { row := fnExactIsWeakOfUptoRow, standIns := [], harness := (true, "bc3b400f0f9ef448122de4ef9383855e62ba819c24a79b4d287492e8cf21d80e"), looks := true }, kinds := [], alts := [], laidByText := true, laidKinds := [.data, .data, .data, .data, .sentinel, .sentinel, .pinned], laidTests := true, laidLooks := .later }
def FnExactIsWeakOfUptoCardSaid : Prop := Claim7.holds Tryz.pinned (.plain (OpenSpec.upto fnExactIsWeakOfSpec)) fnExactIsWeakOfUptoCard
end Rows
end Go.Proofs.YtcnaapiljmgfoaaGreatDoor
