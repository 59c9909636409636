/-
  DERIVED. GIVEN WITH THE SEED: THE CARDS: each row of YtlondofadjcooaaGreatDoorRows.lean that lists a variable, with what it lists TIED to the program's text (the seventh form; the later family's looks); each row that meets fmt, with fmt's text TOLD by the authors' own Lean function (tested against real Go, not proved from fmt's source: count such statements apart). THE CARD IS WHAT COUNTS. Prove the row's statement (the work); the ties are given (YtlondofadjcooaaGreatDoorTie.lean); close each card by the builder's one call (the guide's Derived/Test/ToyasCard.lean, 'card_holds'). Laid BY PROGRAM, IN A SANDBOX (cutbox-door.mjs). By AI agents, Wed Nov 11 2026. No macro, syntax, notation, axiom, sorry.
-/
import Derived.Test.YtlondofadjcooaaGreatDoorRows
import GoSem.ClaimSeven
namespace Go.Proofs.YtlondofadjcooaaGreatDoor
namespace Rows

/-- THE TIED CARD OF 'laws.FnExactPrioritizeConfluent'. -/
def fnExactPrioritizeConfluentCard : Claim7 := { stood := { row := fnExactPrioritizeConfluentRow, standIns := [], harness := (true, "01f4d0de0f5b4417472ce56390951ca7961809e8c7745f6f9d4d04f99613020c"), looks := true }, kinds := [], alts := [], laidByText := true, laidKinds := [.data, .data, .data, .data, .sentinel, .sentinel, .pinned], laidTests := true, laidLooks := .later }
def FnExactPrioritizeConfluentCardSaid : Prop := Claim7.holds Tryz.pinned (.plain (OpenSpec.ofChange fnExactPrioritizeConfluentSpec)) fnExactPrioritizeConfluentCard

/-- THE TIED CARD OF 'laws.FnExactCanLeave'. -/
def fnExactCanLeaveCard : Claim7 := { stood := { row := fnExactCanLeaveRow, standIns := [], harness := (true, "01f4d0de0f5b4417472ce56390951ca7961809e8c7745f6f9d4d04f99613020c"), looks := true }, kinds := [], alts := [], laidByText := true, laidKinds := [.data, .data, .data, .data, .sentinel, .sentinel, .pinned], laidTests := true, laidLooks := .later }
def FnExactCanLeaveCardSaid : Prop := Claim7.holds Tryz.pinned (.plain (OpenSpec.ofChange fnExactCanLeaveSpec)) fnExactCanLeaveCard

/-- THE SECOND FORM's CARD OF 'laws.FnExactPrioritizeConfluent'. -/
def fnExactPrioritizeConfluentUptoCard : Claim7 := { stood := { row := fnExactPrioritizeConfluentUptoRow, standIns := [], harness := (true, "01f4d0de0f5b4417472ce56390951ca7961809e8c7745f6f9d4d04f99613020c"), looks := true }, kinds := [], alts := [], laidByText := true, laidKinds := [.data, .data, .data, .data, .sentinel, .sentinel, .pinned], laidTests := true, laidLooks := .later }
def FnExactPrioritizeConfluentUptoCardSaid : Prop := Claim7.holds Tryz.pinned (.plain (OpenSpec.upto fnExactPrioritizeConfluentSpec)) fnExactPrioritizeConfluentUptoCard

/-- THE SECOND FORM's CARD OF 'laws.FnExactCanLeave'. -/
def fnExactCanLeaveUptoCard : Claim7 := { stood := { row := fnExactCanLeaveUptoRow, standIns := [], harness := (true, "01f4d0de0f5b4417472ce56390951ca7961809e8c7745f6f9d4d04f99613020c"), looks := true }, kinds := [], alts := [], laidByText := true, laidKinds := [.data, .data, .data, .data, .sentinel, .sentinel, .pinned], laidTests := true, laidLooks := .later }
def FnExactCanLeaveUptoCardSaid : Prop := Claim7.holds Tryz.pinned (.plain (OpenSpec.upto fnExactCanLeaveSpec)) fnExactCanLeaveUptoCard
end Rows
end Go.Proofs.YtlondofadjcooaaGreatDoor
