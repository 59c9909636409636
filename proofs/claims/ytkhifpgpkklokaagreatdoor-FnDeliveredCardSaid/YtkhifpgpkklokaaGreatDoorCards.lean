/-
  DERIVED. GIVEN WITH THE SEED: THE CARDS: each row of YtkhifpgpkklokaaGreatDoorRows.lean that lists a variable, with what it lists TIED to the program's text (the seventh form; the later family's looks); each row that meets fmt, with fmt's text TOLD by the authors' own Lean function (tested against real Go, not proved from fmt's source: count such statements apart). THE CARD IS WHAT COUNTS. Prove the row's statement (the work); the ties are given (YtkhifpgpkklokaaGreatDoorTie.lean); close each card by the builder's one call (the guide's Derived/Test/ToyasCard.lean, 'card_holds'). Laid BY PROGRAM, IN A SANDBOX (cutbox-door.mjs). By AI agents, Wed Nov 11 2026. No macro, syntax, notation, axiom, sorry.
-/
import Derived.Test.YtkhifpgpkklokaaGreatDoorRows
import GoSem.ClaimSeven
namespace Go.Proofs.YtkhifpgpkklokaaGreatDoor
namespace Rows

/-- THE TIED CARD OF 'laws.FnDelivered'. -/
def fnDeliveredCard : Claim7 := { stood := { row := fnDeliveredRow, standIns := [], harness := (true, "2109e670067adbd7788edbfd34d7782a6ce267f92f86ecdd8018c1aad628f614"), looks := true }, kinds := [], alts := [], laidByText := true, laidKinds := [.data, .data, .data, .data, .sentinel, .sentinel, .pinned], laidTests := true, laidLooks := .later }
def FnDeliveredCardSaid : Prop := Claim7.holds Tryz.pinned (.plain (OpenSpec.ofChange fnDeliveredSpec)) fnDeliveredCard

/-- THE TIED CARD OF 'laws.FnExactTraceText'. -/
def fnExactTraceTextCard : Claim7 := { stood := { row := fnExactTraceTextRow, standIns := [], harness := (true, "2109e670067adbd7788edbfd34d7782a6ce267f92f86ecdd8018c1aad628f614"), looks := true }, kinds := [], alts := [], laidByText := true, laidKinds := [.data, .data, .data, .data, .sentinel, .sentinel, .pinned], laidTests := true, laidLooks := .later }
def FnExactTraceTextCardSaid : Prop := Claim7.holds Tryz.pinned (.plain (OpenSpec.ofChange fnExactTraceTextSpec)) fnExactTraceTextCard

/-- THE TIED CARD OF 'laws.FnExactReadTrace'. -/
def fnExactReadTraceCard : Claim7 := { stood := { row := fnExactReadTraceRow, standIns := [], harness := (true, "2109e670067adbd7788edbfd34d7782a6ce267f92f86ecdd8018c1aad628f614"), looks := true }, kinds := [], alts := [], laidByText := true, laidKinds := [.data, .data, .data, .data, .sentinel, .sentinel, .pinned], laidTests := true, laidLooks := .later }
def FnExactReadTraceCardSaid : Prop := Claim7.holds Tryz.pinned (.plain (OpenSpec.ofChange fnExactReadTraceSpec)) fnExactReadTraceCard

/-- THE TIED CARD OF 'laws.FnExactRegularText'. -/
def fnExactRegularTextCard : Claim7 := { stood := { row := fnExactRegularTextRow, standIns := [], harness := (true, "2109e670067adbd7788edbfd34d7782a6ce267f92f86ecdd8018c1aad628f614"), looks := true }, kinds := [], alts := [], laidByText := true, laidKinds := [.data, .data, .data, .data, .sentinel, .sentinel, .pinned], laidTests := true, laidLooks := .later }
def FnExactRegularTextCardSaid : Prop := Claim7.holds Tryz.pinned (.plain (OpenSpec.ofChange fnExactRegularTextSpec)) fnExactRegularTextCard

/-- THE TIED CARD OF 'laws.FnExactEncodeLts'. -/
def fnExactEncodeLtsCard : Claim7 := { stood := { row := fnExactEncodeLtsRow, standIns := [], harness := (true, "2109e670067adbd7788edbfd34d7782a6ce267f92f86ecdd8018c1aad628f614"), looks := true }, kinds := [], alts := [], laidByText := true, laidKinds := [.data, .data, .data, .data, .sentinel, .sentinel, .pinned], laidTests := true, laidLooks := .later }
def FnExactEncodeLtsCardSaid : Prop := Claim7.holds Tryz.pinned (.plain (OpenSpec.ofChange fnExactEncodeLtsSpec)) fnExactEncodeLtsCard

/-- THE SECOND FORM's CARD OF 'laws.FnDelivered'. -/
def fnDeliveredUptoCard : Claim7 := { stood := { row := fnDeliveredUptoRow, standIns := [], harness := (true, "2109e670067adbd7788edbfd34d7782a6ce267f92f86ecdd8018c1aad628f614"), looks := true }, kinds := [], alts := [], laidByText := true, laidKinds := [.data, .data, .data, .data, .sentinel, .sentinel, .pinned], laidTests := true, laidLooks := .later }
def FnDeliveredUptoCardSaid : Prop := Claim7.holds Tryz.pinned (.plain (OpenSpec.upto fnDeliveredSpec)) fnDeliveredUptoCard

/-- THE SECOND FORM's CARD OF 'laws.FnExactTraceText'. -/
def fnExactTraceTextUptoCard : Claim7 := { stood := { row := fnExactTraceTextUptoRow, standIns := [], harness := (true, "2109e670067adbd7788edbfd34d7782a6ce267f92f86ecdd8018c1aad628f614"), looks := true }, kinds := [], alts := [], laidByText := true, laidKinds := [.data, .data, .data, .data, .sentinel, .sentinel, .pinned], laidTests := true, laidLooks := .later }
def FnExactTraceTextUptoCardSaid : Prop := Claim7.holds Tryz.pinned (.plain (OpenSpec.upto fnExactTraceTextSpec)) fnExactTraceTextUptoCard

/-- THE SECOND FORM's CARD OF 'laws.FnExactReadTrace'. -/
def fnExactReadTraceUptoCard : Claim7 := { stood := { row := fnExactReadTraceUptoRow, standIns := [], harness := (true, "2109e670067adbd7788edbfd34d7782a6ce267f92f86ecdd8018c1aad628f614"), looks := true }, kinds := [], alts := [], laidByText := true, laidKinds := [.data, .data, .data, .data, .sentinel, .sentinel, .pinned], laidTests := true, laidLooks := .later }
def FnExactReadTraceUptoCardSaid : Prop := Claim7.holds Tryz.pinned (.plain (OpenSpec.upto fnExactReadTraceSpec)) fnExactReadTraceUptoCard

/-- THE SECOND FORM's CARD OF 'laws.FnExactRegularText'. -/
def fnExactRegularTextUptoCard : Claim7 := { stood := { row := fnExactRegularTextUptoRow, standIns := [], harness := (true, "2109e670067adbd7788edbfd34d7782a6ce267f92f86ecdd8018c1aad628f614"), looks := true }, kinds := [], alts := [], laidByText := true, laidKinds := [.data, .data, .data, .data, .sentinel, .sentinel, .pinned], laidTests := true, laidLooks := .later }
def FnExactRegularTextUptoCardSaid : Prop := Claim7.holds Tryz.pinned (.plain (OpenSpec.upto fnExactRegularTextSpec)) fnExactRegularTextUptoCard

/-- THE SECOND FORM's CARD OF 'laws.FnExactEncodeLts'. -/
def fnExactEncodeLtsUptoCard : Claim7 := { stood := { row := fnExactEncodeLtsUptoRow, standIns := [], harness := (true, "2109e670067adbd7788edbfd34d7782a6ce267f92f86ecdd8018c1aad628f614"), looks := true }, kinds := [], alts := [], laidByText := true, laidKinds := [.data, .data, .data, .data, .sentinel, .sentinel, .pinned], laidTests := true, laidLooks := .later }
def FnExactEncodeLtsUptoCardSaid : Prop := Claim7.holds Tryz.pinned (.plain (OpenSpec.upto fnExactEncodeLtsSpec)) fnExactEncodeLtsUptoCard
end Rows
end Go.Proofs.YtkhifpgpkklokaaGreatDoor
