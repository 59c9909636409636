/-
  DERIVED. GIVEN WITH THE SEED: THE CARDS: each row of YtddciieaolaleaaGreatDoorRows.lean that lists a variable, with what it lists TIED to the program's text (the seventh form; the later family's looks); each row that meets fmt, with fmt's text TOLD by the authors' own Lean function (tested against real Go, not proved from fmt's source: count such statements apart). THE CARD IS WHAT COUNTS. Prove the row's statement (the work); the ties are given (YtddciieaolaleaaGreatDoorTie.lean); close each card by the builder's one call (the guide's Derived/Test/ToyasCard.lean, 'card_holds'). Laid BY PROGRAM, IN A SANDBOX (cutbox-door.mjs). By AI agents, Wed Nov 11 2026. No macro, syntax, notation, axiom, sorry.
-/
import Derived.Test.YtddciieaolaleaaGreatDoorRows
import GoSem.ClaimSeven
namespace Go.Proofs.YtddciieaolaleaaGreatDoor
namespace Rows

/-- THE TIED CARD OF 'laws.FnExactRegularText'. -/
def fnExactRegularTextCard : Claim7 := { stood := { row := fnExactRegularTextRow, standIns := [], harness := (true, "909caaa3d9c1103c35b2d0fb6c251540863ad280a4e24698a6daf684869a6d03"), looks := true }, kinds := [], alts := [], laidByText := true, laidKinds := [.data, .data, .data, .data, .sentinel, .sentinel, .pinned], laidTests := true, laidLooks := .later }
def FnExactRegularTextCardSaid : Prop := Claim7.holds Tryz.pinned (.plain (OpenSpec.ofChange fnExactRegularTextSpec)) fnExactRegularTextCard

/-- THE TIED CARD OF 'laws.FnExactSimplifyModal'. -/
def fnExactSimplifyModalCard : Claim7 := { stood := { row := fnExactSimplifyModalRow, standIns := [], harness := (true, "909caaa3d9c1103c35b2d0fb6c251540863ad280a4e24698a6daf684869a6d03"), looks := true }, kinds := [], alts := [], laidByText := true, laidKinds := [.data, .data, .data, .data, .sentinel, .sentinel, .pinned], laidTests := true, laidLooks := .later }
def FnExactSimplifyModalCardSaid : Prop := Claim7.holds Tryz.pinned (.plain (OpenSpec.ofChange fnExactSimplifyModalSpec)) fnExactSimplifyModalCard

/-- THE TIED CARD OF 'laws.FnExactFormulaText'. -/
def fnExactFormulaTextCard : Claim7 := { stood := { row := fnExactFormulaTextRow, standIns := [], harness := (true, "909caaa3d9c1103c35b2d0fb6c251540863ad280a4e24698a6daf684869a6d03"), looks := true }, kinds := [], alts := [], laidByText := true, laidKinds := [.data, .data, .data, .data, .sentinel, .sentinel, .pinned], laidTests := true, laidLooks := .later }
def FnExactFormulaTextCardSaid : Prop := Claim7.holds Tryz.pinned (.plain (OpenSpec.ofChange fnExactFormulaTextSpec)) fnExactFormulaTextCard

/-- THE TIED CARD OF 'laws.FnExactSimplifyFormula'. -/
def fnExactSimplifyFormulaCard : Claim7 := { stood := { row := fnExactSimplifyFormulaRow, standIns := [], harness := (true, "909caaa3d9c1103c35b2d0fb6c251540863ad280a4e24698a6daf684869a6d03"), looks := true }, kinds := [], alts := [], laidByText := true, laidKinds := [.data, .data, .data, .data, .sentinel, .sentinel, .pinned], laidTests := true, laidLooks := .later }
def FnExactSimplifyFormulaCardSaid : Prop := Claim7.holds Tryz.pinned (.plain (OpenSpec.ofChange fnExactSimplifyFormulaSpec)) fnExactSimplifyFormulaCard

/-- THE SECOND FORM's CARD OF 'laws.FnExactRegularText'. -/
def fnExactRegularTextUptoCard : Claim7 := { stood := { row := fnExactRegularTextUptoRow, standIns := [], harness := (true, "909caaa3d9c1103c35b2d0fb6c251540863ad280a4e24698a6daf684869a6d03"), looks := true }, kinds := [], alts := [], laidByText := true, laidKinds := [.data, .data, .data, .data, .sentinel, .sentinel, .pinned], laidTests := true, laidLooks := .later }
def FnExactRegularTextUptoCardSaid : Prop := Claim7.holds Tryz.pinned (.plain (OpenSpec.upto fnExactRegularTextSpec)) fnExactRegularTextUptoCard

/-- THE SECOND FORM's CARD OF 'laws.FnExactSimplifyModal'. -/
def fnExactSimplifyModalUptoCard : Claim7 := { stood := { row := fnExactSimplifyModalUptoRow, standIns := [], harness := (true, "909caaa3d9c1103c35b2d0fb6c251540863ad280a4e24698a6daf684869a6d03"), looks := true }, kinds := [], alts := [], laidByText := true, laidKinds := [.data, .data, .data, .data, .sentinel, .sentinel, .pinned], laidTests := true, laidLooks := .later }
def FnExactSimplifyModalUptoCardSaid : Prop := Claim7.holds Tryz.pinned (.plain (OpenSpec.upto fnExactSimplifyModalSpec)) fnExactSimplifyModalUptoCard

/-- THE SECOND FORM's CARD OF 'laws.FnExactFormulaText'. -/
def fnExactFormulaTextUptoCard : Claim7 := { stood := { row := fnExactFormulaTextUptoRow, standIns := [], harness := (true, "909caaa3d9c1103c35b2d0fb6c251540863ad280a4e24698a6daf684869a6d03"), looks := true }, kinds := [], alts := [], laidByText := true, laidKinds := [.data, .data, .data, .data, .sentinel, .sentinel, .pinned], laidTests := true, laidLooks := .later }
def FnExactFormulaTextUptoCardSaid : Prop := Claim7.holds Tryz.pinned (.plain (OpenSpec.upto fnExactFormulaTextSpec)) fnExactFormulaTextUptoCard

/-- THE SECOND FORM's CARD OF 'laws.FnExactSimplifyFormula'. -/
def fnExactSimplifyFormulaUptoCard : Claim7 := { stood := { row := fnExactSimplifyFormulaUptoRow, standIns := [], harness := (true, "909caaa3d9c1103c35b2d0fb6c251540863ad280a4e24698a6daf684869a6d03"), looks := true }, kinds := [], alts := [], laidByText := true, laidKinds := [.data, .data, .data, .data, .sentinel, .sentinel, .pinned], laidTests := true, laidLooks := .later }
def FnExactSimplifyFormulaUptoCardSaid : Prop := Claim7.holds Tryz.pinned (.plain (OpenSpec.upto fnExactSimplifyFormulaSpec)) fnExactSimplifyFormulaUptoCard
end Rows
end Go.Proofs.YtddciieaolaleaaGreatDoor
