/-
  DERIVED. GIVEN WITH THE SEED: THE CARDS: each row of YtdnjjanacbkijaaGreatDoorRows.lean that lists a variable, with what it lists TIED to the program's text (the seventh form; the later family's looks); each row that meets fmt, with fmt's text TOLD by the authors' own Lean function (tested against real Go, not proved from fmt's source: count such statements apart). THE CARD IS WHAT COUNTS. Prove the row's statement (the work); the ties are given (YtdnjjanacbkijaaGreatDoorTie.lean); close each card by the builder's one call (the guide's Derived/Test/ToyasCard.lean, 'card_holds'). Laid BY PROGRAM, IN A SANDBOX (cutbox-door.mjs). By AI agents, Wed Nov 11 2026. No macro, syntax, notation, axiom, sorry.
-/
import Derived.Test.YtdnjjanacbkijaaGreatDoorRows
import GoSem.ClaimSeven
namespace Go.Proofs.YtdnjjanacbkijaaGreatDoor
namespace Rows

/-- THE TIED CARD OF 'laws.FnModal'. -/
def fnModalCard : Claim7 := { stood := { row := fnModalRow, standIns := [], harness := (true, "0acae74363ae51b898e65ba987f7cf8bbc295800e22200ce9c127d8e7858ac90"), looks := true }, kinds := [], alts := [], laidByText := true, laidKinds := [.data, .data, .data, .data, .sentinel, .sentinel, .pinned], laidTests := true, laidLooks := .later }
def FnModalCardSaid : Prop := Claim7.holds Tryz.pinned (.plain (OpenSpec.ofChange fnModalSpec)) fnModalCard

/-- THE SECOND FORM's CARD OF 'laws.FnModal'. -/
def fnModalUptoCard : Claim7 := { stood := { row := fnModalUptoRow, standIns := [], harness := (true, "0acae74363ae51b898e65ba987f7cf8bbc295800e22200ce9c127d8e7858ac90"), looks := true }, kinds := [], alts := [], laidByText := true, laidKinds := [.data, .data, .data, .data, .sentinel, .sentinel, .pinned], laidTests := true, laidLooks := .later }
def FnModalUptoCardSaid : Prop := Claim7.holds Tryz.pinned (.plain (OpenSpec.upto fnModalSpec)) fnModalUptoCard
end Rows
end Go.Proofs.YtdnjjanacbkijaaGreatDoor
