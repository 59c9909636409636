/-
  Slices of summands, marked and found marked: readings, and what the laws' helper functions return and make.
-/
import Derived.Test.YtnfghgaadnobbaaGreatDoorHarnSm1
import Derived.Deep.DeepCutAuto
namespace Go.Proofs.YtnfghgaadnobbaaGreatDoor
open Go.RowKit


end Go.Proofs.YtnfghgaadnobbaaGreatDoor
