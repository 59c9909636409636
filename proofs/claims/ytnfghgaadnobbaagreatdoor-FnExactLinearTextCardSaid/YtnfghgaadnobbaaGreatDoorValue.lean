/-
  Values of operations and of trees: what the calls return.
-/
import Derived.Test.YtnfghgaadnobbaaGreatDoorFold
import Derived.Test.YtnfghgaadnobbaaGreatDoorTreeW
namespace Go.Proofs.YtnfghgaadnobbaaGreatDoor
open Go.RowKit

end Go.Proofs.YtnfghgaadnobbaaGreatDoor
