/-
  Contracts of the library's shelf, laid over this program (by the kit's own tools).
-/
import Derived.Shelf.Lay
import Derived.Shelf.LaySoft

import Derived.Test.YtnfghgaadnobbaaProg
namespace Go.Proofs
open Go.Shelf
shelf_tried
end Go.Proofs
