/-
  The shelf of the library: nothing of it is used here.
-/
import Derived.Test.YtnfghgaadnobbaaProg
namespace Go.Proofs
end Go.Proofs
