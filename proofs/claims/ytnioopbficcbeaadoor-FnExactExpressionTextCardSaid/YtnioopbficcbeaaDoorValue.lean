/-
  Values of operations and of trees: what the calls return.
-/
import Derived.Test.YtnioopbficcbeaaDoorFold
import Derived.Test.YtnioopbficcbeaaDoorTreeW
namespace Go.Proofs.YtnioopbficcbeaaDoor
open Go.RowKit

end Go.Proofs.YtnioopbficcbeaaDoor
