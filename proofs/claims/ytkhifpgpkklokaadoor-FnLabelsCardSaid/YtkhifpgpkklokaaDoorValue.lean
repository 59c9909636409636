/-
  Values of operations and of trees: what the calls return.
-/
import Derived.Test.YtkhifpgpkklokaaDoorFold
import Derived.Test.YtkhifpgpkklokaaDoorTreeW
namespace Go.Proofs.YtkhifpgpkklokaaDoor
open Go.RowKit

end Go.Proofs.YtkhifpgpkklokaaDoor
