/-
  Lists of values, and whether all variables of an expression have one.
-/
import Derived.Test.YtkhifpgpkklokaaDoorForms
import Derived.Test.YtkhifpgpkklokaaDoorAreV
namespace Go.Proofs.YtkhifpgpkklokaaDoor
open Go.RowKit

/-- a variable without a value. -/
def lackV (many : Int) (t : Tm) : Bool := t.1 == 1 && decide (many ≤ t.2)

def IdxC (many : Int) (xs : List Tm) (w : World) (e : Ending) (w' : World) : Prop := (∃ q : Int, e = .returned (.int .i64 q) ∧ -1 ≤ q ∧ q ≤ 9223372036854775807 ∧ decide (0 ≤ q) = xs.any (lackV many)) ∧ Upd [] w w'

end Go.Proofs.YtkhifpgpkklokaaDoor
