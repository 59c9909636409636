/-
  Comparing terms, small calls of Go's library, and canonical forms, the program's side.
-/
import Derived.Test.YtkhifpgpkklokaaDoorCanon
import Derived.Test.YtkhifpgpkklokaaDoorFoldW
import Derived.Deep.RegionHeld3
import Derived.Deep.RegionLaw
namespace Go.Proofs.YtkhifpgpkklokaaDoor
open Go.RowKit

def orV (x y : Int) : Int := if x ≠ 0 then x else y

def IdxP (xs : List Int) (n : Int) (w : World) (e : Ending) (w' : World) : Prop := (∃ q : Int, e = .returned (.int .i64 q) ∧ -1 ≤ q ∧ q ≤ 9223372036854775807 ∧ (decide (0 ≤ q)) = xs.contains n) ∧ w = w'

end Go.Proofs.YtkhifpgpkklokaaDoor
