/-
  No cell of these rows narrows 'for every input' (looked for: loops, veiled, ifaces, maps, wideKeys, modest, calm, conditions, laid).
  DERIVED. THE GIVEN ROWS OF THIS SEAT. 6 by the template 'for every input the law returns true; each argument reads behind the call as it read before'; 0 by the template 'total and deterministic' (their statements: YtkcafdobiloeiaaTotals.lean).
  GIVEN WITH THE SEED: the statements are not yours to turn. If you find one false, say at which input.
  Laid BY PROGRAM, IN A SANDBOX (cutbox-rows.mjs): the forced cells as the released guide's own fill.sh prints them over the translation 1953be76c39c66ee… (all of the seat's roots in one cut). By AI agents, Wed Nov 11 2026. No macro, syntax, notation, axiom, sorry.
-/
import Derived.Test.YtkcafdobiloeiaaChecked
import GoSem.Claim
import GoSem.ClaimJoined
import GoSem.ClaimMapViews
import Derived.JoinedTies
import Derived.KernelRfl
namespace Go.Proofs.Ytkcafdobiloeiaa
/- THE CELL 'sum', in the pinned program and in every row, IS THE sha256 OF THE DUMP (.gsa) THAT YtkcafdobiloeiaaProg.lean LOADS. Nothing in Lean hashes anything: it is a label: what it is worth is what the hold of that sum in a sandbox is worth. -/
noncomputable def Try.pinned : Pinned := { name := "ytkcafdobiloeiaa", sum := "1953be76c39c66ee039f182eda4dcddec156d73659825a8f06e5b2e432a8db94", checked := Try.checked }
namespace Rows
def none {H : Type} : Left H := { results := [], args := [] }

/-- 'laws.FnExactFromPostfix': WHATEVER THE INPUT: true; the input reads as it did. -/
def fnExactFromPostfixSpec : ChangeSpec := { name := "fnExactFromPostfix", fn := fun _ => fun
  | [d] => { results := [.lit (.bool true)], args := [d] }
  | _ => none }
def fnExactFromPostfixRow : OpenClaim := { program := "ytkcafdobiloeiaa", sum := "1953be76c39c66ee039f182eda4dcddec156d73659825a8f06e5b2e432a8db94", func := "loop.example/g01075/laws.FnExactFromPostfix", spec := "fnExactFromPostfix", recurses := true, apart := false }
def FnExactFromPostfixSaid : Prop := fnExactFromPostfixRow.holds Try.pinned (OpenSpec.ofChange fnExactFromPostfixSpec)

/-- ITS FALSE NEIGHBOUR: 'it returns false'. Refute it at one input. -/
def fnExactFromPostfixWrong : ChangeSpec := { name := "fnExactFromPostfix", fn := fun _ => fun
  | [d] => { results := [.lit (.bool false)], args := [d] }
  | _ => none }
def FnExactFromPostfixWrongFalsely : Prop := fnExactFromPostfixRow.holds Try.pinned (OpenSpec.ofChange fnExactFromPostfixWrong)

/-- 'laws.FnExactInverseRelation': WHATEVER THE INPUT: true; the input reads as it did. -/
def fnExactInverseRelationSpec : ChangeSpec := { name := "fnExactInverseRelation", fn := fun _ => fun
  | [d1, d2] => { results := [.lit (.bool true)], args := [d1, d2] }
  | _ => none }
def fnExactInverseRelationRow : OpenClaim := { program := "ytkcafdobiloeiaa", sum := "1953be76c39c66ee039f182eda4dcddec156d73659825a8f06e5b2e432a8db94", func := "loop.example/g01075/laws.FnExactInverseRelation", spec := "fnExactInverseRelation", apart := false }
def FnExactInverseRelationSaid : Prop := fnExactInverseRelationRow.holds Try.pinned (OpenSpec.ofChange fnExactInverseRelationSpec)

/-- ITS FALSE NEIGHBOUR: 'it returns false'. Refute it at one input. -/
def fnExactInverseRelationWrong : ChangeSpec := { name := "fnExactInverseRelation", fn := fun _ => fun
  | [d1, d2] => { results := [.lit (.bool false)], args := [d1, d2] }
  | _ => none }
def FnExactInverseRelationWrongFalsely : Prop := fnExactInverseRelationRow.holds Try.pinned (OpenSpec.ofChange fnExactInverseRelationWrong)

/-- 'laws.FnExactComposeRelations': WHATEVER THE INPUT: true; the input reads as it did. -/
def fnExactComposeRelationsSpec : ChangeSpec := { name := "fnExactComposeRelations", fn := fun _ => fun
  | [d1, d2, d3] => { results := [.lit (.bool true)], args := [d1, d2, d3] }
  | _ => none }
def fnExactComposeRelationsRow : OpenClaim := { program := "ytkcafdobiloeiaa", sum := "1953be76c39c66ee039f182eda4dcddec156d73659825a8f06e5b2e432a8db94", func := "loop.example/g01075/laws.FnExactComposeRelations", spec := "fnExactComposeRelations", apart := false }
def FnExactComposeRelationsSaid : Prop := fnExactComposeRelationsRow.holds Try.pinned (OpenSpec.ofChange fnExactComposeRelationsSpec)

/-- ITS FALSE NEIGHBOUR: 'it returns false'. Refute it at one input. -/
def fnExactComposeRelationsWrong : ChangeSpec := { name := "fnExactComposeRelations", fn := fun _ => fun
  | [d1, d2, d3] => { results := [.lit (.bool false)], args := [d1, d2, d3] }
  | _ => none }
def FnExactComposeRelationsWrongFalsely : Prop := fnExactComposeRelationsRow.holds Try.pinned (OpenSpec.ofChange fnExactComposeRelationsWrong)

/-- 'laws.FnClosures': WHATEVER THE INPUT: true; the input reads as it did. -/
def fnClosuresSpec : ChangeSpec := { name := "fnClosures", fn := fun _ => fun
  | [d] => { results := [.lit (.bool true)], args := [d] }
  | _ => none }
def fnClosuresRow : OpenClaim := { program := "ytkcafdobiloeiaa", sum := "1953be76c39c66ee039f182eda4dcddec156d73659825a8f06e5b2e432a8db94", func := "loop.example/g01075/laws.FnClosures", spec := "fnClosures", apart := false }
def FnClosuresSaid : Prop := fnClosuresRow.holds Try.pinned (OpenSpec.ofChange fnClosuresSpec)

/-- ITS FALSE NEIGHBOUR: 'it returns false'. Refute it at one input. -/
def fnClosuresWrong : ChangeSpec := { name := "fnClosures", fn := fun _ => fun
  | [d] => { results := [.lit (.bool false)], args := [d] }
  | _ => none }
def FnClosuresWrongFalsely : Prop := fnClosuresRow.holds Try.pinned (OpenSpec.ofChange fnClosuresWrong)

/-- 'laws.FnExactOperandsOf': WHATEVER THE INPUT: true; the input reads as it did. -/
def fnExactOperandsOfSpec : ChangeSpec := { name := "fnExactOperandsOf", fn := fun _ => fun
  | [d] => { results := [.lit (.bool true)], args := [d] }
  | _ => none }
def fnExactOperandsOfRow : OpenClaim := { program := "ytkcafdobiloeiaa", sum := "1953be76c39c66ee039f182eda4dcddec156d73659825a8f06e5b2e432a8db94", func := "loop.example/g01075/laws.FnExactOperandsOf", spec := "fnExactOperandsOf", recurses := true, apart := false }
def FnExactOperandsOfSaid : Prop := fnExactOperandsOfRow.holds Try.pinned (OpenSpec.ofChange fnExactOperandsOfSpec)

/-- ITS FALSE NEIGHBOUR: 'it returns false'. Refute it at one input. -/
def fnExactOperandsOfWrong : ChangeSpec := { name := "fnExactOperandsOf", fn := fun _ => fun
  | [d] => { results := [.lit (.bool false)], args := [d] }
  | _ => none }
def FnExactOperandsOfWrongFalsely : Prop := fnExactOperandsOfRow.holds Try.pinned (OpenSpec.ofChange fnExactOperandsOfWrong)

/-- 'laws.FnExactClosureOf': WHATEVER THE INPUT: true; the input reads as it did. -/
def fnExactClosureOfSpec : ChangeSpec := { name := "fnExactClosureOf", fn := fun _ => fun
  | [d1, d2] => { results := [.lit (.bool true)], args := [d1, d2] }
  | _ => none }
def fnExactClosureOfRow : OpenClaim := { program := "ytkcafdobiloeiaa", sum := "1953be76c39c66ee039f182eda4dcddec156d73659825a8f06e5b2e432a8db94", func := "loop.example/g01075/laws.FnExactClosureOf", spec := "fnExactClosureOf", apart := false }
def FnExactClosureOfSaid : Prop := fnExactClosureOfRow.holds Try.pinned (OpenSpec.ofChange fnExactClosureOfSpec)

/-- ITS FALSE NEIGHBOUR: 'it returns false'. Refute it at one input. -/
def fnExactClosureOfWrong : ChangeSpec := { name := "fnExactClosureOf", fn := fun _ => fun
  | [d1, d2] => { results := [.lit (.bool false)], args := [d1, d2] }
  | _ => none }
def FnExactClosureOfWrongFalsely : Prop := fnExactClosureOfRow.holds Try.pinned (OpenSpec.ofChange fnExactClosureOfWrong)

/- THE SECOND FORM. 'bulk': how many values and letters a reading holds, each counted each time it is reached (what is shared counts as often as it is met; a slice's spare places count too). A statement '..UptoSaid' is the law's where the arguments, and the package variables that the reading takes, are together of bulk at most 1048576: NARROWER than '..Said'. Prove '..Said' where nothing that the law and all that it calls make is longer than what came in: it says more and counts as full. Else prove '..UptoSaid'. A law counts once. -/
mutual
def uptoBulk {H : Type} : DataW H → Nat
  | .lit (.string bytes) => bytes.length + 1
  | .lit _ => 1
  | .nil => 1
  | .ptr d => uptoBulk d + 1
  | .slice elems spare => uptoBulkAll elems + uptoBulkAll spare + 1
  | .agg parts => uptoBulkAll parts + 1
  | .iface _ d => uptoBulk d + 1
  | .map entries => uptoBulkEntries entries + 1
  | .held _ => 1
def uptoBulkAll {H : Type} : List (DataW H) → Nat
  | [] => 0
  | d :: r => uptoBulk d + uptoBulkAll r
def uptoBulkEntries {H : Type} : List (Lit × DataW H) → Nat
  | [] => 0
  | x :: r => uptoBulkEntry x + uptoBulkEntries r
def uptoBulkEntry {H : Type} : Lit × DataW H → Nat
  | (.string bytes, d) => bytes.length + uptoBulk d + 1
  | (_, d) => uptoBulk d + 1
 end
def uptoSmall : (H : Type) → List (DataW H) → Bool := fun _ ds => decide (uptoBulkAll ds ≤ 1048576)
def OpenSpec.upto (s : _root_.Go.ChangeSpec) : _root_.Go.OpenSpec := { _root_.Go.OpenSpec.ofChange s with cond := some uptoSmall }

/-- 'laws.FnExactFromPostfix', WHERE WHAT IT READS IS OF BULK AT MOST 1048576: true; the input reads as it did. -/
def fnExactFromPostfixUptoRow : OpenClaim := { program := "ytkcafdobiloeiaa", sum := "1953be76c39c66ee039f182eda4dcddec156d73659825a8f06e5b2e432a8db94", func := "loop.example/g01075/laws.FnExactFromPostfix", spec := "fnExactFromPostfix", recurses := true, apart := false, narrowed := true }
def FnExactFromPostfixUptoSaid : Prop := fnExactFromPostfixUptoRow.holds Try.pinned (OpenSpec.upto fnExactFromPostfixSpec)

/-- 'laws.FnExactInverseRelation', WHERE WHAT IT READS IS OF BULK AT MOST 1048576: true; the input reads as it did. -/
def fnExactInverseRelationUptoRow : OpenClaim := { program := "ytkcafdobiloeiaa", sum := "1953be76c39c66ee039f182eda4dcddec156d73659825a8f06e5b2e432a8db94", func := "loop.example/g01075/laws.FnExactInverseRelation", spec := "fnExactInverseRelation", apart := false, narrowed := true }
def FnExactInverseRelationUptoSaid : Prop := fnExactInverseRelationUptoRow.holds Try.pinned (OpenSpec.upto fnExactInverseRelationSpec)

/-- 'laws.FnExactComposeRelations', WHERE WHAT IT READS IS OF BULK AT MOST 1048576: true; the input reads as it did. -/
def fnExactComposeRelationsUptoRow : OpenClaim := { program := "ytkcafdobiloeiaa", sum := "1953be76c39c66ee039f182eda4dcddec156d73659825a8f06e5b2e432a8db94", func := "loop.example/g01075/laws.FnExactComposeRelations", spec := "fnExactComposeRelations", apart := false, narrowed := true }
def FnExactComposeRelationsUptoSaid : Prop := fnExactComposeRelationsUptoRow.holds Try.pinned (OpenSpec.upto fnExactComposeRelationsSpec)

/-- 'laws.FnClosures', WHERE WHAT IT READS IS OF BULK AT MOST 1048576: true; the input reads as it did. -/
def fnClosuresUptoRow : OpenClaim := { program := "ytkcafdobiloeiaa", sum := "1953be76c39c66ee039f182eda4dcddec156d73659825a8f06e5b2e432a8db94", func := "loop.example/g01075/laws.FnClosures", spec := "fnClosures", apart := false, narrowed := true }
def FnClosuresUptoSaid : Prop := fnClosuresUptoRow.holds Try.pinned (OpenSpec.upto fnClosuresSpec)

/-- 'laws.FnExactOperandsOf', WHERE WHAT IT READS IS OF BULK AT MOST 1048576: true; the input reads as it did. -/
def fnExactOperandsOfUptoRow : OpenClaim := { program := "ytkcafdobiloeiaa", sum := "1953be76c39c66ee039f182eda4dcddec156d73659825a8f06e5b2e432a8db94", func := "loop.example/g01075/laws.FnExactOperandsOf", spec := "fnExactOperandsOf", recurses := true, apart := false, narrowed := true }
def FnExactOperandsOfUptoSaid : Prop := fnExactOperandsOfUptoRow.holds Try.pinned (OpenSpec.upto fnExactOperandsOfSpec)

/-- 'laws.FnExactClosureOf', WHERE WHAT IT READS IS OF BULK AT MOST 1048576: true; the input reads as it did. -/
def fnExactClosureOfUptoRow : OpenClaim := { program := "ytkcafdobiloeiaa", sum := "1953be76c39c66ee039f182eda4dcddec156d73659825a8f06e5b2e432a8db94", func := "loop.example/g01075/laws.FnExactClosureOf", spec := "fnExactClosureOf", apart := false, narrowed := true }
def FnExactClosureOfUptoSaid : Prop := fnExactClosureOfUptoRow.holds Try.pinned (OpenSpec.upto fnExactClosureOfSpec)

end Rows
end Go.Proofs.Ytkcafdobiloeiaa
