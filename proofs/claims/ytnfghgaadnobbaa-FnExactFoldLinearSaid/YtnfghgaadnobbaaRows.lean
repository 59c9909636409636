/-
  No cell of these rows narrows 'for every input' (looked for: loops, veiled, ifaces, maps, wideKeys, modest, calm, conditions, laid).
  DERIVED. THE GIVEN ROWS OF THIS SEAT. 6 by the template 'for every input the law returns true; each argument reads behind the call as it read before'; 0 by the template 'total and deterministic' (their statements: YtnfghgaadnobbaaTotals.lean).
  GIVEN WITH THE SEED: the statements are not yours to turn. If you find one false, say at which input.
  Laid BY PROGRAM, IN A SANDBOX (cutbox-rows.mjs): the forced cells as the released guide's own fill.sh prints them over the translation 7ebed88bf86a656a… (all of the seat's roots in one cut). By AI agents, Wed Nov 11 2026. No macro, syntax, notation, axiom, sorry.
-/
import Derived.Test.YtnfghgaadnobbaaChecked
import GoSem.Claim
import GoSem.ClaimJoined
import GoSem.ClaimMapViews
import Derived.JoinedTies
import Derived.KernelRfl
namespace Go.Proofs.Ytnfghgaadnobbaa
/- THE CELL 'sum', in the pinned program and in every row, IS THE sha256 OF THE DUMP (.gsa) THAT YtnfghgaadnobbaaProg.lean LOADS. Nothing in Lean hashes anything: it is a label: what it is worth is what the hold of that sum in a sandbox is worth. -/
noncomputable def Try.pinned : Pinned := { name := "ytnfghgaadnobbaa", sum := "7ebed88bf86a656a7281da49f03da3eb412dc8a529cd246a0ec5c4a060e2c9f3", checked := Try.checked }
namespace Rows
def none {H : Type} : Left H := { results := [], args := [] }

/-- 'laws.FnExactFoldLinear': WHATEVER THE INPUT: true; the input reads as it did. -/
def fnExactFoldLinearSpec : ChangeSpec := { name := "fnExactFoldLinear", fn := fun _ => fun
  | [d] => { results := [.lit (.bool true)], args := [d] }
  | _ => none }
def fnExactFoldLinearRow : OpenClaim := { program := "ytnfghgaadnobbaa", sum := "7ebed88bf86a656a7281da49f03da3eb412dc8a529cd246a0ec5c4a060e2c9f3", func := "loop.example/g01075/laws.FnExactFoldLinear", spec := "fnExactFoldLinear", unfollowed := true, recurses := true, apart := false }
def FnExactFoldLinearSaid : Prop := fnExactFoldLinearRow.holds Try.pinned (OpenSpec.ofChange fnExactFoldLinearSpec)

/-- ITS FALSE NEIGHBOUR: 'it returns false'. Refute it at one input. -/
def fnExactFoldLinearWrong : ChangeSpec := { name := "fnExactFoldLinear", fn := fun _ => fun
  | [d] => { results := [.lit (.bool false)], args := [d] }
  | _ => none }
def FnExactFoldLinearWrongFalsely : Prop := fnExactFoldLinearRow.holds Try.pinned (OpenSpec.ofChange fnExactFoldLinearWrong)

/-- 'laws.FnExactStartLinear': WHATEVER THE INPUT: true; the input reads as it did. -/
def fnExactStartLinearSpec : ChangeSpec := { name := "fnExactStartLinear", fn := fun _ => fun
  | [d1, d2] => { results := [.lit (.bool true)], args := [d1, d2] }
  | _ => none }
def fnExactStartLinearRow : OpenClaim := { program := "ytnfghgaadnobbaa", sum := "7ebed88bf86a656a7281da49f03da3eb412dc8a529cd246a0ec5c4a060e2c9f3", func := "loop.example/g01075/laws.FnExactStartLinear", spec := "fnExactStartLinear", unfollowed := true, recurses := true, apart := false }
def FnExactStartLinearSaid : Prop := fnExactStartLinearRow.holds Try.pinned (OpenSpec.ofChange fnExactStartLinearSpec)

/-- ITS FALSE NEIGHBOUR: 'it returns false'. Refute it at one input. -/
def fnExactStartLinearWrong : ChangeSpec := { name := "fnExactStartLinear", fn := fun _ => fun
  | [d1, d2] => { results := [.lit (.bool false)], args := [d1, d2] }
  | _ => none }
def FnExactStartLinearWrongFalsely : Prop := fnExactStartLinearRow.holds Try.pinned (OpenSpec.ofChange fnExactStartLinearWrong)

/-- 'laws.FnExactRenameLinear': WHATEVER THE INPUT: true; the input reads as it did. -/
def fnExactRenameLinearSpec : ChangeSpec := { name := "fnExactRenameLinear", fn := fun _ => fun
  | [d1, d2, d3] => { results := [.lit (.bool true)], args := [d1, d2, d3] }
  | _ => none }
def fnExactRenameLinearRow : OpenClaim := { program := "ytnfghgaadnobbaa", sum := "7ebed88bf86a656a7281da49f03da3eb412dc8a529cd246a0ec5c4a060e2c9f3", func := "loop.example/g01075/laws.FnExactRenameLinear", spec := "fnExactRenameLinear", unfollowed := true, recurses := true, apart := false }
def FnExactRenameLinearSaid : Prop := fnExactRenameLinearRow.holds Try.pinned (OpenSpec.ofChange fnExactRenameLinearSpec)

/-- ITS FALSE NEIGHBOUR: 'it returns false'. Refute it at one input. -/
def fnExactRenameLinearWrong : ChangeSpec := { name := "fnExactRenameLinear", fn := fun _ => fun
  | [d1, d2, d3] => { results := [.lit (.bool false)], args := [d1, d2, d3] }
  | _ => none }
def FnExactRenameLinearWrongFalsely : Prop := fnExactRenameLinearRow.holds Try.pinned (OpenSpec.ofChange fnExactRenameLinearWrong)

/-- 'laws.FnExactRestrictLinear': WHATEVER THE INPUT: true; the input reads as it did. -/
def fnExactRestrictLinearSpec : ChangeSpec := { name := "fnExactRestrictLinear", fn := fun _ => fun
  | [d1, d2] => { results := [.lit (.bool true)], args := [d1, d2] }
  | _ => none }
def fnExactRestrictLinearRow : OpenClaim := { program := "ytnfghgaadnobbaa", sum := "7ebed88bf86a656a7281da49f03da3eb412dc8a529cd246a0ec5c4a060e2c9f3", func := "loop.example/g01075/laws.FnExactRestrictLinear", spec := "fnExactRestrictLinear", unfollowed := true, recurses := true, apart := false }
def FnExactRestrictLinearSaid : Prop := fnExactRestrictLinearRow.holds Try.pinned (OpenSpec.ofChange fnExactRestrictLinearSpec)

/-- ITS FALSE NEIGHBOUR: 'it returns false'. Refute it at one input. -/
def fnExactRestrictLinearWrong : ChangeSpec := { name := "fnExactRestrictLinear", fn := fun _ => fun
  | [d1, d2] => { results := [.lit (.bool false)], args := [d1, d2] }
  | _ => none }
def FnExactRestrictLinearWrongFalsely : Prop := fnExactRestrictLinearRow.holds Try.pinned (OpenSpec.ofChange fnExactRestrictLinearWrong)

/-- 'laws.FnExactHideLinear': WHATEVER THE INPUT: true; the input reads as it did. -/
def fnExactHideLinearSpec : ChangeSpec := { name := "fnExactHideLinear", fn := fun _ => fun
  | [d1, d2] => { results := [.lit (.bool true)], args := [d1, d2] }
  | _ => none }
def fnExactHideLinearRow : OpenClaim := { program := "ytnfghgaadnobbaa", sum := "7ebed88bf86a656a7281da49f03da3eb412dc8a529cd246a0ec5c4a060e2c9f3", func := "loop.example/g01075/laws.FnExactHideLinear", spec := "fnExactHideLinear", unfollowed := true, recurses := true, apart := false }
def FnExactHideLinearSaid : Prop := fnExactHideLinearRow.holds Try.pinned (OpenSpec.ofChange fnExactHideLinearSpec)

/-- ITS FALSE NEIGHBOUR: 'it returns false'. Refute it at one input. -/
def fnExactHideLinearWrong : ChangeSpec := { name := "fnExactHideLinear", fn := fun _ => fun
  | [d1, d2] => { results := [.lit (.bool false)], args := [d1, d2] }
  | _ => none }
def FnExactHideLinearWrongFalsely : Prop := fnExactHideLinearRow.holds Try.pinned (OpenSpec.ofChange fnExactHideLinearWrong)

/-- 'laws.FnExactDistinctSummands': WHATEVER THE INPUT: true; the input reads as it did. -/
def fnExactDistinctSummandsSpec : ChangeSpec := { name := "fnExactDistinctSummands", fn := fun _ => fun
  | [d] => { results := [.lit (.bool true)], args := [d] }
  | _ => none }
def fnExactDistinctSummandsRow : OpenClaim := { program := "ytnfghgaadnobbaa", sum := "7ebed88bf86a656a7281da49f03da3eb412dc8a529cd246a0ec5c4a060e2c9f3", func := "loop.example/g01075/laws.FnExactDistinctSummands", spec := "fnExactDistinctSummands", unfollowed := true, recurses := true, apart := false }
def FnExactDistinctSummandsSaid : Prop := fnExactDistinctSummandsRow.holds Try.pinned (OpenSpec.ofChange fnExactDistinctSummandsSpec)

/-- ITS FALSE NEIGHBOUR: 'it returns false'. Refute it at one input. -/
def fnExactDistinctSummandsWrong : ChangeSpec := { name := "fnExactDistinctSummands", fn := fun _ => fun
  | [d] => { results := [.lit (.bool false)], args := [d] }
  | _ => none }
def FnExactDistinctSummandsWrongFalsely : Prop := fnExactDistinctSummandsRow.holds Try.pinned (OpenSpec.ofChange fnExactDistinctSummandsWrong)

/- THE SECOND FORM. 'bulk': how many values and letters a reading holds, each counted each time it is reached (what is shared counts as often as it is met; a slice's spare places count too). A statement '..UptoSaid' is the law's where the arguments, and the package variables that the reading takes, are together of bulk at most 1048576: NARROWER than '..Said'. Prove '..Said' where nothing that the law and all that it calls make is longer than what came in: it says more and counts as full. Else prove '..UptoSaid'. A law counts once. -/
mutual
def uptoBulk {H : Type} : DataW H → Nat
  | .lit (.string bytes) => bytes.length + 1
  | .lit _ => 1
  | .nil => 1
  | .ptr d => uptoBulk d + 1
  | .slice elems spare => uptoBulkAll elems + uptoBulkAll spare + 1
  | .agg parts => uptoBulkAll parts + 1
  | .iface _ d => uptoBulk d + 1
  | .map entries => uptoBulkEntries entries + 1
  | .held _ => 1
def uptoBulkAll {H : Type} : List (DataW H) → Nat
  | [] => 0
  | d :: r => uptoBulk d + uptoBulkAll r
def uptoBulkEntries {H : Type} : List (Lit × DataW H) → Nat
  | [] => 0
  | x :: r => uptoBulkEntry x + uptoBulkEntries r
def uptoBulkEntry {H : Type} : Lit × DataW H → Nat
  | (.string bytes, d) => bytes.length + uptoBulk d + 1
  | (_, d) => uptoBulk d + 1
 end
def uptoSmall : (H : Type) → List (DataW H) → Bool := fun _ ds => decide (uptoBulkAll ds ≤ 1048576)
def OpenSpec.upto (s : _root_.Go.ChangeSpec) : _root_.Go.OpenSpec := { _root_.Go.OpenSpec.ofChange s with cond := some uptoSmall }

/-- 'laws.FnExactFoldLinear', WHERE WHAT IT READS IS OF BULK AT MOST 1048576: true; the input reads as it did. -/
def fnExactFoldLinearUptoRow : OpenClaim := { program := "ytnfghgaadnobbaa", sum := "7ebed88bf86a656a7281da49f03da3eb412dc8a529cd246a0ec5c4a060e2c9f3", func := "loop.example/g01075/laws.FnExactFoldLinear", spec := "fnExactFoldLinear", unfollowed := true, recurses := true, apart := false, narrowed := true }
def FnExactFoldLinearUptoSaid : Prop := fnExactFoldLinearUptoRow.holds Try.pinned (OpenSpec.upto fnExactFoldLinearSpec)

/-- 'laws.FnExactStartLinear', WHERE WHAT IT READS IS OF BULK AT MOST 1048576: true; the input reads as it did. -/
def fnExactStartLinearUptoRow : OpenClaim := { program := "ytnfghgaadnobbaa", sum := "7ebed88bf86a656a7281da49f03da3eb412dc8a529cd246a0ec5c4a060e2c9f3", func := "loop.example/g01075/laws.FnExactStartLinear", spec := "fnExactStartLinear", unfollowed := true, recurses := true, apart := false, narrowed := true }
def FnExactStartLinearUptoSaid : Prop := fnExactStartLinearUptoRow.holds Try.pinned (OpenSpec.upto fnExactStartLinearSpec)

/-- 'laws.FnExactRenameLinear', WHERE WHAT IT READS IS OF BULK AT MOST 1048576: true; the input reads as it did. -/
def fnExactRenameLinearUptoRow : OpenClaim := { program := "ytnfghgaadnobbaa", sum := "7ebed88bf86a656a7281da49f03da3eb412dc8a529cd246a0ec5c4a060e2c9f3", func := "loop.example/g01075/laws.FnExactRenameLinear", spec := "fnExactRenameLinear", unfollowed := true, recurses := true, apart := false, narrowed := true }
def FnExactRenameLinearUptoSaid : Prop := fnExactRenameLinearUptoRow.holds Try.pinned (OpenSpec.upto fnExactRenameLinearSpec)

/-- 'laws.FnExactRestrictLinear', WHERE WHAT IT READS IS OF BULK AT MOST 1048576: true; the input reads as it did. -/
def fnExactRestrictLinearUptoRow : OpenClaim := { program := "ytnfghgaadnobbaa", sum := "7ebed88bf86a656a7281da49f03da3eb412dc8a529cd246a0ec5c4a060e2c9f3", func := "loop.example/g01075/laws.FnExactRestrictLinear", spec := "fnExactRestrictLinear", unfollowed := true, recurses := true, apart := false, narrowed := true }
def FnExactRestrictLinearUptoSaid : Prop := fnExactRestrictLinearUptoRow.holds Try.pinned (OpenSpec.upto fnExactRestrictLinearSpec)

/-- 'laws.FnExactHideLinear', WHERE WHAT IT READS IS OF BULK AT MOST 1048576: true; the input reads as it did. -/
def fnExactHideLinearUptoRow : OpenClaim := { program := "ytnfghgaadnobbaa", sum := "7ebed88bf86a656a7281da49f03da3eb412dc8a529cd246a0ec5c4a060e2c9f3", func := "loop.example/g01075/laws.FnExactHideLinear", spec := "fnExactHideLinear", unfollowed := true, recurses := true, apart := false, narrowed := true }
def FnExactHideLinearUptoSaid : Prop := fnExactHideLinearUptoRow.holds Try.pinned (OpenSpec.upto fnExactHideLinearSpec)

/-- 'laws.FnExactDistinctSummands', WHERE WHAT IT READS IS OF BULK AT MOST 1048576: true; the input reads as it did. -/
def fnExactDistinctSummandsUptoRow : OpenClaim := { program := "ytnfghgaadnobbaa", sum := "7ebed88bf86a656a7281da49f03da3eb412dc8a529cd246a0ec5c4a060e2c9f3", func := "loop.example/g01075/laws.FnExactDistinctSummands", spec := "fnExactDistinctSummands", unfollowed := true, recurses := true, apart := false, narrowed := true }
def FnExactDistinctSummandsUptoSaid : Prop := fnExactDistinctSummandsUptoRow.holds Try.pinned (OpenSpec.upto fnExactDistinctSummandsSpec)

end Rows
end Go.Proofs.Ytnfghgaadnobbaa
