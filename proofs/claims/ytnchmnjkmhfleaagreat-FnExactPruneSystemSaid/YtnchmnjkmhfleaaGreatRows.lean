/-
  No cell of these rows narrows 'for every input' (looked for: loops, veiled, ifaces, maps, wideKeys, modest, calm, conditions, laid).
  DERIVED. THE GIVEN ROWS OF THIS SEAT. 5 by the template 'for every input the law returns true; each argument reads behind the call as it read before'; 0 by the template 'total and deterministic' (their statements: YtnchmnjkmhfleaaGreatTotals.lean).
  GIVEN WITH THE SEED: the statements are not yours to turn. If you find one false, say at which input.
  Laid BY PROGRAM, IN A SANDBOX (cutbox-rows.mjs): the forced cells as the released guide's own fill.sh prints them over the translation b5cd2ec687a7ab33… (all of the seat's roots in one cut). By AI agents, Wed Nov 11 2026. No macro, syntax, notation, axiom, sorry.
-/
import Derived.Test.YtnchmnjkmhfleaaGreatChecked
import GoSem.Claim
import GoSem.ClaimJoined
import GoSem.ClaimMapViews
import Derived.JoinedTies
import Derived.KernelRfl
namespace Go.Proofs.YtnchmnjkmhfleaaGreat
/- THE CELL 'sum', in the pinned program and in every row, IS THE sha256 OF THE DUMP (.gsa) THAT YtnchmnjkmhfleaaGreatProg.lean LOADS. Nothing in Lean hashes anything: it is a label: what it is worth is what the hold of that sum in a sandbox is worth. -/
noncomputable def Tryz.pinned : Pinned := { name := "ytnchmnjkmhfleaagreat", sum := "b5cd2ec687a7ab33a8c7b8fdace8486588cd3315bcaeece50fdd56e6405ac919", checked := Tryz.checked }
namespace Rows
def none {H : Type} : Left H := { results := [], args := [] }

/-- 'laws.FnRenamed': WHATEVER THE INPUT: true; the input reads as it did. -/
def fnRenamedSpec : ChangeSpec := { name := "fnRenamed", fn := fun _ => fun
  | [d1, d2] => { results := [.lit (.bool true)], args := [d1, d2] }
  | _ => none }
def fnRenamedRow : OpenClaim := { program := "ytnchmnjkmhfleaagreat", sum := "b5cd2ec687a7ab33a8c7b8fdace8486588cd3315bcaeece50fdd56e6405ac919", func := "loop.example/g01075/laws.FnRenamed", spec := "fnRenamed", unfollowed := true, recurses := true, apart := false }
def FnRenamedSaid : Prop := fnRenamedRow.holds Tryz.pinned (OpenSpec.ofChange fnRenamedSpec)

/-- ITS FALSE NEIGHBOUR: 'it returns false'. Refute it at one input. -/
def fnRenamedWrong : ChangeSpec := { name := "fnRenamed", fn := fun _ => fun
  | [d1, d2] => { results := [.lit (.bool false)], args := [d1, d2] }
  | _ => none }
def FnRenamedWrongFalsely : Prop := fnRenamedRow.holds Tryz.pinned (OpenSpec.ofChange fnRenamedWrong)

/-- 'laws.FnExactAddComponent': WHATEVER THE INPUT: true; the input reads as it did. -/
def fnExactAddComponentSpec : ChangeSpec := { name := "fnExactAddComponent", fn := fun _ => fun
  | [d1, d2] => { results := [.lit (.bool true)], args := [d1, d2] }
  | _ => none }
def fnExactAddComponentRow : OpenClaim := { program := "ytnchmnjkmhfleaagreat", sum := "b5cd2ec687a7ab33a8c7b8fdace8486588cd3315bcaeece50fdd56e6405ac919", func := "loop.example/g01075/laws.FnExactAddComponent", spec := "fnExactAddComponent", unfollowed := true, recurses := true, apart := false }
def FnExactAddComponentSaid : Prop := fnExactAddComponentRow.holds Tryz.pinned (OpenSpec.ofChange fnExactAddComponentSpec)

/-- ITS FALSE NEIGHBOUR: 'it returns false'. Refute it at one input. -/
def fnExactAddComponentWrong : ChangeSpec := { name := "fnExactAddComponent", fn := fun _ => fun
  | [d1, d2] => { results := [.lit (.bool false)], args := [d1, d2] }
  | _ => none }
def FnExactAddComponentWrongFalsely : Prop := fnExactAddComponentRow.holds Tryz.pinned (OpenSpec.ofChange fnExactAddComponentWrong)

/-- 'laws.FnExactRenameDefinition': WHATEVER THE INPUT: true; the input reads as it did. -/
def fnExactRenameDefinitionSpec : ChangeSpec := { name := "fnExactRenameDefinition", fn := fun _ => fun
  | [d1, d2, d3] => { results := [.lit (.bool true)], args := [d1, d2, d3] }
  | _ => none }
def fnExactRenameDefinitionRow : OpenClaim := { program := "ytnchmnjkmhfleaagreat", sum := "b5cd2ec687a7ab33a8c7b8fdace8486588cd3315bcaeece50fdd56e6405ac919", func := "loop.example/g01075/laws.FnExactRenameDefinition", spec := "fnExactRenameDefinition", unfollowed := true, recurses := true, apart := false }
def FnExactRenameDefinitionSaid : Prop := fnExactRenameDefinitionRow.holds Tryz.pinned (OpenSpec.ofChange fnExactRenameDefinitionSpec)

/-- ITS FALSE NEIGHBOUR: 'it returns false'. Refute it at one input. -/
def fnExactRenameDefinitionWrong : ChangeSpec := { name := "fnExactRenameDefinition", fn := fun _ => fun
  | [d1, d2, d3] => { results := [.lit (.bool false)], args := [d1, d2, d3] }
  | _ => none }
def FnExactRenameDefinitionWrongFalsely : Prop := fnExactRenameDefinitionRow.holds Tryz.pinned (OpenSpec.ofChange fnExactRenameDefinitionWrong)

/-- 'laws.FnExactRemoveComponent': WHATEVER THE INPUT: true; the input reads as it did. -/
def fnExactRemoveComponentSpec : ChangeSpec := { name := "fnExactRemoveComponent", fn := fun _ => fun
  | [d1, d2] => { results := [.lit (.bool true)], args := [d1, d2] }
  | _ => none }
def fnExactRemoveComponentRow : OpenClaim := { program := "ytnchmnjkmhfleaagreat", sum := "b5cd2ec687a7ab33a8c7b8fdace8486588cd3315bcaeece50fdd56e6405ac919", func := "loop.example/g01075/laws.FnExactRemoveComponent", spec := "fnExactRemoveComponent", unfollowed := true, recurses := true, apart := false }
def FnExactRemoveComponentSaid : Prop := fnExactRemoveComponentRow.holds Tryz.pinned (OpenSpec.ofChange fnExactRemoveComponentSpec)

/-- ITS FALSE NEIGHBOUR: 'it returns false'. Refute it at one input. -/
def fnExactRemoveComponentWrong : ChangeSpec := { name := "fnExactRemoveComponent", fn := fun _ => fun
  | [d1, d2] => { results := [.lit (.bool false)], args := [d1, d2] }
  | _ => none }
def FnExactRemoveComponentWrongFalsely : Prop := fnExactRemoveComponentRow.holds Tryz.pinned (OpenSpec.ofChange fnExactRemoveComponentWrong)

/-- 'laws.FnExactPruneSystem': WHATEVER THE INPUT: true; the input reads as it did. -/
def fnExactPruneSystemSpec : ChangeSpec := { name := "fnExactPruneSystem", fn := fun _ => fun
  | [d] => { results := [.lit (.bool true)], args := [d] }
  | _ => none }
def fnExactPruneSystemRow : OpenClaim := { program := "ytnchmnjkmhfleaagreat", sum := "b5cd2ec687a7ab33a8c7b8fdace8486588cd3315bcaeece50fdd56e6405ac919", func := "loop.example/g01075/laws.FnExactPruneSystem", spec := "fnExactPruneSystem", unfollowed := true, recurses := true, apart := false }
def FnExactPruneSystemSaid : Prop := fnExactPruneSystemRow.holds Tryz.pinned (OpenSpec.ofChange fnExactPruneSystemSpec)

/-- ITS FALSE NEIGHBOUR: 'it returns false'. Refute it at one input. -/
def fnExactPruneSystemWrong : ChangeSpec := { name := "fnExactPruneSystem", fn := fun _ => fun
  | [d] => { results := [.lit (.bool false)], args := [d] }
  | _ => none }
def FnExactPruneSystemWrongFalsely : Prop := fnExactPruneSystemRow.holds Tryz.pinned (OpenSpec.ofChange fnExactPruneSystemWrong)

/- THE SECOND FORM. 'bulk': how many values and letters a reading holds, each counted each time it is reached (what is shared counts as often as it is met; a slice's spare places count too). A statement '..UptoSaid' is the law's where the arguments, and the package variables that the reading takes, are together of bulk at most 1048576: NARROWER than '..Said'. Prove '..Said' where nothing that the law and all that it calls make is longer than what came in: it says more and counts as full. Else prove '..UptoSaid'. A law counts once. -/
mutual
def uptoBulk {H : Type} : DataW H → Nat
  | .lit (.string bytes) => bytes.length + 1
  | .lit _ => 1
  | .nil => 1
  | .ptr d => uptoBulk d + 1
  | .slice elems spare => uptoBulkAll elems + uptoBulkAll spare + 1
  | .agg parts => uptoBulkAll parts + 1
  | .iface _ d => uptoBulk d + 1
  | .map entries => uptoBulkEntries entries + 1
  | .held _ => 1
def uptoBulkAll {H : Type} : List (DataW H) → Nat
  | [] => 0
  | d :: r => uptoBulk d + uptoBulkAll r
def uptoBulkEntries {H : Type} : List (Lit × DataW H) → Nat
  | [] => 0
  | x :: r => uptoBulkEntry x + uptoBulkEntries r
def uptoBulkEntry {H : Type} : Lit × DataW H → Nat
  | (.string bytes, d) => bytes.length + uptoBulk d + 1
  | (_, d) => uptoBulk d + 1
 end
def uptoSmall : (H : Type) → List (DataW H) → Bool := fun _ ds => decide (uptoBulkAll ds ≤ 1048576)
def OpenSpec.upto (s : _root_.Go.ChangeSpec) : _root_.Go.OpenSpec := { _root_.Go.OpenSpec.ofChange s with cond := some uptoSmall }

/-- 'laws.FnRenamed', WHERE WHAT IT READS IS OF BULK AT MOST 1048576: true; the input reads as it did. -/
def fnRenamedUptoRow : OpenClaim := { program := "ytnchmnjkmhfleaagreat", sum := "b5cd2ec687a7ab33a8c7b8fdace8486588cd3315bcaeece50fdd56e6405ac919", func := "loop.example/g01075/laws.FnRenamed", spec := "fnRenamed", unfollowed := true, recurses := true, apart := false, narrowed := true }
def FnRenamedUptoSaid : Prop := fnRenamedUptoRow.holds Tryz.pinned (OpenSpec.upto fnRenamedSpec)

/-- 'laws.FnExactAddComponent', WHERE WHAT IT READS IS OF BULK AT MOST 1048576: true; the input reads as it did. -/
def fnExactAddComponentUptoRow : OpenClaim := { program := "ytnchmnjkmhfleaagreat", sum := "b5cd2ec687a7ab33a8c7b8fdace8486588cd3315bcaeece50fdd56e6405ac919", func := "loop.example/g01075/laws.FnExactAddComponent", spec := "fnExactAddComponent", unfollowed := true, recurses := true, apart := false, narrowed := true }
def FnExactAddComponentUptoSaid : Prop := fnExactAddComponentUptoRow.holds Tryz.pinned (OpenSpec.upto fnExactAddComponentSpec)

/-- 'laws.FnExactRenameDefinition', WHERE WHAT IT READS IS OF BULK AT MOST 1048576: true; the input reads as it did. -/
def fnExactRenameDefinitionUptoRow : OpenClaim := { program := "ytnchmnjkmhfleaagreat", sum := "b5cd2ec687a7ab33a8c7b8fdace8486588cd3315bcaeece50fdd56e6405ac919", func := "loop.example/g01075/laws.FnExactRenameDefinition", spec := "fnExactRenameDefinition", unfollowed := true, recurses := true, apart := false, narrowed := true }
def FnExactRenameDefinitionUptoSaid : Prop := fnExactRenameDefinitionUptoRow.holds Tryz.pinned (OpenSpec.upto fnExactRenameDefinitionSpec)

/-- 'laws.FnExactRemoveComponent', WHERE WHAT IT READS IS OF BULK AT MOST 1048576: true; the input reads as it did. -/
def fnExactRemoveComponentUptoRow : OpenClaim := { program := "ytnchmnjkmhfleaagreat", sum := "b5cd2ec687a7ab33a8c7b8fdace8486588cd3315bcaeece50fdd56e6405ac919", func := "loop.example/g01075/laws.FnExactRemoveComponent", spec := "fnExactRemoveComponent", unfollowed := true, recurses := true, apart := false, narrowed := true }
def FnExactRemoveComponentUptoSaid : Prop := fnExactRemoveComponentUptoRow.holds Tryz.pinned (OpenSpec.upto fnExactRemoveComponentSpec)

/-- 'laws.FnExactPruneSystem', WHERE WHAT IT READS IS OF BULK AT MOST 1048576: true; the input reads as it did. -/
def fnExactPruneSystemUptoRow : OpenClaim := { program := "ytnchmnjkmhfleaagreat", sum := "b5cd2ec687a7ab33a8c7b8fdace8486588cd3315bcaeece50fdd56e6405ac919", func := "loop.example/g01075/laws.FnExactPruneSystem", spec := "fnExactPruneSystem", unfollowed := true, recurses := true, apart := false, narrowed := true }
def FnExactPruneSystemUptoSaid : Prop := fnExactPruneSystemUptoRow.holds Tryz.pinned (OpenSpec.upto fnExactPruneSystemSpec)

end Rows
end Go.Proofs.YtnchmnjkmhfleaaGreat
