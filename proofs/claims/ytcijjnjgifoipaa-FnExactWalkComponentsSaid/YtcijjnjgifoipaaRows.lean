/-
  No cell of these rows narrows 'for every input' (looked for: loops, veiled, ifaces, maps, wideKeys, modest, calm, conditions, laid).
  DERIVED. THE GIVEN ROWS OF THIS SEAT. 6 by the template 'for every input the law returns true; each argument reads behind the call as it read before'; 0 by the template 'total and deterministic' (their statements: YtcijjnjgifoipaaTotals.lean).
  GIVEN WITH THE SEED: the statements are not yours to turn. If you find one false, say at which input.
  Laid BY PROGRAM, IN A SANDBOX (cutbox-rows.mjs): the forced cells as the released guide's own fill.sh prints them over the translation 2c7ca25036cbf918… (all of the seat's roots in one cut). By AI agents, Wed Nov 11 2026. No macro, syntax, notation, axiom, sorry.
-/
import Derived.Test.YtcijjnjgifoipaaChecked
import GoSem.Claim
import GoSem.ClaimJoined
import GoSem.ClaimMapViews
import Derived.JoinedTies
import Derived.KernelRfl
namespace Go.Proofs.Ytcijjnjgifoipaa
/- THE CELL 'sum', in the pinned program and in every row, IS THE sha256 OF THE DUMP (.gsa) THAT YtcijjnjgifoipaaProg.lean LOADS. Nothing in Lean hashes anything: it is a label: what it is worth is what the hold of that sum in a sandbox is worth. -/
noncomputable def Try.pinned : Pinned := { name := "ytcijjnjgifoipaa", sum := "2c7ca25036cbf918b34f1c3d34f378e8807638effdfb70a81fdbb6b60fa19761", checked := Try.checked }
namespace Rows
def none {H : Type} : Left H := { results := [], args := [] }

/-- 'laws.FnExactIsCyclic': WHATEVER THE INPUT: true; the input reads as it did. -/
def fnExactIsCyclicSpec : ChangeSpec := { name := "fnExactIsCyclic", fn := fun _ => fun
  | [d] => { results := [.lit (.bool true)], args := [d] }
  | _ => none }
def fnExactIsCyclicRow : OpenClaim := { program := "ytcijjnjgifoipaa", sum := "2c7ca25036cbf918b34f1c3d34f378e8807638effdfb70a81fdbb6b60fa19761", func := "loop.example/g01066/laws.FnExactIsCyclic", spec := "fnExactIsCyclic", plainKeys := false, apart := false }
def FnExactIsCyclicSaid : Prop := fnExactIsCyclicRow.holds Try.pinned (OpenSpec.ofChange fnExactIsCyclicSpec)

/-- ITS FALSE NEIGHBOUR: 'it returns false'. Refute it at one input. -/
def fnExactIsCyclicWrong : ChangeSpec := { name := "fnExactIsCyclic", fn := fun _ => fun
  | [d] => { results := [.lit (.bool false)], args := [d] }
  | _ => none }
def FnExactIsCyclicWrongFalsely : Prop := fnExactIsCyclicRow.holds Try.pinned (OpenSpec.ofChange fnExactIsCyclicWrong)

/-- 'laws.FnExactRelationSize': WHATEVER THE INPUT: true; the input reads as it did. -/
def fnExactRelationSizeSpec : ChangeSpec := { name := "fnExactRelationSize", fn := fun _ => fun
  | [d1, d2] => { results := [.lit (.bool true)], args := [d1, d2] }
  | _ => none }
def fnExactRelationSizeRow : OpenClaim := { program := "ytcijjnjgifoipaa", sum := "2c7ca25036cbf918b34f1c3d34f378e8807638effdfb70a81fdbb6b60fa19761", func := "loop.example/g01066/laws.FnExactRelationSize", spec := "fnExactRelationSize", plainKeys := false, apart := false }
def FnExactRelationSizeSaid : Prop := fnExactRelationSizeRow.holds Try.pinned (OpenSpec.ofChange fnExactRelationSizeSpec)

/-- ITS FALSE NEIGHBOUR: 'it returns false'. Refute it at one input. -/
def fnExactRelationSizeWrong : ChangeSpec := { name := "fnExactRelationSize", fn := fun _ => fun
  | [d1, d2] => { results := [.lit (.bool false)], args := [d1, d2] }
  | _ => none }
def FnExactRelationSizeWrongFalsely : Prop := fnExactRelationSizeRow.holds Try.pinned (OpenSpec.ofChange fnExactRelationSizeWrong)

/-- 'laws.FnExactRelationClass': WHATEVER THE INPUT: true; the input reads as it did. -/
def fnExactRelationClassSpec : ChangeSpec := { name := "fnExactRelationClass", fn := fun _ => fun
  | [d1, d2, d3] => { results := [.lit (.bool true)], args := [d1, d2, d3] }
  | _ => none }
def fnExactRelationClassRow : OpenClaim := { program := "ytcijjnjgifoipaa", sum := "2c7ca25036cbf918b34f1c3d34f378e8807638effdfb70a81fdbb6b60fa19761", func := "loop.example/g01066/laws.FnExactRelationClass", spec := "fnExactRelationClass", plainKeys := false, apart := false }
def FnExactRelationClassSaid : Prop := fnExactRelationClassRow.holds Try.pinned (OpenSpec.ofChange fnExactRelationClassSpec)

/-- ITS FALSE NEIGHBOUR: 'it returns false'. Refute it at one input. -/
def fnExactRelationClassWrong : ChangeSpec := { name := "fnExactRelationClass", fn := fun _ => fun
  | [d1, d2, d3] => { results := [.lit (.bool false)], args := [d1, d2, d3] }
  | _ => none }
def FnExactRelationClassWrongFalsely : Prop := fnExactRelationClassRow.holds Try.pinned (OpenSpec.ofChange fnExactRelationClassWrong)

/-- 'laws.FnExactLeastRelation': WHATEVER THE INPUT: true; the input reads as it did. -/
def fnExactLeastRelationSpec : ChangeSpec := { name := "fnExactLeastRelation", fn := fun _ => fun
  | [d1, d2] => { results := [.lit (.bool true)], args := [d1, d2] }
  | _ => none }
def fnExactLeastRelationRow : OpenClaim := { program := "ytcijjnjgifoipaa", sum := "2c7ca25036cbf918b34f1c3d34f378e8807638effdfb70a81fdbb6b60fa19761", func := "loop.example/g01066/laws.FnExactLeastRelation", spec := "fnExactLeastRelation", unfollowed := true, recurses := true, plainKeys := false, apart := false }
def FnExactLeastRelationSaid : Prop := fnExactLeastRelationRow.holds Try.pinned (OpenSpec.ofChange fnExactLeastRelationSpec)

/-- ITS FALSE NEIGHBOUR: 'it returns false'. Refute it at one input. -/
def fnExactLeastRelationWrong : ChangeSpec := { name := "fnExactLeastRelation", fn := fun _ => fun
  | [d1, d2] => { results := [.lit (.bool false)], args := [d1, d2] }
  | _ => none }
def FnExactLeastRelationWrongFalsely : Prop := fnExactLeastRelationRow.holds Try.pinned (OpenSpec.ofChange fnExactLeastRelationWrong)

/-- 'laws.FnExactWalkComponents': WHATEVER THE INPUT: true; the input reads as it did. -/
def fnExactWalkComponentsSpec : ChangeSpec := { name := "fnExactWalkComponents", fn := fun _ => fun
  | [d1, d2] => { results := [.lit (.bool true)], args := [d1, d2] }
  | _ => none }
def fnExactWalkComponentsRow : OpenClaim := { program := "ytcijjnjgifoipaa", sum := "2c7ca25036cbf918b34f1c3d34f378e8807638effdfb70a81fdbb6b60fa19761", func := "loop.example/g01066/laws.FnExactWalkComponents", spec := "fnExactWalkComponents", plainKeys := false, apart := false }
def FnExactWalkComponentsSaid : Prop := fnExactWalkComponentsRow.holds Try.pinned (OpenSpec.ofChange fnExactWalkComponentsSpec)

/-- ITS FALSE NEIGHBOUR: 'it returns false'. Refute it at one input. -/
def fnExactWalkComponentsWrong : ChangeSpec := { name := "fnExactWalkComponents", fn := fun _ => fun
  | [d1, d2] => { results := [.lit (.bool false)], args := [d1, d2] }
  | _ => none }
def FnExactWalkComponentsWrongFalsely : Prop := fnExactWalkComponentsRow.holds Try.pinned (OpenSpec.ofChange fnExactWalkComponentsWrong)

/-- 'laws.FnExactInvariantFactors': WHATEVER THE INPUT: true; the input reads as it did. -/
def fnExactInvariantFactorsSpec : ChangeSpec := { name := "fnExactInvariantFactors", fn := fun _ => fun
  | [d] => { results := [.lit (.bool true)], args := [d] }
  | _ => none }
def fnExactInvariantFactorsRow : OpenClaim := { program := "ytcijjnjgifoipaa", sum := "2c7ca25036cbf918b34f1c3d34f378e8807638effdfb70a81fdbb6b60fa19761", func := "loop.example/g01066/laws.FnExactInvariantFactors", spec := "fnExactInvariantFactors", plainKeys := false, apart := false }
def FnExactInvariantFactorsSaid : Prop := fnExactInvariantFactorsRow.holds Try.pinned (OpenSpec.ofChange fnExactInvariantFactorsSpec)

/-- ITS FALSE NEIGHBOUR: 'it returns false'. Refute it at one input. -/
def fnExactInvariantFactorsWrong : ChangeSpec := { name := "fnExactInvariantFactors", fn := fun _ => fun
  | [d] => { results := [.lit (.bool false)], args := [d] }
  | _ => none }
def FnExactInvariantFactorsWrongFalsely : Prop := fnExactInvariantFactorsRow.holds Try.pinned (OpenSpec.ofChange fnExactInvariantFactorsWrong)

/- THE SECOND FORM. 'bulk': how many values and letters a reading holds, each counted each time it is reached (what is shared counts as often as it is met; a slice's spare places count too). A statement '..UptoSaid' is the law's where the arguments, and the package variables that the reading takes, are together of bulk at most 1048576: NARROWER than '..Said'. Prove '..Said' where nothing that the law and all that it calls make is longer than what came in: it says more and counts as full. Else prove '..UptoSaid'. A law counts once. -/
mutual
def uptoBulk {H : Type} : DataW H → Nat
  | .lit (.string bytes) => bytes.length + 1
  | .lit _ => 1
  | .nil => 1
  | .ptr d => uptoBulk d + 1
  | .slice elems spare => uptoBulkAll elems + uptoBulkAll spare + 1
  | .agg parts => uptoBulkAll parts + 1
  | .iface _ d => uptoBulk d + 1
  | .map entries => uptoBulkEntries entries + 1
  | .held _ => 1
def uptoBulkAll {H : Type} : List (DataW H) → Nat
  | [] => 0
  | d :: r => uptoBulk d + uptoBulkAll r
def uptoBulkEntries {H : Type} : List (Lit × DataW H) → Nat
  | [] => 0
  | x :: r => uptoBulkEntry x + uptoBulkEntries r
def uptoBulkEntry {H : Type} : Lit × DataW H → Nat
  | (.string bytes, d) => bytes.length + uptoBulk d + 1
  | (_, d) => uptoBulk d + 1
 end
def uptoSmall : (H : Type) → List (DataW H) → Bool := fun _ ds => decide (uptoBulkAll ds ≤ 1048576)
def OpenSpec.upto (s : _root_.Go.ChangeSpec) : _root_.Go.OpenSpec := { _root_.Go.OpenSpec.ofChange s with cond := some uptoSmall }

/-- 'laws.FnExactIsCyclic', WHERE WHAT IT READS IS OF BULK AT MOST 1048576: true; the input reads as it did. -/
def fnExactIsCyclicUptoRow : OpenClaim := { program := "ytcijjnjgifoipaa", sum := "2c7ca25036cbf918b34f1c3d34f378e8807638effdfb70a81fdbb6b60fa19761", func := "loop.example/g01066/laws.FnExactIsCyclic", spec := "fnExactIsCyclic", plainKeys := false, apart := false, narrowed := true }
def FnExactIsCyclicUptoSaid : Prop := fnExactIsCyclicUptoRow.holds Try.pinned (OpenSpec.upto fnExactIsCyclicSpec)

/-- 'laws.FnExactRelationSize', WHERE WHAT IT READS IS OF BULK AT MOST 1048576: true; the input reads as it did. -/
def fnExactRelationSizeUptoRow : OpenClaim := { program := "ytcijjnjgifoipaa", sum := "2c7ca25036cbf918b34f1c3d34f378e8807638effdfb70a81fdbb6b60fa19761", func := "loop.example/g01066/laws.FnExactRelationSize", spec := "fnExactRelationSize", plainKeys := false, apart := false, narrowed := true }
def FnExactRelationSizeUptoSaid : Prop := fnExactRelationSizeUptoRow.holds Try.pinned (OpenSpec.upto fnExactRelationSizeSpec)

/-- 'laws.FnExactRelationClass', WHERE WHAT IT READS IS OF BULK AT MOST 1048576: true; the input reads as it did. -/
def fnExactRelationClassUptoRow : OpenClaim := { program := "ytcijjnjgifoipaa", sum := "2c7ca25036cbf918b34f1c3d34f378e8807638effdfb70a81fdbb6b60fa19761", func := "loop.example/g01066/laws.FnExactRelationClass", spec := "fnExactRelationClass", plainKeys := false, apart := false, narrowed := true }
def FnExactRelationClassUptoSaid : Prop := fnExactRelationClassUptoRow.holds Try.pinned (OpenSpec.upto fnExactRelationClassSpec)

/-- 'laws.FnExactLeastRelation', WHERE WHAT IT READS IS OF BULK AT MOST 1048576: true; the input reads as it did. -/
def fnExactLeastRelationUptoRow : OpenClaim := { program := "ytcijjnjgifoipaa", sum := "2c7ca25036cbf918b34f1c3d34f378e8807638effdfb70a81fdbb6b60fa19761", func := "loop.example/g01066/laws.FnExactLeastRelation", spec := "fnExactLeastRelation", unfollowed := true, recurses := true, plainKeys := false, apart := false, narrowed := true }
def FnExactLeastRelationUptoSaid : Prop := fnExactLeastRelationUptoRow.holds Try.pinned (OpenSpec.upto fnExactLeastRelationSpec)

/-- 'laws.FnExactWalkComponents', WHERE WHAT IT READS IS OF BULK AT MOST 1048576: true; the input reads as it did. -/
def fnExactWalkComponentsUptoRow : OpenClaim := { program := "ytcijjnjgifoipaa", sum := "2c7ca25036cbf918b34f1c3d34f378e8807638effdfb70a81fdbb6b60fa19761", func := "loop.example/g01066/laws.FnExactWalkComponents", spec := "fnExactWalkComponents", plainKeys := false, apart := false, narrowed := true }
def FnExactWalkComponentsUptoSaid : Prop := fnExactWalkComponentsUptoRow.holds Try.pinned (OpenSpec.upto fnExactWalkComponentsSpec)

/-- 'laws.FnExactInvariantFactors', WHERE WHAT IT READS IS OF BULK AT MOST 1048576: true; the input reads as it did. -/
def fnExactInvariantFactorsUptoRow : OpenClaim := { program := "ytcijjnjgifoipaa", sum := "2c7ca25036cbf918b34f1c3d34f378e8807638effdfb70a81fdbb6b60fa19761", func := "loop.example/g01066/laws.FnExactInvariantFactors", spec := "fnExactInvariantFactors", plainKeys := false, apart := false, narrowed := true }
def FnExactInvariantFactorsUptoSaid : Prop := fnExactInvariantFactorsUptoRow.holds Try.pinned (OpenSpec.upto fnExactInvariantFactorsSpec)

end Rows
end Go.Proofs.Ytcijjnjgifoipaa
