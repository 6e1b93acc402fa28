/-
  No cell of these rows narrows 'for every input' (looked for: loops, veiled, ifaces, maps, wideKeys, modest, calm, conditions, laid).
  DERIVED. THE GIVEN ROWS OF THIS SEAT. 12 by the template 'for every input the law returns true; each argument reads behind the call as it read before'; 0 by the template 'total and deterministic' (their statements: YtifkmjmhhklkjaaTotals.lean).
  GIVEN WITH THE SEED: the statements are not yours to turn. If you find one false, say at which input.
  Laid BY PROGRAM, IN A SANDBOX (cutbox-rows.mjs): the forced cells as the released guide's own fill.sh prints them over the translation 97e45a7aabd9a898… (all of the seat's roots in one cut). By AI agents, Wed Nov 11 2026. No macro, syntax, notation, axiom, sorry.
-/
import Derived.Test.YtifkmjmhhklkjaaChecked
import GoSem.Claim
import GoSem.ClaimJoined
import GoSem.ClaimMapViews
import Derived.JoinedTies
import Derived.KernelRfl
namespace Go.Proofs.Ytifkmjmhhklkjaa
/- THE CELL 'sum', in the pinned program and in every row, IS THE sha256 OF THE DUMP (.gsa) THAT YtifkmjmhhklkjaaProg.lean LOADS. Nothing in Lean hashes anything: it is a label: what it is worth is what the hold of that sum in a sandbox is worth. -/
noncomputable def Try.pinned : Pinned := { name := "ytifkmjmhhklkjaa", sum := "97e45a7aabd9a8987fd9be9f85d114b118610c749351cb5bedd0a7b2c275771b", checked := Try.checked }
namespace Rows
def none {H : Type} : Left H := { results := [], args := [] }

/-- 'laws.FnExactFormOfSplit': WHATEVER THE INPUT: true; the input reads as it did. -/
def fnExactFormOfSplitSpec : ChangeSpec := { name := "fnExactFormOfSplit", fn := fun _ => fun
  | [d1, d2] => { results := [.lit (.bool true)], args := [d1, d2] }
  | _ => none }
def fnExactFormOfSplitRow : OpenClaim := { program := "ytifkmjmhhklkjaa", sum := "97e45a7aabd9a8987fd9be9f85d114b118610c749351cb5bedd0a7b2c275771b", func := "loop.example/g01066/laws.FnExactFormOfSplit", spec := "fnExactFormOfSplit", plainKeys := false, apart := false }
def FnExactFormOfSplitSaid : Prop := fnExactFormOfSplitRow.holds Try.pinned (OpenSpec.ofChange fnExactFormOfSplitSpec)

/-- ITS FALSE NEIGHBOUR: 'it returns false'. Refute it at one input. -/
def fnExactFormOfSplitWrong : ChangeSpec := { name := "fnExactFormOfSplit", fn := fun _ => fun
  | [d1, d2] => { results := [.lit (.bool false)], args := [d1, d2] }
  | _ => none }
def FnExactFormOfSplitWrongFalsely : Prop := fnExactFormOfSplitRow.holds Try.pinned (OpenSpec.ofChange fnExactFormOfSplitWrong)

/-- 'laws.FnExactAmbiguousSplit': WHATEVER THE INPUT: true; the input reads as it did. -/
def fnExactAmbiguousSplitSpec : ChangeSpec := { name := "fnExactAmbiguousSplit", fn := fun _ => fun
  | [d] => { results := [.lit (.bool true)], args := [d] }
  | _ => none }
def fnExactAmbiguousSplitRow : OpenClaim := { program := "ytifkmjmhhklkjaa", sum := "97e45a7aabd9a8987fd9be9f85d114b118610c749351cb5bedd0a7b2c275771b", func := "loop.example/g01066/laws.FnExactAmbiguousSplit", spec := "fnExactAmbiguousSplit", plainKeys := false, apart := false }
def FnExactAmbiguousSplitSaid : Prop := fnExactAmbiguousSplitRow.holds Try.pinned (OpenSpec.ofChange fnExactAmbiguousSplitSpec)

/-- ITS FALSE NEIGHBOUR: 'it returns false'. Refute it at one input. -/
def fnExactAmbiguousSplitWrong : ChangeSpec := { name := "fnExactAmbiguousSplit", fn := fun _ => fun
  | [d] => { results := [.lit (.bool false)], args := [d] }
  | _ => none }
def FnExactAmbiguousSplitWrongFalsely : Prop := fnExactAmbiguousSplitRow.holds Try.pinned (OpenSpec.ofChange fnExactAmbiguousSplitWrong)

/-- 'laws.FnExactSplitsOf': WHATEVER THE INPUT: true; the input reads as it did. -/
def fnExactSplitsOfSpec : ChangeSpec := { name := "fnExactSplitsOf", fn := fun _ => fun
  | [d] => { results := [.lit (.bool true)], args := [d] }
  | _ => none }
def fnExactSplitsOfRow : OpenClaim := { program := "ytifkmjmhhklkjaa", sum := "97e45a7aabd9a8987fd9be9f85d114b118610c749351cb5bedd0a7b2c275771b", func := "loop.example/g01066/laws.FnExactSplitsOf", spec := "fnExactSplitsOf", unfollowed := true, recurses := true, plainKeys := false, apart := false }
def FnExactSplitsOfSaid : Prop := fnExactSplitsOfRow.holds Try.pinned (OpenSpec.ofChange fnExactSplitsOfSpec)

/-- ITS FALSE NEIGHBOUR: 'it returns false'. Refute it at one input. -/
def fnExactSplitsOfWrong : ChangeSpec := { name := "fnExactSplitsOf", fn := fun _ => fun
  | [d] => { results := [.lit (.bool false)], args := [d] }
  | _ => none }
def FnExactSplitsOfWrongFalsely : Prop := fnExactSplitsOfRow.holds Try.pinned (OpenSpec.ofChange fnExactSplitsOfWrong)

/-- 'laws.FnExactAmbiguousPower': WHATEVER THE INPUT: true; the input reads as it did. -/
def fnExactAmbiguousPowerSpec : ChangeSpec := { name := "fnExactAmbiguousPower", fn := fun _ => fun
  | [d] => { results := [.lit (.bool true)], args := [d] }
  | _ => none }
def fnExactAmbiguousPowerRow : OpenClaim := { program := "ytifkmjmhhklkjaa", sum := "97e45a7aabd9a8987fd9be9f85d114b118610c749351cb5bedd0a7b2c275771b", func := "loop.example/g01066/laws.FnExactAmbiguousPower", spec := "fnExactAmbiguousPower", plainKeys := false, apart := false }
def FnExactAmbiguousPowerSaid : Prop := fnExactAmbiguousPowerRow.holds Try.pinned (OpenSpec.ofChange fnExactAmbiguousPowerSpec)

/-- ITS FALSE NEIGHBOUR: 'it returns false'. Refute it at one input. -/
def fnExactAmbiguousPowerWrong : ChangeSpec := { name := "fnExactAmbiguousPower", fn := fun _ => fun
  | [d] => { results := [.lit (.bool false)], args := [d] }
  | _ => none }
def FnExactAmbiguousPowerWrongFalsely : Prop := fnExactAmbiguousPowerRow.holds Try.pinned (OpenSpec.ofChange fnExactAmbiguousPowerWrong)

/-- 'laws.FnExactSplitFromForm': WHATEVER THE INPUT: true; the input reads as it did. -/
def fnExactSplitFromFormSpec : ChangeSpec := { name := "fnExactSplitFromForm", fn := fun _ => fun
  | [d] => { results := [.lit (.bool true)], args := [d] }
  | _ => none }
def fnExactSplitFromFormRow : OpenClaim := { program := "ytifkmjmhhklkjaa", sum := "97e45a7aabd9a8987fd9be9f85d114b118610c749351cb5bedd0a7b2c275771b", func := "loop.example/g01066/laws.FnExactSplitFromForm", spec := "fnExactSplitFromForm", plainKeys := false, apart := false }
def FnExactSplitFromFormSaid : Prop := fnExactSplitFromFormRow.holds Try.pinned (OpenSpec.ofChange fnExactSplitFromFormSpec)

/-- ITS FALSE NEIGHBOUR: 'it returns false'. Refute it at one input. -/
def fnExactSplitFromFormWrong : ChangeSpec := { name := "fnExactSplitFromForm", fn := fun _ => fun
  | [d] => { results := [.lit (.bool false)], args := [d] }
  | _ => none }
def FnExactSplitFromFormWrongFalsely : Prop := fnExactSplitFromFormRow.holds Try.pinned (OpenSpec.ofChange fnExactSplitFromFormWrong)

/-- 'laws.FnExactGenusValues': WHATEVER THE INPUT: true; the input reads as it did. -/
def fnExactGenusValuesSpec : ChangeSpec := { name := "fnExactGenusValues", fn := fun _ => fun
  | [d] => { results := [.lit (.bool true)], args := [d] }
  | _ => none }
def fnExactGenusValuesRow : OpenClaim := { program := "ytifkmjmhhklkjaa", sum := "97e45a7aabd9a8987fd9be9f85d114b118610c749351cb5bedd0a7b2c275771b", func := "loop.example/g01066/laws.FnExactGenusValues", spec := "fnExactGenusValues", plainKeys := false, apart := false }
def FnExactGenusValuesSaid : Prop := fnExactGenusValuesRow.holds Try.pinned (OpenSpec.ofChange fnExactGenusValuesSpec)

/-- ITS FALSE NEIGHBOUR: 'it returns false'. Refute it at one input. -/
def fnExactGenusValuesWrong : ChangeSpec := { name := "fnExactGenusValues", fn := fun _ => fun
  | [d] => { results := [.lit (.bool false)], args := [d] }
  | _ => none }
def FnExactGenusValuesWrongFalsely : Prop := fnExactGenusValuesRow.holds Try.pinned (OpenSpec.ofChange fnExactGenusValuesWrong)

/-- 'laws.FnExactIsSquareClass': WHATEVER THE INPUT: true; the input reads as it did. -/
def fnExactIsSquareClassSpec : ChangeSpec := { name := "fnExactIsSquareClass", fn := fun _ => fun
  | [d] => { results := [.lit (.bool true)], args := [d] }
  | _ => none }
def fnExactIsSquareClassRow : OpenClaim := { program := "ytifkmjmhhklkjaa", sum := "97e45a7aabd9a8987fd9be9f85d114b118610c749351cb5bedd0a7b2c275771b", func := "loop.example/g01066/laws.FnExactIsSquareClass", spec := "fnExactIsSquareClass", plainKeys := false, apart := false }
def FnExactIsSquareClassSaid : Prop := fnExactIsSquareClassRow.holds Try.pinned (OpenSpec.ofChange fnExactIsSquareClassSpec)

/-- ITS FALSE NEIGHBOUR: 'it returns false'. Refute it at one input. -/
def fnExactIsSquareClassWrong : ChangeSpec := { name := "fnExactIsSquareClass", fn := fun _ => fun
  | [d] => { results := [.lit (.bool false)], args := [d] }
  | _ => none }
def FnExactIsSquareClassWrongFalsely : Prop := fnExactIsSquareClassRow.holds Try.pinned (OpenSpec.ofChange fnExactIsSquareClassWrong)

/-- 'laws.FnExactClassesOfOrder': WHATEVER THE INPUT: true; the input reads as it did. -/
def fnExactClassesOfOrderSpec : ChangeSpec := { name := "fnExactClassesOfOrder", fn := fun _ => fun
  | [d1, d2] => { results := [.lit (.bool true)], args := [d1, d2] }
  | _ => none }
def fnExactClassesOfOrderRow : OpenClaim := { program := "ytifkmjmhhklkjaa", sum := "97e45a7aabd9a8987fd9be9f85d114b118610c749351cb5bedd0a7b2c275771b", func := "loop.example/g01066/laws.FnExactClassesOfOrder", spec := "fnExactClassesOfOrder", plainKeys := false, apart := false }
def FnExactClassesOfOrderSaid : Prop := fnExactClassesOfOrderRow.holds Try.pinned (OpenSpec.ofChange fnExactClassesOfOrderSpec)

/-- ITS FALSE NEIGHBOUR: 'it returns false'. Refute it at one input. -/
def fnExactClassesOfOrderWrong : ChangeSpec := { name := "fnExactClassesOfOrder", fn := fun _ => fun
  | [d1, d2] => { results := [.lit (.bool false)], args := [d1, d2] }
  | _ => none }
def FnExactClassesOfOrderWrongFalsely : Prop := fnExactClassesOfOrderRow.holds Try.pinned (OpenSpec.ofChange fnExactClassesOfOrderWrong)

/-- 'laws.FnExactClassRoots': WHATEVER THE INPUT: true; the input reads as it did. -/
def fnExactClassRootsSpec : ChangeSpec := { name := "fnExactClassRoots", fn := fun _ => fun
  | [d1, d2] => { results := [.lit (.bool true)], args := [d1, d2] }
  | _ => none }
def fnExactClassRootsRow : OpenClaim := { program := "ytifkmjmhhklkjaa", sum := "97e45a7aabd9a8987fd9be9f85d114b118610c749351cb5bedd0a7b2c275771b", func := "loop.example/g01066/laws.FnExactClassRoots", spec := "fnExactClassRoots", unfollowed := true, recurses := true, plainKeys := false, apart := false }
def FnExactClassRootsSaid : Prop := fnExactClassRootsRow.holds Try.pinned (OpenSpec.ofChange fnExactClassRootsSpec)

/-- ITS FALSE NEIGHBOUR: 'it returns false'. Refute it at one input. -/
def fnExactClassRootsWrong : ChangeSpec := { name := "fnExactClassRoots", fn := fun _ => fun
  | [d1, d2] => { results := [.lit (.bool false)], args := [d1, d2] }
  | _ => none }
def FnExactClassRootsWrongFalsely : Prop := fnExactClassRootsRow.holds Try.pinned (OpenSpec.ofChange fnExactClassRootsWrong)

/-- 'laws.FnExactIsCyclic': WHATEVER THE INPUT: true; the input reads as it did. -/
def fnExactIsCyclicSpec : ChangeSpec := { name := "fnExactIsCyclic", fn := fun _ => fun
  | [d] => { results := [.lit (.bool true)], args := [d] }
  | _ => none }
def fnExactIsCyclicRow : OpenClaim := { program := "ytifkmjmhhklkjaa", sum := "97e45a7aabd9a8987fd9be9f85d114b118610c749351cb5bedd0a7b2c275771b", func := "loop.example/g01066/laws.FnExactIsCyclic", spec := "fnExactIsCyclic", plainKeys := false, apart := false }
def FnExactIsCyclicSaid : Prop := fnExactIsCyclicRow.holds Try.pinned (OpenSpec.ofChange fnExactIsCyclicSpec)

/-- ITS FALSE NEIGHBOUR: 'it returns false'. Refute it at one input. -/
def fnExactIsCyclicWrong : ChangeSpec := { name := "fnExactIsCyclic", fn := fun _ => fun
  | [d] => { results := [.lit (.bool false)], args := [d] }
  | _ => none }
def FnExactIsCyclicWrongFalsely : Prop := fnExactIsCyclicRow.holds Try.pinned (OpenSpec.ofChange fnExactIsCyclicWrong)

/-- 'laws.FnExactPowerClasses': WHATEVER THE INPUT: true; the input reads as it did. -/
def fnExactPowerClassesSpec : ChangeSpec := { name := "fnExactPowerClasses", fn := fun _ => fun
  | [d1, d2] => { results := [.lit (.bool true)], args := [d1, d2] }
  | _ => none }
def fnExactPowerClassesRow : OpenClaim := { program := "ytifkmjmhhklkjaa", sum := "97e45a7aabd9a8987fd9be9f85d114b118610c749351cb5bedd0a7b2c275771b", func := "loop.example/g01066/laws.FnExactPowerClasses", spec := "fnExactPowerClasses", plainKeys := false, apart := false }
def FnExactPowerClassesSaid : Prop := fnExactPowerClassesRow.holds Try.pinned (OpenSpec.ofChange fnExactPowerClassesSpec)

/-- ITS FALSE NEIGHBOUR: 'it returns false'. Refute it at one input. -/
def fnExactPowerClassesWrong : ChangeSpec := { name := "fnExactPowerClasses", fn := fun _ => fun
  | [d1, d2] => { results := [.lit (.bool false)], args := [d1, d2] }
  | _ => none }
def FnExactPowerClassesWrongFalsely : Prop := fnExactPowerClassesRow.holds Try.pinned (OpenSpec.ofChange fnExactPowerClassesWrong)

/-- 'laws.FnExactSquareClasses': WHATEVER THE INPUT: true; the input reads as it did. -/
def fnExactSquareClassesSpec : ChangeSpec := { name := "fnExactSquareClasses", fn := fun _ => fun
  | [d] => { results := [.lit (.bool true)], args := [d] }
  | _ => none }
def fnExactSquareClassesRow : OpenClaim := { program := "ytifkmjmhhklkjaa", sum := "97e45a7aabd9a8987fd9be9f85d114b118610c749351cb5bedd0a7b2c275771b", func := "loop.example/g01066/laws.FnExactSquareClasses", spec := "fnExactSquareClasses", plainKeys := false, apart := false }
def FnExactSquareClassesSaid : Prop := fnExactSquareClassesRow.holds Try.pinned (OpenSpec.ofChange fnExactSquareClassesSpec)

/-- ITS FALSE NEIGHBOUR: 'it returns false'. Refute it at one input. -/
def fnExactSquareClassesWrong : ChangeSpec := { name := "fnExactSquareClasses", fn := fun _ => fun
  | [d] => { results := [.lit (.bool false)], args := [d] }
  | _ => none }
def FnExactSquareClassesWrongFalsely : Prop := fnExactSquareClassesRow.holds Try.pinned (OpenSpec.ofChange fnExactSquareClassesWrong)

/- THE SECOND FORM. 'bulk': how many values and letters a reading holds, each counted each time it is reached (what is shared counts as often as it is met; a slice's spare places count too). A statement '..UptoSaid' is the law's where the arguments, and the package variables that the reading takes, are together of bulk at most 1048576: NARROWER than '..Said'. Prove '..Said' where nothing that the law and all that it calls make is longer than what came in: it says more and counts as full. Else prove '..UptoSaid'. A law counts once. -/
mutual
def uptoBulk {H : Type} : DataW H → Nat
  | .lit (.string bytes) => bytes.length + 1
  | .lit _ => 1
  | .nil => 1
  | .ptr d => uptoBulk d + 1
  | .slice elems spare => uptoBulkAll elems + uptoBulkAll spare + 1
  | .agg parts => uptoBulkAll parts + 1
  | .iface _ d => uptoBulk d + 1
  | .map entries => uptoBulkEntries entries + 1
  | .held _ => 1
def uptoBulkAll {H : Type} : List (DataW H) → Nat
  | [] => 0
  | d :: r => uptoBulk d + uptoBulkAll r
def uptoBulkEntries {H : Type} : List (Lit × DataW H) → Nat
  | [] => 0
  | x :: r => uptoBulkEntry x + uptoBulkEntries r
def uptoBulkEntry {H : Type} : Lit × DataW H → Nat
  | (.string bytes, d) => bytes.length + uptoBulk d + 1
  | (_, d) => uptoBulk d + 1
 end
def uptoSmall : (H : Type) → List (DataW H) → Bool := fun _ ds => decide (uptoBulkAll ds ≤ 1048576)
def OpenSpec.upto (s : _root_.Go.ChangeSpec) : _root_.Go.OpenSpec := { _root_.Go.OpenSpec.ofChange s with cond := some uptoSmall }

/-- 'laws.FnExactFormOfSplit', WHERE WHAT IT READS IS OF BULK AT MOST 1048576: true; the input reads as it did. -/
def fnExactFormOfSplitUptoRow : OpenClaim := { program := "ytifkmjmhhklkjaa", sum := "97e45a7aabd9a8987fd9be9f85d114b118610c749351cb5bedd0a7b2c275771b", func := "loop.example/g01066/laws.FnExactFormOfSplit", spec := "fnExactFormOfSplit", plainKeys := false, apart := false, narrowed := true }
def FnExactFormOfSplitUptoSaid : Prop := fnExactFormOfSplitUptoRow.holds Try.pinned (OpenSpec.upto fnExactFormOfSplitSpec)

/-- 'laws.FnExactAmbiguousSplit', WHERE WHAT IT READS IS OF BULK AT MOST 1048576: true; the input reads as it did. -/
def fnExactAmbiguousSplitUptoRow : OpenClaim := { program := "ytifkmjmhhklkjaa", sum := "97e45a7aabd9a8987fd9be9f85d114b118610c749351cb5bedd0a7b2c275771b", func := "loop.example/g01066/laws.FnExactAmbiguousSplit", spec := "fnExactAmbiguousSplit", plainKeys := false, apart := false, narrowed := true }
def FnExactAmbiguousSplitUptoSaid : Prop := fnExactAmbiguousSplitUptoRow.holds Try.pinned (OpenSpec.upto fnExactAmbiguousSplitSpec)

/-- 'laws.FnExactSplitsOf', WHERE WHAT IT READS IS OF BULK AT MOST 1048576: true; the input reads as it did. -/
def fnExactSplitsOfUptoRow : OpenClaim := { program := "ytifkmjmhhklkjaa", sum := "97e45a7aabd9a8987fd9be9f85d114b118610c749351cb5bedd0a7b2c275771b", func := "loop.example/g01066/laws.FnExactSplitsOf", spec := "fnExactSplitsOf", unfollowed := true, recurses := true, plainKeys := false, apart := false, narrowed := true }
def FnExactSplitsOfUptoSaid : Prop := fnExactSplitsOfUptoRow.holds Try.pinned (OpenSpec.upto fnExactSplitsOfSpec)

/-- 'laws.FnExactAmbiguousPower', WHERE WHAT IT READS IS OF BULK AT MOST 1048576: true; the input reads as it did. -/
def fnExactAmbiguousPowerUptoRow : OpenClaim := { program := "ytifkmjmhhklkjaa", sum := "97e45a7aabd9a8987fd9be9f85d114b118610c749351cb5bedd0a7b2c275771b", func := "loop.example/g01066/laws.FnExactAmbiguousPower", spec := "fnExactAmbiguousPower", plainKeys := false, apart := false, narrowed := true }
def FnExactAmbiguousPowerUptoSaid : Prop := fnExactAmbiguousPowerUptoRow.holds Try.pinned (OpenSpec.upto fnExactAmbiguousPowerSpec)

/-- 'laws.FnExactSplitFromForm', WHERE WHAT IT READS IS OF BULK AT MOST 1048576: true; the input reads as it did. -/
def fnExactSplitFromFormUptoRow : OpenClaim := { program := "ytifkmjmhhklkjaa", sum := "97e45a7aabd9a8987fd9be9f85d114b118610c749351cb5bedd0a7b2c275771b", func := "loop.example/g01066/laws.FnExactSplitFromForm", spec := "fnExactSplitFromForm", plainKeys := false, apart := false, narrowed := true }
def FnExactSplitFromFormUptoSaid : Prop := fnExactSplitFromFormUptoRow.holds Try.pinned (OpenSpec.upto fnExactSplitFromFormSpec)

/-- 'laws.FnExactGenusValues', WHERE WHAT IT READS IS OF BULK AT MOST 1048576: true; the input reads as it did. -/
def fnExactGenusValuesUptoRow : OpenClaim := { program := "ytifkmjmhhklkjaa", sum := "97e45a7aabd9a8987fd9be9f85d114b118610c749351cb5bedd0a7b2c275771b", func := "loop.example/g01066/laws.FnExactGenusValues", spec := "fnExactGenusValues", plainKeys := false, apart := false, narrowed := true }
def FnExactGenusValuesUptoSaid : Prop := fnExactGenusValuesUptoRow.holds Try.pinned (OpenSpec.upto fnExactGenusValuesSpec)

/-- 'laws.FnExactIsSquareClass', WHERE WHAT IT READS IS OF BULK AT MOST 1048576: true; the input reads as it did. -/
def fnExactIsSquareClassUptoRow : OpenClaim := { program := "ytifkmjmhhklkjaa", sum := "97e45a7aabd9a8987fd9be9f85d114b118610c749351cb5bedd0a7b2c275771b", func := "loop.example/g01066/laws.FnExactIsSquareClass", spec := "fnExactIsSquareClass", plainKeys := false, apart := false, narrowed := true }
def FnExactIsSquareClassUptoSaid : Prop := fnExactIsSquareClassUptoRow.holds Try.pinned (OpenSpec.upto fnExactIsSquareClassSpec)

/-- 'laws.FnExactClassesOfOrder', WHERE WHAT IT READS IS OF BULK AT MOST 1048576: true; the input reads as it did. -/
def fnExactClassesOfOrderUptoRow : OpenClaim := { program := "ytifkmjmhhklkjaa", sum := "97e45a7aabd9a8987fd9be9f85d114b118610c749351cb5bedd0a7b2c275771b", func := "loop.example/g01066/laws.FnExactClassesOfOrder", spec := "fnExactClassesOfOrder", plainKeys := false, apart := false, narrowed := true }
def FnExactClassesOfOrderUptoSaid : Prop := fnExactClassesOfOrderUptoRow.holds Try.pinned (OpenSpec.upto fnExactClassesOfOrderSpec)

/-- 'laws.FnExactClassRoots', WHERE WHAT IT READS IS OF BULK AT MOST 1048576: true; the input reads as it did. -/
def fnExactClassRootsUptoRow : OpenClaim := { program := "ytifkmjmhhklkjaa", sum := "97e45a7aabd9a8987fd9be9f85d114b118610c749351cb5bedd0a7b2c275771b", func := "loop.example/g01066/laws.FnExactClassRoots", spec := "fnExactClassRoots", unfollowed := true, recurses := true, plainKeys := false, apart := false, narrowed := true }
def FnExactClassRootsUptoSaid : Prop := fnExactClassRootsUptoRow.holds Try.pinned (OpenSpec.upto fnExactClassRootsSpec)

/-- 'laws.FnExactIsCyclic', WHERE WHAT IT READS IS OF BULK AT MOST 1048576: true; the input reads as it did. -/
def fnExactIsCyclicUptoRow : OpenClaim := { program := "ytifkmjmhhklkjaa", sum := "97e45a7aabd9a8987fd9be9f85d114b118610c749351cb5bedd0a7b2c275771b", func := "loop.example/g01066/laws.FnExactIsCyclic", spec := "fnExactIsCyclic", plainKeys := false, apart := false, narrowed := true }
def FnExactIsCyclicUptoSaid : Prop := fnExactIsCyclicUptoRow.holds Try.pinned (OpenSpec.upto fnExactIsCyclicSpec)

/-- 'laws.FnExactPowerClasses', WHERE WHAT IT READS IS OF BULK AT MOST 1048576: true; the input reads as it did. -/
def fnExactPowerClassesUptoRow : OpenClaim := { program := "ytifkmjmhhklkjaa", sum := "97e45a7aabd9a8987fd9be9f85d114b118610c749351cb5bedd0a7b2c275771b", func := "loop.example/g01066/laws.FnExactPowerClasses", spec := "fnExactPowerClasses", plainKeys := false, apart := false, narrowed := true }
def FnExactPowerClassesUptoSaid : Prop := fnExactPowerClassesUptoRow.holds Try.pinned (OpenSpec.upto fnExactPowerClassesSpec)

/-- 'laws.FnExactSquareClasses', WHERE WHAT IT READS IS OF BULK AT MOST 1048576: true; the input reads as it did. -/
def fnExactSquareClassesUptoRow : OpenClaim := { program := "ytifkmjmhhklkjaa", sum := "97e45a7aabd9a8987fd9be9f85d114b118610c749351cb5bedd0a7b2c275771b", func := "loop.example/g01066/laws.FnExactSquareClasses", spec := "fnExactSquareClasses", plainKeys := false, apart := false, narrowed := true }
def FnExactSquareClassesUptoSaid : Prop := fnExactSquareClassesUptoRow.holds Try.pinned (OpenSpec.upto fnExactSquareClassesSpec)

end Rows
end Go.Proofs.Ytifkmjmhhklkjaa
