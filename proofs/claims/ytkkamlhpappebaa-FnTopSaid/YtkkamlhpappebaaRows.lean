/-
  No cell of these rows narrows 'for every input' (looked for: loops, veiled, ifaces, maps, wideKeys, modest, calm, conditions, laid).
  DERIVED. THE GIVEN ROWS OF THIS SEAT. 7 by the template 'for every input the law returns true; each argument reads behind the call as it read before'; 0 by the template 'total and deterministic' (their statements: YtkkamlhpappebaaTotals.lean).
  GIVEN WITH THE SEED: the statements are not yours to turn. If you find one false, say at which input.
  Laid BY PROGRAM, IN A SANDBOX (cutbox-rows.mjs): the forced cells as the released guide's own fill.sh prints them over the translation 7487212a2792320d… (all of the seat's roots in one cut). By AI agents, Wed Nov 11 2026. No macro, syntax, notation, axiom, sorry.
-/
import Derived.Test.YtkkamlhpappebaaChecked
import GoSem.Claim
import GoSem.ClaimJoined
import GoSem.ClaimMapViews
import Derived.JoinedTies
import Derived.KernelRfl
namespace Go.Proofs.Ytkkamlhpappebaa
/- THE CELL 'sum', in the pinned program and in every row, IS THE sha256 OF THE DUMP (.gsa) THAT YtkkamlhpappebaaProg.lean LOADS. Nothing in Lean hashes anything: it is a label: what it is worth is what the hold of that sum in a sandbox is worth. -/
noncomputable def Try.pinned : Pinned := { name := "ytkkamlhpappebaa", sum := "7487212a2792320d2eb70cb3ccbb4f0ebf9ff4ad1d87d605850808a3caab62b4", checked := Try.checked }
namespace Rows
def none {H : Type} : Left H := { results := [], args := [] }

/-- 'laws.FnTop': WHATEVER THE INPUT: true; the input reads as it did. -/
def fnTopSpec : ChangeSpec := { name := "fnTop", fn := fun _ => fun
  | [d1, d2] => { results := [.lit (.bool true)], args := [d1, d2] }
  | _ => none }
def fnTopRow : OpenClaim := { program := "ytkkamlhpappebaa", sum := "7487212a2792320d2eb70cb3ccbb4f0ebf9ff4ad1d87d605850808a3caab62b4", func := "loop.example/g01066/laws.FnTop", spec := "fnTop", plainKeys := false, apart := false }
def FnTopSaid : Prop := fnTopRow.holds Try.pinned (OpenSpec.ofChange fnTopSpec)

/-- ITS FALSE NEIGHBOUR: 'it returns false'. Refute it at one input. -/
def fnTopWrong : ChangeSpec := { name := "fnTop", fn := fun _ => fun
  | [d1, d2] => { results := [.lit (.bool false)], args := [d1, d2] }
  | _ => none }
def FnTopWrongFalsely : Prop := fnTopRow.holds Try.pinned (OpenSpec.ofChange fnTopWrong)

/-- 'laws.FnEquivalence': WHATEVER THE INPUT: true; the input reads as it did. -/
def fnEquivalenceSpec : ChangeSpec := { name := "fnEquivalence", fn := fun _ => fun
  | [d1, d2] => { results := [.lit (.bool true)], args := [d1, d2] }
  | _ => none }
def fnEquivalenceRow : OpenClaim := { program := "ytkkamlhpappebaa", sum := "7487212a2792320d2eb70cb3ccbb4f0ebf9ff4ad1d87d605850808a3caab62b4", func := "loop.example/g01066/laws.FnEquivalence", spec := "fnEquivalence", plainKeys := false, apart := false }
def FnEquivalenceSaid : Prop := fnEquivalenceRow.holds Try.pinned (OpenSpec.ofChange fnEquivalenceSpec)

/-- ITS FALSE NEIGHBOUR: 'it returns false'. Refute it at one input. -/
def fnEquivalenceWrong : ChangeSpec := { name := "fnEquivalence", fn := fun _ => fun
  | [d1, d2] => { results := [.lit (.bool false)], args := [d1, d2] }
  | _ => none }
def FnEquivalenceWrongFalsely : Prop := fnEquivalenceRow.holds Try.pinned (OpenSpec.ofChange fnEquivalenceWrong)

/-- 'laws.FnReductionWords': WHATEVER THE INPUT: true; the input reads as it did. -/
def fnReductionWordsSpec : ChangeSpec := { name := "fnReductionWords", fn := fun _ => fun
  | [d1, d2] => { results := [.lit (.bool true)], args := [d1, d2] }
  | _ => none }
def fnReductionWordsRow : OpenClaim := { program := "ytkkamlhpappebaa", sum := "7487212a2792320d2eb70cb3ccbb4f0ebf9ff4ad1d87d605850808a3caab62b4", func := "loop.example/g01066/laws.FnReductionWords", spec := "fnReductionWords", plainKeys := false, apart := false }
def FnReductionWordsSaid : Prop := fnReductionWordsRow.holds Try.pinned (OpenSpec.ofChange fnReductionWordsSpec)

/-- ITS FALSE NEIGHBOUR: 'it returns false'. Refute it at one input. -/
def fnReductionWordsWrong : ChangeSpec := { name := "fnReductionWords", fn := fun _ => fun
  | [d1, d2] => { results := [.lit (.bool false)], args := [d1, d2] }
  | _ => none }
def FnReductionWordsWrongFalsely : Prop := fnReductionWordsRow.holds Try.pinned (OpenSpec.ofChange fnReductionWordsWrong)

/-- 'laws.FnPrimeClasses': WHATEVER THE INPUT: true; the input reads as it did. -/
def fnPrimeClassesSpec : ChangeSpec := { name := "fnPrimeClasses", fn := fun _ => fun
  | [d1, d2] => { results := [.lit (.bool true)], args := [d1, d2] }
  | _ => none }
def fnPrimeClassesRow : OpenClaim := { program := "ytkkamlhpappebaa", sum := "7487212a2792320d2eb70cb3ccbb4f0ebf9ff4ad1d87d605850808a3caab62b4", func := "loop.example/g01066/laws.FnPrimeClasses", spec := "fnPrimeClasses", plainKeys := false, apart := false }
def FnPrimeClassesSaid : Prop := fnPrimeClassesRow.holds Try.pinned (OpenSpec.ofChange fnPrimeClassesSpec)

/-- ITS FALSE NEIGHBOUR: 'it returns false'. Refute it at one input. -/
def fnPrimeClassesWrong : ChangeSpec := { name := "fnPrimeClasses", fn := fun _ => fun
  | [d1, d2] => { results := [.lit (.bool false)], args := [d1, d2] }
  | _ => none }
def FnPrimeClassesWrongFalsely : Prop := fnPrimeClassesRow.holds Try.pinned (OpenSpec.ofChange fnPrimeClassesWrong)

/-- 'laws.FnExactGroupBasis': WHATEVER THE INPUT: true; the input reads as it did. -/
def fnExactGroupBasisSpec : ChangeSpec := { name := "fnExactGroupBasis", fn := fun _ => fun
  | [d] => { results := [.lit (.bool true)], args := [d] }
  | _ => none }
def fnExactGroupBasisRow : OpenClaim := { program := "ytkkamlhpappebaa", sum := "7487212a2792320d2eb70cb3ccbb4f0ebf9ff4ad1d87d605850808a3caab62b4", func := "loop.example/g01066/laws.FnExactGroupBasis", spec := "fnExactGroupBasis", plainKeys := false, apart := false }
def FnExactGroupBasisSaid : Prop := fnExactGroupBasisRow.holds Try.pinned (OpenSpec.ofChange fnExactGroupBasisSpec)

/-- ITS FALSE NEIGHBOUR: 'it returns false'. Refute it at one input. -/
def fnExactGroupBasisWrong : ChangeSpec := { name := "fnExactGroupBasis", fn := fun _ => fun
  | [d] => { results := [.lit (.bool false)], args := [d] }
  | _ => none }
def FnExactGroupBasisWrongFalsely : Prop := fnExactGroupBasisRow.holds Try.pinned (OpenSpec.ofChange fnExactGroupBasisWrong)

/-- 'laws.FnExactFromLogarithm': WHATEVER THE INPUT: true; the input reads as it did. -/
def fnExactFromLogarithmSpec : ChangeSpec := { name := "fnExactFromLogarithm", fn := fun _ => fun
  | [d1, d2] => { results := [.lit (.bool true)], args := [d1, d2] }
  | _ => none }
def fnExactFromLogarithmRow : OpenClaim := { program := "ytkkamlhpappebaa", sum := "7487212a2792320d2eb70cb3ccbb4f0ebf9ff4ad1d87d605850808a3caab62b4", func := "loop.example/g01066/laws.FnExactFromLogarithm", spec := "fnExactFromLogarithm", plainKeys := false, apart := false }
def FnExactFromLogarithmSaid : Prop := fnExactFromLogarithmRow.holds Try.pinned (OpenSpec.ofChange fnExactFromLogarithmSpec)

/-- ITS FALSE NEIGHBOUR: 'it returns false'. Refute it at one input. -/
def fnExactFromLogarithmWrong : ChangeSpec := { name := "fnExactFromLogarithm", fn := fun _ => fun
  | [d1, d2] => { results := [.lit (.bool false)], args := [d1, d2] }
  | _ => none }
def FnExactFromLogarithmWrongFalsely : Prop := fnExactFromLogarithmRow.holds Try.pinned (OpenSpec.ofChange fnExactFromLogarithmWrong)

/-- 'laws.FnExactClassLogarithm': WHATEVER THE INPUT: true; the input reads as it did. -/
def fnExactClassLogarithmSpec : ChangeSpec := { name := "fnExactClassLogarithm", fn := fun _ => fun
  | [d] => { results := [.lit (.bool true)], args := [d] }
  | _ => none }
def fnExactClassLogarithmRow : OpenClaim := { program := "ytkkamlhpappebaa", sum := "7487212a2792320d2eb70cb3ccbb4f0ebf9ff4ad1d87d605850808a3caab62b4", func := "loop.example/g01066/laws.FnExactClassLogarithm", spec := "fnExactClassLogarithm", plainKeys := false, apart := false }
def FnExactClassLogarithmSaid : Prop := fnExactClassLogarithmRow.holds Try.pinned (OpenSpec.ofChange fnExactClassLogarithmSpec)

/-- ITS FALSE NEIGHBOUR: 'it returns false'. Refute it at one input. -/
def fnExactClassLogarithmWrong : ChangeSpec := { name := "fnExactClassLogarithm", fn := fun _ => fun
  | [d] => { results := [.lit (.bool false)], args := [d] }
  | _ => none }
def FnExactClassLogarithmWrongFalsely : Prop := fnExactClassLogarithmRow.holds Try.pinned (OpenSpec.ofChange fnExactClassLogarithmWrong)

/- THE SECOND FORM. 'bulk': how many values and letters a reading holds, each counted each time it is reached (what is shared counts as often as it is met; a slice's spare places count too). A statement '..UptoSaid' is the law's where the arguments, and the package variables that the reading takes, are together of bulk at most 1048576: NARROWER than '..Said'. Prove '..Said' where nothing that the law and all that it calls make is longer than what came in: it says more and counts as full. Else prove '..UptoSaid'. A law counts once. -/
mutual
def uptoBulk {H : Type} : DataW H → Nat
  | .lit (.string bytes) => bytes.length + 1
  | .lit _ => 1
  | .nil => 1
  | .ptr d => uptoBulk d + 1
  | .slice elems spare => uptoBulkAll elems + uptoBulkAll spare + 1
  | .agg parts => uptoBulkAll parts + 1
  | .iface _ d => uptoBulk d + 1
  | .map entries => uptoBulkEntries entries + 1
  | .held _ => 1
def uptoBulkAll {H : Type} : List (DataW H) → Nat
  | [] => 0
  | d :: r => uptoBulk d + uptoBulkAll r
def uptoBulkEntries {H : Type} : List (Lit × DataW H) → Nat
  | [] => 0
  | x :: r => uptoBulkEntry x + uptoBulkEntries r
def uptoBulkEntry {H : Type} : Lit × DataW H → Nat
  | (.string bytes, d) => bytes.length + uptoBulk d + 1
  | (_, d) => uptoBulk d + 1
 end
def uptoSmall : (H : Type) → List (DataW H) → Bool := fun _ ds => decide (uptoBulkAll ds ≤ 1048576)
def OpenSpec.upto (s : _root_.Go.ChangeSpec) : _root_.Go.OpenSpec := { _root_.Go.OpenSpec.ofChange s with cond := some uptoSmall }

/-- 'laws.FnTop', WHERE WHAT IT READS IS OF BULK AT MOST 1048576: true; the input reads as it did. -/
def fnTopUptoRow : OpenClaim := { program := "ytkkamlhpappebaa", sum := "7487212a2792320d2eb70cb3ccbb4f0ebf9ff4ad1d87d605850808a3caab62b4", func := "loop.example/g01066/laws.FnTop", spec := "fnTop", plainKeys := false, apart := false, narrowed := true }
def FnTopUptoSaid : Prop := fnTopUptoRow.holds Try.pinned (OpenSpec.upto fnTopSpec)

/-- 'laws.FnEquivalence', WHERE WHAT IT READS IS OF BULK AT MOST 1048576: true; the input reads as it did. -/
def fnEquivalenceUptoRow : OpenClaim := { program := "ytkkamlhpappebaa", sum := "7487212a2792320d2eb70cb3ccbb4f0ebf9ff4ad1d87d605850808a3caab62b4", func := "loop.example/g01066/laws.FnEquivalence", spec := "fnEquivalence", plainKeys := false, apart := false, narrowed := true }
def FnEquivalenceUptoSaid : Prop := fnEquivalenceUptoRow.holds Try.pinned (OpenSpec.upto fnEquivalenceSpec)

/-- 'laws.FnReductionWords', WHERE WHAT IT READS IS OF BULK AT MOST 1048576: true; the input reads as it did. -/
def fnReductionWordsUptoRow : OpenClaim := { program := "ytkkamlhpappebaa", sum := "7487212a2792320d2eb70cb3ccbb4f0ebf9ff4ad1d87d605850808a3caab62b4", func := "loop.example/g01066/laws.FnReductionWords", spec := "fnReductionWords", plainKeys := false, apart := false, narrowed := true }
def FnReductionWordsUptoSaid : Prop := fnReductionWordsUptoRow.holds Try.pinned (OpenSpec.upto fnReductionWordsSpec)

/-- 'laws.FnPrimeClasses', WHERE WHAT IT READS IS OF BULK AT MOST 1048576: true; the input reads as it did. -/
def fnPrimeClassesUptoRow : OpenClaim := { program := "ytkkamlhpappebaa", sum := "7487212a2792320d2eb70cb3ccbb4f0ebf9ff4ad1d87d605850808a3caab62b4", func := "loop.example/g01066/laws.FnPrimeClasses", spec := "fnPrimeClasses", plainKeys := false, apart := false, narrowed := true }
def FnPrimeClassesUptoSaid : Prop := fnPrimeClassesUptoRow.holds Try.pinned (OpenSpec.upto fnPrimeClassesSpec)

/-- 'laws.FnExactGroupBasis', WHERE WHAT IT READS IS OF BULK AT MOST 1048576: true; the input reads as it did. -/
def fnExactGroupBasisUptoRow : OpenClaim := { program := "ytkkamlhpappebaa", sum := "7487212a2792320d2eb70cb3ccbb4f0ebf9ff4ad1d87d605850808a3caab62b4", func := "loop.example/g01066/laws.FnExactGroupBasis", spec := "fnExactGroupBasis", plainKeys := false, apart := false, narrowed := true }
def FnExactGroupBasisUptoSaid : Prop := fnExactGroupBasisUptoRow.holds Try.pinned (OpenSpec.upto fnExactGroupBasisSpec)

/-- 'laws.FnExactFromLogarithm', WHERE WHAT IT READS IS OF BULK AT MOST 1048576: true; the input reads as it did. -/
def fnExactFromLogarithmUptoRow : OpenClaim := { program := "ytkkamlhpappebaa", sum := "7487212a2792320d2eb70cb3ccbb4f0ebf9ff4ad1d87d605850808a3caab62b4", func := "loop.example/g01066/laws.FnExactFromLogarithm", spec := "fnExactFromLogarithm", plainKeys := false, apart := false, narrowed := true }
def FnExactFromLogarithmUptoSaid : Prop := fnExactFromLogarithmUptoRow.holds Try.pinned (OpenSpec.upto fnExactFromLogarithmSpec)

/-- 'laws.FnExactClassLogarithm', WHERE WHAT IT READS IS OF BULK AT MOST 1048576: true; the input reads as it did. -/
def fnExactClassLogarithmUptoRow : OpenClaim := { program := "ytkkamlhpappebaa", sum := "7487212a2792320d2eb70cb3ccbb4f0ebf9ff4ad1d87d605850808a3caab62b4", func := "loop.example/g01066/laws.FnExactClassLogarithm", spec := "fnExactClassLogarithm", plainKeys := false, apart := false, narrowed := true }
def FnExactClassLogarithmUptoSaid : Prop := fnExactClassLogarithmUptoRow.holds Try.pinned (OpenSpec.upto fnExactClassLogarithmSpec)

end Rows
end Go.Proofs.Ytkkamlhpappebaa
