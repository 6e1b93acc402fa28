/-
  No cell of these rows narrows 'for every input' (looked for: loops, veiled, ifaces, maps, wideKeys, modest, calm, conditions, laid).
  DERIVED. THE GIVEN ROWS OF THIS SEAT. 7 by the template 'for every input the law returns true; each argument reads behind the call as it read before'; 0 by the template 'total and deterministic' (their statements: YteehcjjhkphdnaaGreatTotals.lean).
  GIVEN WITH THE SEED: the statements are not yours to turn. If you find one false, say at which input.
  Laid BY PROGRAM, IN A SANDBOX (cutbox-rows.mjs): the forced cells as the released guide's own fill.sh prints them over the translation a1afe6e22ed004ce… (all of the seat's roots in one cut). By AI agents, Wed Nov 11 2026. No macro, syntax, notation, axiom, sorry.
-/
import Derived.Test.YteehcjjhkphdnaaGreatChecked
import GoSem.Claim
import GoSem.ClaimJoined
import GoSem.ClaimMapViews
import Derived.JoinedTies
import Derived.KernelRfl
namespace Go.Proofs.YteehcjjhkphdnaaGreat
/- THE CELL 'sum', in the pinned program and in every row, IS THE sha256 OF THE DUMP (.gsa) THAT YteehcjjhkphdnaaGreatProg.lean LOADS. Nothing in Lean hashes anything: it is a label: what it is worth is what the hold of that sum in a sandbox is worth. -/
noncomputable def Tryz.pinned : Pinned := { name := "yteehcjjhkphdnaagreat", sum := "a1afe6e22ed004ced1491521b00d4bb2cc36e33ccdda0b794daa0f1254ab09c6", checked := Tryz.checked }
namespace Rows
def none {H : Type} : Left H := { results := [], args := [] }

/-- 'laws.FnPrincipalGenus': WHATEVER THE INPUT: true; the input reads as it did. -/
def fnPrincipalGenusSpec : ChangeSpec := { name := "fnPrincipalGenus", fn := fun _ => fun
  | [d1, d2] => { results := [.lit (.bool true)], args := [d1, d2] }
  | _ => none }
def fnPrincipalGenusRow : OpenClaim := { program := "yteehcjjhkphdnaagreat", sum := "a1afe6e22ed004ced1491521b00d4bb2cc36e33ccdda0b794daa0f1254ab09c6", func := "loop.example/g01066/laws.FnPrincipalGenus", spec := "fnPrincipalGenus", unfollowed := true, recurses := true, plainKeys := false, apart := false }
def FnPrincipalGenusSaid : Prop := fnPrincipalGenusRow.holds Tryz.pinned (OpenSpec.ofChange fnPrincipalGenusSpec)

/-- ITS FALSE NEIGHBOUR: 'it returns false'. Refute it at one input. -/
def fnPrincipalGenusWrong : ChangeSpec := { name := "fnPrincipalGenus", fn := fun _ => fun
  | [d1, d2] => { results := [.lit (.bool false)], args := [d1, d2] }
  | _ => none }
def FnPrincipalGenusWrongFalsely : Prop := fnPrincipalGenusRow.holds Tryz.pinned (OpenSpec.ofChange fnPrincipalGenusWrong)

/-- 'laws.FnRelations': WHATEVER THE INPUT: true; the input reads as it did. -/
def fnRelationsSpec : ChangeSpec := { name := "fnRelations", fn := fun _ => fun
  | [d1, d2] => { results := [.lit (.bool true)], args := [d1, d2] }
  | _ => none }
def fnRelationsRow : OpenClaim := { program := "yteehcjjhkphdnaagreat", sum := "a1afe6e22ed004ced1491521b00d4bb2cc36e33ccdda0b794daa0f1254ab09c6", func := "loop.example/g01066/laws.FnRelations", spec := "fnRelations", unfollowed := true, recurses := true, plainKeys := false, apart := false }
def FnRelationsSaid : Prop := fnRelationsRow.holds Tryz.pinned (OpenSpec.ofChange fnRelationsSpec)

/-- ITS FALSE NEIGHBOUR: 'it returns false'. Refute it at one input. -/
def fnRelationsWrong : ChangeSpec := { name := "fnRelations", fn := fun _ => fun
  | [d1, d2] => { results := [.lit (.bool false)], args := [d1, d2] }
  | _ => none }
def FnRelationsWrongFalsely : Prop := fnRelationsRow.holds Tryz.pinned (OpenSpec.ofChange fnRelationsWrong)

/-- 'laws.FnGenera': WHATEVER THE INPUT: true; the input reads as it did. -/
def fnGeneraSpec : ChangeSpec := { name := "fnGenera", fn := fun _ => fun
  | [d1, d2] => { results := [.lit (.bool true)], args := [d1, d2] }
  | _ => none }
def fnGeneraRow : OpenClaim := { program := "yteehcjjhkphdnaagreat", sum := "a1afe6e22ed004ced1491521b00d4bb2cc36e33ccdda0b794daa0f1254ab09c6", func := "loop.example/g01066/laws.FnGenera", spec := "fnGenera", unfollowed := true, recurses := true, plainKeys := false, apart := false }
def FnGeneraSaid : Prop := fnGeneraRow.holds Tryz.pinned (OpenSpec.ofChange fnGeneraSpec)

/-- ITS FALSE NEIGHBOUR: 'it returns false'. Refute it at one input. -/
def fnGeneraWrong : ChangeSpec := { name := "fnGenera", fn := fun _ => fun
  | [d1, d2] => { results := [.lit (.bool false)], args := [d1, d2] }
  | _ => none }
def FnGeneraWrongFalsely : Prop := fnGeneraRow.holds Tryz.pinned (OpenSpec.ofChange fnGeneraWrong)

/-- 'laws.FnCosets': WHATEVER THE INPUT: true; the input reads as it did. -/
def fnCosetsSpec : ChangeSpec := { name := "fnCosets", fn := fun _ => fun
  | [d1, d2] => { results := [.lit (.bool true)], args := [d1, d2] }
  | _ => none }
def fnCosetsRow : OpenClaim := { program := "yteehcjjhkphdnaagreat", sum := "a1afe6e22ed004ced1491521b00d4bb2cc36e33ccdda0b794daa0f1254ab09c6", func := "loop.example/g01066/laws.FnCosets", spec := "fnCosets", plainKeys := false, apart := false }
def FnCosetsSaid : Prop := fnCosetsRow.holds Tryz.pinned (OpenSpec.ofChange fnCosetsSpec)

/-- ITS FALSE NEIGHBOUR: 'it returns false'. Refute it at one input. -/
def fnCosetsWrong : ChangeSpec := { name := "fnCosets", fn := fun _ => fun
  | [d1, d2] => { results := [.lit (.bool false)], args := [d1, d2] }
  | _ => none }
def FnCosetsWrongFalsely : Prop := fnCosetsRow.holds Tryz.pinned (OpenSpec.ofChange fnCosetsWrong)

/-- 'laws.FnClassRoots': WHATEVER THE INPUT: true; the input reads as it did. -/
def fnClassRootsSpec : ChangeSpec := { name := "fnClassRoots", fn := fun _ => fun
  | [d1, d2] => { results := [.lit (.bool true)], args := [d1, d2] }
  | _ => none }
def fnClassRootsRow : OpenClaim := { program := "yteehcjjhkphdnaagreat", sum := "a1afe6e22ed004ced1491521b00d4bb2cc36e33ccdda0b794daa0f1254ab09c6", func := "loop.example/g01066/laws.FnClassRoots", spec := "fnClassRoots", unfollowed := true, recurses := true, plainKeys := false, apart := false }
def FnClassRootsSaid : Prop := fnClassRootsRow.holds Tryz.pinned (OpenSpec.ofChange fnClassRootsSpec)

/-- ITS FALSE NEIGHBOUR: 'it returns false'. Refute it at one input. -/
def fnClassRootsWrong : ChangeSpec := { name := "fnClassRoots", fn := fun _ => fun
  | [d1, d2] => { results := [.lit (.bool false)], args := [d1, d2] }
  | _ => none }
def FnClassRootsWrongFalsely : Prop := fnClassRootsRow.holds Tryz.pinned (OpenSpec.ofChange fnClassRootsWrong)

/-- 'laws.FnLogarithms': WHATEVER THE INPUT: true; the input reads as it did. -/
def fnLogarithmsSpec : ChangeSpec := { name := "fnLogarithms", fn := fun _ => fun
  | [d1, d2] => { results := [.lit (.bool true)], args := [d1, d2] }
  | _ => none }
def fnLogarithmsRow : OpenClaim := { program := "yteehcjjhkphdnaagreat", sum := "a1afe6e22ed004ced1491521b00d4bb2cc36e33ccdda0b794daa0f1254ab09c6", func := "loop.example/g01066/laws.FnLogarithms", spec := "fnLogarithms", plainKeys := false, apart := false }
def FnLogarithmsSaid : Prop := fnLogarithmsRow.holds Tryz.pinned (OpenSpec.ofChange fnLogarithmsSpec)

/-- ITS FALSE NEIGHBOUR: 'it returns false'. Refute it at one input. -/
def fnLogarithmsWrong : ChangeSpec := { name := "fnLogarithms", fn := fun _ => fun
  | [d1, d2] => { results := [.lit (.bool false)], args := [d1, d2] }
  | _ => none }
def FnLogarithmsWrongFalsely : Prop := fnLogarithmsRow.holds Tryz.pinned (OpenSpec.ofChange fnLogarithmsWrong)

/-- 'laws.FnAmbiguousSplits': WHATEVER THE INPUT: true; the input reads as it did. -/
def fnAmbiguousSplitsSpec : ChangeSpec := { name := "fnAmbiguousSplits", fn := fun _ => fun
  | [d1, d2] => { results := [.lit (.bool true)], args := [d1, d2] }
  | _ => none }
def fnAmbiguousSplitsRow : OpenClaim := { program := "yteehcjjhkphdnaagreat", sum := "a1afe6e22ed004ced1491521b00d4bb2cc36e33ccdda0b794daa0f1254ab09c6", func := "loop.example/g01066/laws.FnAmbiguousSplits", spec := "fnAmbiguousSplits", unfollowed := true, recurses := true, plainKeys := false, apart := false }
def FnAmbiguousSplitsSaid : Prop := fnAmbiguousSplitsRow.holds Tryz.pinned (OpenSpec.ofChange fnAmbiguousSplitsSpec)

/-- ITS FALSE NEIGHBOUR: 'it returns false'. Refute it at one input. -/
def fnAmbiguousSplitsWrong : ChangeSpec := { name := "fnAmbiguousSplits", fn := fun _ => fun
  | [d1, d2] => { results := [.lit (.bool false)], args := [d1, d2] }
  | _ => none }
def FnAmbiguousSplitsWrongFalsely : Prop := fnAmbiguousSplitsRow.holds Tryz.pinned (OpenSpec.ofChange fnAmbiguousSplitsWrong)

/- THE SECOND FORM. 'bulk': how many values and letters a reading holds, each counted each time it is reached (what is shared counts as often as it is met; a slice's spare places count too). A statement '..UptoSaid' is the law's where the arguments, and the package variables that the reading takes, are together of bulk at most 1048576: NARROWER than '..Said'. Prove '..Said' where nothing that the law and all that it calls make is longer than what came in: it says more and counts as full. Else prove '..UptoSaid'. A law counts once. -/
mutual
def uptoBulk {H : Type} : DataW H → Nat
  | .lit (.string bytes) => bytes.length + 1
  | .lit _ => 1
  | .nil => 1
  | .ptr d => uptoBulk d + 1
  | .slice elems spare => uptoBulkAll elems + uptoBulkAll spare + 1
  | .agg parts => uptoBulkAll parts + 1
  | .iface _ d => uptoBulk d + 1
  | .map entries => uptoBulkEntries entries + 1
  | .held _ => 1
def uptoBulkAll {H : Type} : List (DataW H) → Nat
  | [] => 0
  | d :: r => uptoBulk d + uptoBulkAll r
def uptoBulkEntries {H : Type} : List (Lit × DataW H) → Nat
  | [] => 0
  | x :: r => uptoBulkEntry x + uptoBulkEntries r
def uptoBulkEntry {H : Type} : Lit × DataW H → Nat
  | (.string bytes, d) => bytes.length + uptoBulk d + 1
  | (_, d) => uptoBulk d + 1
 end
def uptoSmall : (H : Type) → List (DataW H) → Bool := fun _ ds => decide (uptoBulkAll ds ≤ 1048576)
def OpenSpec.upto (s : _root_.Go.ChangeSpec) : _root_.Go.OpenSpec := { _root_.Go.OpenSpec.ofChange s with cond := some uptoSmall }

/-- 'laws.FnPrincipalGenus', WHERE WHAT IT READS IS OF BULK AT MOST 1048576: true; the input reads as it did. -/
def fnPrincipalGenusUptoRow : OpenClaim := { program := "yteehcjjhkphdnaagreat", sum := "a1afe6e22ed004ced1491521b00d4bb2cc36e33ccdda0b794daa0f1254ab09c6", func := "loop.example/g01066/laws.FnPrincipalGenus", spec := "fnPrincipalGenus", unfollowed := true, recurses := true, plainKeys := false, apart := false, narrowed := true }
def FnPrincipalGenusUptoSaid : Prop := fnPrincipalGenusUptoRow.holds Tryz.pinned (OpenSpec.upto fnPrincipalGenusSpec)

/-- 'laws.FnRelations', WHERE WHAT IT READS IS OF BULK AT MOST 1048576: true; the input reads as it did. -/
def fnRelationsUptoRow : OpenClaim := { program := "yteehcjjhkphdnaagreat", sum := "a1afe6e22ed004ced1491521b00d4bb2cc36e33ccdda0b794daa0f1254ab09c6", func := "loop.example/g01066/laws.FnRelations", spec := "fnRelations", unfollowed := true, recurses := true, plainKeys := false, apart := false, narrowed := true }
def FnRelationsUptoSaid : Prop := fnRelationsUptoRow.holds Tryz.pinned (OpenSpec.upto fnRelationsSpec)

/-- 'laws.FnGenera', WHERE WHAT IT READS IS OF BULK AT MOST 1048576: true; the input reads as it did. -/
def fnGeneraUptoRow : OpenClaim := { program := "yteehcjjhkphdnaagreat", sum := "a1afe6e22ed004ced1491521b00d4bb2cc36e33ccdda0b794daa0f1254ab09c6", func := "loop.example/g01066/laws.FnGenera", spec := "fnGenera", unfollowed := true, recurses := true, plainKeys := false, apart := false, narrowed := true }
def FnGeneraUptoSaid : Prop := fnGeneraUptoRow.holds Tryz.pinned (OpenSpec.upto fnGeneraSpec)

/-- 'laws.FnCosets', WHERE WHAT IT READS IS OF BULK AT MOST 1048576: true; the input reads as it did. -/
def fnCosetsUptoRow : OpenClaim := { program := "yteehcjjhkphdnaagreat", sum := "a1afe6e22ed004ced1491521b00d4bb2cc36e33ccdda0b794daa0f1254ab09c6", func := "loop.example/g01066/laws.FnCosets", spec := "fnCosets", plainKeys := false, apart := false, narrowed := true }
def FnCosetsUptoSaid : Prop := fnCosetsUptoRow.holds Tryz.pinned (OpenSpec.upto fnCosetsSpec)

/-- 'laws.FnClassRoots', WHERE WHAT IT READS IS OF BULK AT MOST 1048576: true; the input reads as it did. -/
def fnClassRootsUptoRow : OpenClaim := { program := "yteehcjjhkphdnaagreat", sum := "a1afe6e22ed004ced1491521b00d4bb2cc36e33ccdda0b794daa0f1254ab09c6", func := "loop.example/g01066/laws.FnClassRoots", spec := "fnClassRoots", unfollowed := true, recurses := true, plainKeys := false, apart := false, narrowed := true }
def FnClassRootsUptoSaid : Prop := fnClassRootsUptoRow.holds Tryz.pinned (OpenSpec.upto fnClassRootsSpec)

/-- 'laws.FnLogarithms', WHERE WHAT IT READS IS OF BULK AT MOST 1048576: true; the input reads as it did. -/
def fnLogarithmsUptoRow : OpenClaim := { program := "yteehcjjhkphdnaagreat", sum := "a1afe6e22ed004ced1491521b00d4bb2cc36e33ccdda0b794daa0f1254ab09c6", func := "loop.example/g01066/laws.FnLogarithms", spec := "fnLogarithms", plainKeys := false, apart := false, narrowed := true }
def FnLogarithmsUptoSaid : Prop := fnLogarithmsUptoRow.holds Tryz.pinned (OpenSpec.upto fnLogarithmsSpec)

/-- 'laws.FnAmbiguousSplits', WHERE WHAT IT READS IS OF BULK AT MOST 1048576: true; the input reads as it did. -/
def fnAmbiguousSplitsUptoRow : OpenClaim := { program := "yteehcjjhkphdnaagreat", sum := "a1afe6e22ed004ced1491521b00d4bb2cc36e33ccdda0b794daa0f1254ab09c6", func := "loop.example/g01066/laws.FnAmbiguousSplits", spec := "fnAmbiguousSplits", unfollowed := true, recurses := true, plainKeys := false, apart := false, narrowed := true }
def FnAmbiguousSplitsUptoSaid : Prop := fnAmbiguousSplitsUptoRow.holds Tryz.pinned (OpenSpec.upto fnAmbiguousSplitsSpec)

end Rows
end Go.Proofs.YteehcjjhkphdnaaGreat
