/-
  No cell of these rows narrows 'for every input' (looked for: loops, veiled, ifaces, maps, wideKeys, modest, calm, conditions, laid).
  DERIVED. THE GIVEN ROWS OF THIS SEAT. 12 by the template 'for every input the law returns true; each argument reads behind the call as it read before'; 0 by the template 'total and deterministic' (their statements: YtononfokhdmofaaTotals.lean).
  GIVEN WITH THE SEED: the statements are not yours to turn. If you find one false, say at which input.
  Laid BY PROGRAM, IN A SANDBOX (cutbox-rows.mjs): the forced cells as the released guide's own fill.sh prints them over the translation 45df3ed295a3d7ac… (all of the seat's roots in one cut). By AI agents, Wed Nov 11 2026. No macro, syntax, notation, axiom, sorry.
-/
import Derived.Test.YtononfokhdmofaaChecked
import GoSem.Claim
import GoSem.ClaimJoined
import GoSem.ClaimMapViews
import Derived.JoinedTies
import Derived.KernelRfl
namespace Go.Proofs.Ytononfokhdmofaa
/- THE CELL 'sum', in the pinned program and in every row, IS THE sha256 OF THE DUMP (.gsa) THAT YtononfokhdmofaaProg.lean LOADS. Nothing in Lean hashes anything: it is a label: what it is worth is what the hold of that sum in a sandbox is worth. -/
noncomputable def Try.pinned : Pinned := { name := "ytononfokhdmofaa", sum := "45df3ed295a3d7ac018ab9267f130d8203d10b4b1d4f75a5edd82db745758da4", checked := Try.checked }
namespace Rows
def none {H : Type} : Left H := { results := [], args := [] }

/-- 'laws.FnExactIsSquareClass': WHATEVER THE INPUT: true; the input reads as it did. -/
def fnExactIsSquareClassSpec : ChangeSpec := { name := "fnExactIsSquareClass", fn := fun _ => fun
  | [d] => { results := [.lit (.bool true)], args := [d] }
  | _ => none }
def fnExactIsSquareClassRow : OpenClaim := { program := "ytononfokhdmofaa", sum := "45df3ed295a3d7ac018ab9267f130d8203d10b4b1d4f75a5edd82db745758da4", func := "loop.example/g01066/laws.FnExactIsSquareClass", spec := "fnExactIsSquareClass", plainKeys := false, apart := false }
def FnExactIsSquareClassSaid : Prop := fnExactIsSquareClassRow.holds Try.pinned (OpenSpec.ofChange fnExactIsSquareClassSpec)

/-- ITS FALSE NEIGHBOUR: 'it returns false'. Refute it at one input. -/
def fnExactIsSquareClassWrong : ChangeSpec := { name := "fnExactIsSquareClass", fn := fun _ => fun
  | [d] => { results := [.lit (.bool false)], args := [d] }
  | _ => none }
def FnExactIsSquareClassWrongFalsely : Prop := fnExactIsSquareClassRow.holds Try.pinned (OpenSpec.ofChange fnExactIsSquareClassWrong)

/-- 'laws.FnExactClassesOfOrder': WHATEVER THE INPUT: true; the input reads as it did. -/
def fnExactClassesOfOrderSpec : ChangeSpec := { name := "fnExactClassesOfOrder", fn := fun _ => fun
  | [d1, d2] => { results := [.lit (.bool true)], args := [d1, d2] }
  | _ => none }
def fnExactClassesOfOrderRow : OpenClaim := { program := "ytononfokhdmofaa", sum := "45df3ed295a3d7ac018ab9267f130d8203d10b4b1d4f75a5edd82db745758da4", func := "loop.example/g01066/laws.FnExactClassesOfOrder", spec := "fnExactClassesOfOrder", plainKeys := false, apart := false }
def FnExactClassesOfOrderSaid : Prop := fnExactClassesOfOrderRow.holds Try.pinned (OpenSpec.ofChange fnExactClassesOfOrderSpec)

/-- ITS FALSE NEIGHBOUR: 'it returns false'. Refute it at one input. -/
def fnExactClassesOfOrderWrong : ChangeSpec := { name := "fnExactClassesOfOrder", fn := fun _ => fun
  | [d1, d2] => { results := [.lit (.bool false)], args := [d1, d2] }
  | _ => none }
def FnExactClassesOfOrderWrongFalsely : Prop := fnExactClassesOfOrderRow.holds Try.pinned (OpenSpec.ofChange fnExactClassesOfOrderWrong)

/-- 'laws.FnExactFourRank': WHATEVER THE INPUT: true; the input reads as it did. -/
def fnExactFourRankSpec : ChangeSpec := { name := "fnExactFourRank", fn := fun _ => fun
  | [d] => { results := [.lit (.bool true)], args := [d] }
  | _ => none }
def fnExactFourRankRow : OpenClaim := { program := "ytononfokhdmofaa", sum := "45df3ed295a3d7ac018ab9267f130d8203d10b4b1d4f75a5edd82db745758da4", func := "loop.example/g01066/laws.FnExactFourRank", spec := "fnExactFourRank", unfollowed := true, recurses := true, plainKeys := false, apart := false }
def FnExactFourRankSaid : Prop := fnExactFourRankRow.holds Try.pinned (OpenSpec.ofChange fnExactFourRankSpec)

/-- ITS FALSE NEIGHBOUR: 'it returns false'. Refute it at one input. -/
def fnExactFourRankWrong : ChangeSpec := { name := "fnExactFourRank", fn := fun _ => fun
  | [d] => { results := [.lit (.bool false)], args := [d] }
  | _ => none }
def FnExactFourRankWrongFalsely : Prop := fnExactFourRankRow.holds Try.pinned (OpenSpec.ofChange fnExactFourRankWrong)

/-- 'laws.FnExactGenusCount': WHATEVER THE INPUT: true; the input reads as it did. -/
def fnExactGenusCountSpec : ChangeSpec := { name := "fnExactGenusCount", fn := fun _ => fun
  | [d] => { results := [.lit (.bool true)], args := [d] }
  | _ => none }
def fnExactGenusCountRow : OpenClaim := { program := "ytononfokhdmofaa", sum := "45df3ed295a3d7ac018ab9267f130d8203d10b4b1d4f75a5edd82db745758da4", func := "loop.example/g01066/laws.FnExactGenusCount", spec := "fnExactGenusCount", plainKeys := false, apart := false }
def FnExactGenusCountSaid : Prop := fnExactGenusCountRow.holds Try.pinned (OpenSpec.ofChange fnExactGenusCountSpec)

/-- ITS FALSE NEIGHBOUR: 'it returns false'. Refute it at one input. -/
def fnExactGenusCountWrong : ChangeSpec := { name := "fnExactGenusCount", fn := fun _ => fun
  | [d] => { results := [.lit (.bool false)], args := [d] }
  | _ => none }
def FnExactGenusCountWrongFalsely : Prop := fnExactGenusCountRow.holds Try.pinned (OpenSpec.ofChange fnExactGenusCountWrong)

/-- 'laws.FnExactSquareCoset': WHATEVER THE INPUT: true; the input reads as it did. -/
def fnExactSquareCosetSpec : ChangeSpec := { name := "fnExactSquareCoset", fn := fun _ => fun
  | [d] => { results := [.lit (.bool true)], args := [d] }
  | _ => none }
def fnExactSquareCosetRow : OpenClaim := { program := "ytononfokhdmofaa", sum := "45df3ed295a3d7ac018ab9267f130d8203d10b4b1d4f75a5edd82db745758da4", func := "loop.example/g01066/laws.FnExactSquareCoset", spec := "fnExactSquareCoset", unfollowed := true, recurses := true, plainKeys := false, apart := false }
def FnExactSquareCosetSaid : Prop := fnExactSquareCosetRow.holds Try.pinned (OpenSpec.ofChange fnExactSquareCosetSpec)

/-- ITS FALSE NEIGHBOUR: 'it returns false'. Refute it at one input. -/
def fnExactSquareCosetWrong : ChangeSpec := { name := "fnExactSquareCoset", fn := fun _ => fun
  | [d] => { results := [.lit (.bool false)], args := [d] }
  | _ => none }
def FnExactSquareCosetWrongFalsely : Prop := fnExactSquareCosetRow.holds Try.pinned (OpenSpec.ofChange fnExactSquareCosetWrong)

/-- 'laws.FnExactPrincipalGenus': WHATEVER THE INPUT: true; the input reads as it did. -/
def fnExactPrincipalGenusSpec : ChangeSpec := { name := "fnExactPrincipalGenus", fn := fun _ => fun
  | [d] => { results := [.lit (.bool true)], args := [d] }
  | _ => none }
def fnExactPrincipalGenusRow : OpenClaim := { program := "ytononfokhdmofaa", sum := "45df3ed295a3d7ac018ab9267f130d8203d10b4b1d4f75a5edd82db745758da4", func := "loop.example/g01066/laws.FnExactPrincipalGenus", spec := "fnExactPrincipalGenus", plainKeys := false, apart := false }
def FnExactPrincipalGenusSaid : Prop := fnExactPrincipalGenusRow.holds Try.pinned (OpenSpec.ofChange fnExactPrincipalGenusSpec)

/-- ITS FALSE NEIGHBOUR: 'it returns false'. Refute it at one input. -/
def fnExactPrincipalGenusWrong : ChangeSpec := { name := "fnExactPrincipalGenus", fn := fun _ => fun
  | [d] => { results := [.lit (.bool false)], args := [d] }
  | _ => none }
def FnExactPrincipalGenusWrongFalsely : Prop := fnExactPrincipalGenusRow.holds Try.pinned (OpenSpec.ofChange fnExactPrincipalGenusWrong)

/-- 'laws.FnExactGeneratedClasses': WHATEVER THE INPUT: true; the input reads as it did. -/
def fnExactGeneratedClassesSpec : ChangeSpec := { name := "fnExactGeneratedClasses", fn := fun _ => fun
  | [d1, d2] => { results := [.lit (.bool true)], args := [d1, d2] }
  | _ => none }
def fnExactGeneratedClassesRow : OpenClaim := { program := "ytononfokhdmofaa", sum := "45df3ed295a3d7ac018ab9267f130d8203d10b4b1d4f75a5edd82db745758da4", func := "loop.example/g01066/laws.FnExactGeneratedClasses", spec := "fnExactGeneratedClasses", plainKeys := false, apart := false }
def FnExactGeneratedClassesSaid : Prop := fnExactGeneratedClassesRow.holds Try.pinned (OpenSpec.ofChange fnExactGeneratedClassesSpec)

/-- ITS FALSE NEIGHBOUR: 'it returns false'. Refute it at one input. -/
def fnExactGeneratedClassesWrong : ChangeSpec := { name := "fnExactGeneratedClasses", fn := fun _ => fun
  | [d1, d2] => { results := [.lit (.bool false)], args := [d1, d2] }
  | _ => none }
def FnExactGeneratedClassesWrongFalsely : Prop := fnExactGeneratedClassesRow.holds Try.pinned (OpenSpec.ofChange fnExactGeneratedClassesWrong)

/-- 'laws.FnExactGenusOf': WHATEVER THE INPUT: true; the input reads as it did. -/
def fnExactGenusOfSpec : ChangeSpec := { name := "fnExactGenusOf", fn := fun _ => fun
  | [d] => { results := [.lit (.bool true)], args := [d] }
  | _ => none }
def fnExactGenusOfRow : OpenClaim := { program := "ytononfokhdmofaa", sum := "45df3ed295a3d7ac018ab9267f130d8203d10b4b1d4f75a5edd82db745758da4", func := "loop.example/g01066/laws.FnExactGenusOf", spec := "fnExactGenusOf", plainKeys := false, apart := false }
def FnExactGenusOfSaid : Prop := fnExactGenusOfRow.holds Try.pinned (OpenSpec.ofChange fnExactGenusOfSpec)

/-- ITS FALSE NEIGHBOUR: 'it returns false'. Refute it at one input. -/
def fnExactGenusOfWrong : ChangeSpec := { name := "fnExactGenusOf", fn := fun _ => fun
  | [d] => { results := [.lit (.bool false)], args := [d] }
  | _ => none }
def FnExactGenusOfWrongFalsely : Prop := fnExactGenusOfRow.holds Try.pinned (OpenSpec.ofChange fnExactGenusOfWrong)

/-- 'laws.FnExactGenusRepresenting': WHATEVER THE INPUT: true; the input reads as it did. -/
def fnExactGenusRepresentingSpec : ChangeSpec := { name := "fnExactGenusRepresenting", fn := fun _ => fun
  | [d1, d2] => { results := [.lit (.bool true)], args := [d1, d2] }
  | _ => none }
def fnExactGenusRepresentingRow : OpenClaim := { program := "ytononfokhdmofaa", sum := "45df3ed295a3d7ac018ab9267f130d8203d10b4b1d4f75a5edd82db745758da4", func := "loop.example/g01066/laws.FnExactGenusRepresenting", spec := "fnExactGenusRepresenting", plainKeys := false, apart := false }
def FnExactGenusRepresentingSaid : Prop := fnExactGenusRepresentingRow.holds Try.pinned (OpenSpec.ofChange fnExactGenusRepresentingSpec)

/-- ITS FALSE NEIGHBOUR: 'it returns false'. Refute it at one input. -/
def fnExactGenusRepresentingWrong : ChangeSpec := { name := "fnExactGenusRepresenting", fn := fun _ => fun
  | [d1, d2] => { results := [.lit (.bool false)], args := [d1, d2] }
  | _ => none }
def FnExactGenusRepresentingWrongFalsely : Prop := fnExactGenusRepresentingRow.holds Try.pinned (OpenSpec.ofChange fnExactGenusRepresentingWrong)

/-- 'laws.FnExactGenusWith': WHATEVER THE INPUT: true; the input reads as it did. -/
def fnExactGenusWithSpec : ChangeSpec := { name := "fnExactGenusWith", fn := fun _ => fun
  | [d1, d2] => { results := [.lit (.bool true)], args := [d1, d2] }
  | _ => none }
def fnExactGenusWithRow : OpenClaim := { program := "ytononfokhdmofaa", sum := "45df3ed295a3d7ac018ab9267f130d8203d10b4b1d4f75a5edd82db745758da4", func := "loop.example/g01066/laws.FnExactGenusWith", spec := "fnExactGenusWith", plainKeys := false, apart := false }
def FnExactGenusWithSaid : Prop := fnExactGenusWithRow.holds Try.pinned (OpenSpec.ofChange fnExactGenusWithSpec)

/-- ITS FALSE NEIGHBOUR: 'it returns false'. Refute it at one input. -/
def fnExactGenusWithWrong : ChangeSpec := { name := "fnExactGenusWith", fn := fun _ => fun
  | [d1, d2] => { results := [.lit (.bool false)], args := [d1, d2] }
  | _ => none }
def FnExactGenusWithWrongFalsely : Prop := fnExactGenusWithRow.holds Try.pinned (OpenSpec.ofChange fnExactGenusWithWrong)

/-- 'laws.FnExactGeneraOf': WHATEVER THE INPUT: true; the input reads as it did. -/
def fnExactGeneraOfSpec : ChangeSpec := { name := "fnExactGeneraOf", fn := fun _ => fun
  | [d] => { results := [.lit (.bool true)], args := [d] }
  | _ => none }
def fnExactGeneraOfRow : OpenClaim := { program := "ytononfokhdmofaa", sum := "45df3ed295a3d7ac018ab9267f130d8203d10b4b1d4f75a5edd82db745758da4", func := "loop.example/g01066/laws.FnExactGeneraOf", spec := "fnExactGeneraOf", plainKeys := false, apart := false }
def FnExactGeneraOfSaid : Prop := fnExactGeneraOfRow.holds Try.pinned (OpenSpec.ofChange fnExactGeneraOfSpec)

/-- ITS FALSE NEIGHBOUR: 'it returns false'. Refute it at one input. -/
def fnExactGeneraOfWrong : ChangeSpec := { name := "fnExactGeneraOf", fn := fun _ => fun
  | [d] => { results := [.lit (.bool false)], args := [d] }
  | _ => none }
def FnExactGeneraOfWrongFalsely : Prop := fnExactGeneraOfRow.holds Try.pinned (OpenSpec.ofChange fnExactGeneraOfWrong)

/-- 'laws.FnExactCosetsOf': WHATEVER THE INPUT: true; the input reads as it did. -/
def fnExactCosetsOfSpec : ChangeSpec := { name := "fnExactCosetsOf", fn := fun _ => fun
  | [d1, d2] => { results := [.lit (.bool true)], args := [d1, d2] }
  | _ => none }
def fnExactCosetsOfRow : OpenClaim := { program := "ytononfokhdmofaa", sum := "45df3ed295a3d7ac018ab9267f130d8203d10b4b1d4f75a5edd82db745758da4", func := "loop.example/g01066/laws.FnExactCosetsOf", spec := "fnExactCosetsOf", plainKeys := false, apart := false }
def FnExactCosetsOfSaid : Prop := fnExactCosetsOfRow.holds Try.pinned (OpenSpec.ofChange fnExactCosetsOfSpec)

/-- ITS FALSE NEIGHBOUR: 'it returns false'. Refute it at one input. -/
def fnExactCosetsOfWrong : ChangeSpec := { name := "fnExactCosetsOf", fn := fun _ => fun
  | [d1, d2] => { results := [.lit (.bool false)], args := [d1, d2] }
  | _ => none }
def FnExactCosetsOfWrongFalsely : Prop := fnExactCosetsOfRow.holds Try.pinned (OpenSpec.ofChange fnExactCosetsOfWrong)

/- THE SECOND FORM. 'bulk': how many values and letters a reading holds, each counted each time it is reached (what is shared counts as often as it is met; a slice's spare places count too). A statement '..UptoSaid' is the law's where the arguments, and the package variables that the reading takes, are together of bulk at most 1048576: NARROWER than '..Said'. Prove '..Said' where nothing that the law and all that it calls make is longer than what came in: it says more and counts as full. Else prove '..UptoSaid'. A law counts once. -/
mutual
def uptoBulk {H : Type} : DataW H → Nat
  | .lit (.string bytes) => bytes.length + 1
  | .lit _ => 1
  | .nil => 1
  | .ptr d => uptoBulk d + 1
  | .slice elems spare => uptoBulkAll elems + uptoBulkAll spare + 1
  | .agg parts => uptoBulkAll parts + 1
  | .iface _ d => uptoBulk d + 1
  | .map entries => uptoBulkEntries entries + 1
  | .held _ => 1
def uptoBulkAll {H : Type} : List (DataW H) → Nat
  | [] => 0
  | d :: r => uptoBulk d + uptoBulkAll r
def uptoBulkEntries {H : Type} : List (Lit × DataW H) → Nat
  | [] => 0
  | x :: r => uptoBulkEntry x + uptoBulkEntries r
def uptoBulkEntry {H : Type} : Lit × DataW H → Nat
  | (.string bytes, d) => bytes.length + uptoBulk d + 1
  | (_, d) => uptoBulk d + 1
 end
def uptoSmall : (H : Type) → List (DataW H) → Bool := fun _ ds => decide (uptoBulkAll ds ≤ 1048576)
def OpenSpec.upto (s : _root_.Go.ChangeSpec) : _root_.Go.OpenSpec := { _root_.Go.OpenSpec.ofChange s with cond := some uptoSmall }

/-- 'laws.FnExactIsSquareClass', WHERE WHAT IT READS IS OF BULK AT MOST 1048576: true; the input reads as it did. -/
def fnExactIsSquareClassUptoRow : OpenClaim := { program := "ytononfokhdmofaa", sum := "45df3ed295a3d7ac018ab9267f130d8203d10b4b1d4f75a5edd82db745758da4", func := "loop.example/g01066/laws.FnExactIsSquareClass", spec := "fnExactIsSquareClass", plainKeys := false, apart := false, narrowed := true }
def FnExactIsSquareClassUptoSaid : Prop := fnExactIsSquareClassUptoRow.holds Try.pinned (OpenSpec.upto fnExactIsSquareClassSpec)

/-- 'laws.FnExactClassesOfOrder', WHERE WHAT IT READS IS OF BULK AT MOST 1048576: true; the input reads as it did. -/
def fnExactClassesOfOrderUptoRow : OpenClaim := { program := "ytononfokhdmofaa", sum := "45df3ed295a3d7ac018ab9267f130d8203d10b4b1d4f75a5edd82db745758da4", func := "loop.example/g01066/laws.FnExactClassesOfOrder", spec := "fnExactClassesOfOrder", plainKeys := false, apart := false, narrowed := true }
def FnExactClassesOfOrderUptoSaid : Prop := fnExactClassesOfOrderUptoRow.holds Try.pinned (OpenSpec.upto fnExactClassesOfOrderSpec)

/-- 'laws.FnExactFourRank', WHERE WHAT IT READS IS OF BULK AT MOST 1048576: true; the input reads as it did. -/
def fnExactFourRankUptoRow : OpenClaim := { program := "ytononfokhdmofaa", sum := "45df3ed295a3d7ac018ab9267f130d8203d10b4b1d4f75a5edd82db745758da4", func := "loop.example/g01066/laws.FnExactFourRank", spec := "fnExactFourRank", unfollowed := true, recurses := true, plainKeys := false, apart := false, narrowed := true }
def FnExactFourRankUptoSaid : Prop := fnExactFourRankUptoRow.holds Try.pinned (OpenSpec.upto fnExactFourRankSpec)

/-- 'laws.FnExactGenusCount', WHERE WHAT IT READS IS OF BULK AT MOST 1048576: true; the input reads as it did. -/
def fnExactGenusCountUptoRow : OpenClaim := { program := "ytononfokhdmofaa", sum := "45df3ed295a3d7ac018ab9267f130d8203d10b4b1d4f75a5edd82db745758da4", func := "loop.example/g01066/laws.FnExactGenusCount", spec := "fnExactGenusCount", plainKeys := false, apart := false, narrowed := true }
def FnExactGenusCountUptoSaid : Prop := fnExactGenusCountUptoRow.holds Try.pinned (OpenSpec.upto fnExactGenusCountSpec)

/-- 'laws.FnExactSquareCoset', WHERE WHAT IT READS IS OF BULK AT MOST 1048576: true; the input reads as it did. -/
def fnExactSquareCosetUptoRow : OpenClaim := { program := "ytononfokhdmofaa", sum := "45df3ed295a3d7ac018ab9267f130d8203d10b4b1d4f75a5edd82db745758da4", func := "loop.example/g01066/laws.FnExactSquareCoset", spec := "fnExactSquareCoset", unfollowed := true, recurses := true, plainKeys := false, apart := false, narrowed := true }
def FnExactSquareCosetUptoSaid : Prop := fnExactSquareCosetUptoRow.holds Try.pinned (OpenSpec.upto fnExactSquareCosetSpec)

/-- 'laws.FnExactPrincipalGenus', WHERE WHAT IT READS IS OF BULK AT MOST 1048576: true; the input reads as it did. -/
def fnExactPrincipalGenusUptoRow : OpenClaim := { program := "ytononfokhdmofaa", sum := "45df3ed295a3d7ac018ab9267f130d8203d10b4b1d4f75a5edd82db745758da4", func := "loop.example/g01066/laws.FnExactPrincipalGenus", spec := "fnExactPrincipalGenus", plainKeys := false, apart := false, narrowed := true }
def FnExactPrincipalGenusUptoSaid : Prop := fnExactPrincipalGenusUptoRow.holds Try.pinned (OpenSpec.upto fnExactPrincipalGenusSpec)

/-- 'laws.FnExactGeneratedClasses', WHERE WHAT IT READS IS OF BULK AT MOST 1048576: true; the input reads as it did. -/
def fnExactGeneratedClassesUptoRow : OpenClaim := { program := "ytononfokhdmofaa", sum := "45df3ed295a3d7ac018ab9267f130d8203d10b4b1d4f75a5edd82db745758da4", func := "loop.example/g01066/laws.FnExactGeneratedClasses", spec := "fnExactGeneratedClasses", plainKeys := false, apart := false, narrowed := true }
def FnExactGeneratedClassesUptoSaid : Prop := fnExactGeneratedClassesUptoRow.holds Try.pinned (OpenSpec.upto fnExactGeneratedClassesSpec)

/-- 'laws.FnExactGenusOf', WHERE WHAT IT READS IS OF BULK AT MOST 1048576: true; the input reads as it did. -/
def fnExactGenusOfUptoRow : OpenClaim := { program := "ytononfokhdmofaa", sum := "45df3ed295a3d7ac018ab9267f130d8203d10b4b1d4f75a5edd82db745758da4", func := "loop.example/g01066/laws.FnExactGenusOf", spec := "fnExactGenusOf", plainKeys := false, apart := false, narrowed := true }
def FnExactGenusOfUptoSaid : Prop := fnExactGenusOfUptoRow.holds Try.pinned (OpenSpec.upto fnExactGenusOfSpec)

/-- 'laws.FnExactGenusRepresenting', WHERE WHAT IT READS IS OF BULK AT MOST 1048576: true; the input reads as it did. -/
def fnExactGenusRepresentingUptoRow : OpenClaim := { program := "ytononfokhdmofaa", sum := "45df3ed295a3d7ac018ab9267f130d8203d10b4b1d4f75a5edd82db745758da4", func := "loop.example/g01066/laws.FnExactGenusRepresenting", spec := "fnExactGenusRepresenting", plainKeys := false, apart := false, narrowed := true }
def FnExactGenusRepresentingUptoSaid : Prop := fnExactGenusRepresentingUptoRow.holds Try.pinned (OpenSpec.upto fnExactGenusRepresentingSpec)

/-- 'laws.FnExactGenusWith', WHERE WHAT IT READS IS OF BULK AT MOST 1048576: true; the input reads as it did. -/
def fnExactGenusWithUptoRow : OpenClaim := { program := "ytononfokhdmofaa", sum := "45df3ed295a3d7ac018ab9267f130d8203d10b4b1d4f75a5edd82db745758da4", func := "loop.example/g01066/laws.FnExactGenusWith", spec := "fnExactGenusWith", plainKeys := false, apart := false, narrowed := true }
def FnExactGenusWithUptoSaid : Prop := fnExactGenusWithUptoRow.holds Try.pinned (OpenSpec.upto fnExactGenusWithSpec)

/-- 'laws.FnExactGeneraOf', WHERE WHAT IT READS IS OF BULK AT MOST 1048576: true; the input reads as it did. -/
def fnExactGeneraOfUptoRow : OpenClaim := { program := "ytononfokhdmofaa", sum := "45df3ed295a3d7ac018ab9267f130d8203d10b4b1d4f75a5edd82db745758da4", func := "loop.example/g01066/laws.FnExactGeneraOf", spec := "fnExactGeneraOf", plainKeys := false, apart := false, narrowed := true }
def FnExactGeneraOfUptoSaid : Prop := fnExactGeneraOfUptoRow.holds Try.pinned (OpenSpec.upto fnExactGeneraOfSpec)

/-- 'laws.FnExactCosetsOf', WHERE WHAT IT READS IS OF BULK AT MOST 1048576: true; the input reads as it did. -/
def fnExactCosetsOfUptoRow : OpenClaim := { program := "ytononfokhdmofaa", sum := "45df3ed295a3d7ac018ab9267f130d8203d10b4b1d4f75a5edd82db745758da4", func := "loop.example/g01066/laws.FnExactCosetsOf", spec := "fnExactCosetsOf", plainKeys := false, apart := false, narrowed := true }
def FnExactCosetsOfUptoSaid : Prop := fnExactCosetsOfUptoRow.holds Try.pinned (OpenSpec.upto fnExactCosetsOfSpec)

end Rows
end Go.Proofs.Ytononfokhdmofaa
