/-
  No cell of these rows narrows 'for every input' (looked for: loops, veiled, ifaces, maps, wideKeys, modest, calm, conditions, laid).
  DERIVED. THE GIVEN ROWS OF THIS SEAT. 3 by the template 'for every input the law returns true; each argument reads behind the call as it read before'; 0 by the template 'total and deterministic' (their statements: YtjjkndgokdofdaaTotals.lean).
  GIVEN WITH THE SEED: the statements are not yours to turn. If you find one false, say at which input.
  Laid BY PROGRAM, IN A SANDBOX (cutbox-rows.mjs): the forced cells as the released guide's own fill.sh prints them over the translation a3a79c6f62009015… (all of the seat's roots in one cut). By AI agents, Wed Nov 11 2026. No macro, syntax, notation, axiom, sorry.
-/
import Derived.Test.YtjjkndgokdofdaaChecked
import GoSem.Claim
import GoSem.ClaimJoined
import GoSem.ClaimMapViews
import Derived.JoinedTies
import Derived.KernelRfl
namespace Go.Proofs.Ytjjkndgokdofdaa
/- THE CELL 'sum', in the pinned program and in every row, IS THE sha256 OF THE DUMP (.gsa) THAT YtjjkndgokdofdaaProg.lean LOADS. Nothing in Lean hashes anything: it is a label: what it is worth is what the hold of that sum in a sandbox is worth. -/
noncomputable def Try.pinned : Pinned := { name := "ytjjkndgokdofdaa", sum := "a3a79c6f62009015ec7fc0ba2be24de8cb3d0bb4ffa300521765fb216efc28b2", checked := Try.checked }
namespace Rows
def none {H : Type} : Left H := { results := [], args := [] }

/-- 'laws.FnIdealProducts': WHATEVER THE INPUT: true; the input reads as it did. -/
def fnIdealProductsSpec : ChangeSpec := { name := "fnIdealProducts", fn := fun _ => fun
  | [d1, d2] => { results := [.lit (.bool true)], args := [d1, d2] }
  | _ => none }
def fnIdealProductsRow : OpenClaim := { program := "ytjjkndgokdofdaa", sum := "a3a79c6f62009015ec7fc0ba2be24de8cb3d0bb4ffa300521765fb216efc28b2", func := "loop.example/g01066/laws.FnIdealProducts", spec := "fnIdealProducts", apart := false }
def FnIdealProductsSaid : Prop := fnIdealProductsRow.holds Try.pinned (OpenSpec.ofChange fnIdealProductsSpec)

/-- ITS FALSE NEIGHBOUR: 'it returns false'. Refute it at one input. -/
def fnIdealProductsWrong : ChangeSpec := { name := "fnIdealProducts", fn := fun _ => fun
  | [d1, d2] => { results := [.lit (.bool false)], args := [d1, d2] }
  | _ => none }
def FnIdealProductsWrongFalsely : Prop := fnIdealProductsRow.holds Try.pinned (OpenSpec.ofChange fnIdealProductsWrong)

/-- 'laws.FnCubes': WHATEVER THE INPUT: true; the input reads as it did. -/
def fnCubesSpec : ChangeSpec := { name := "fnCubes", fn := fun _ => fun
  | [d1, d2] => { results := [.lit (.bool true)], args := [d1, d2] }
  | _ => none }
def fnCubesRow : OpenClaim := { program := "ytjjkndgokdofdaa", sum := "a3a79c6f62009015ec7fc0ba2be24de8cb3d0bb4ffa300521765fb216efc28b2", func := "loop.example/g01066/laws.FnCubes", spec := "fnCubes", apart := false }
def FnCubesSaid : Prop := fnCubesRow.holds Try.pinned (OpenSpec.ofChange fnCubesSpec)

/-- ITS FALSE NEIGHBOUR: 'it returns false'. Refute it at one input. -/
def fnCubesWrong : ChangeSpec := { name := "fnCubes", fn := fun _ => fun
  | [d1, d2] => { results := [.lit (.bool false)], args := [d1, d2] }
  | _ => none }
def FnCubesWrongFalsely : Prop := fnCubesRow.holds Try.pinned (OpenSpec.ofChange fnCubesWrong)

/-- 'laws.FnExactShortestPoints': WHATEVER THE INPUT: true; the input reads as it did. -/
def fnExactShortestPointsSpec : ChangeSpec := { name := "fnExactShortestPoints", fn := fun _ => fun
  | [d1, d2] => { results := [.lit (.bool true)], args := [d1, d2] }
  | _ => none }
def fnExactShortestPointsRow : OpenClaim := { program := "ytjjkndgokdofdaa", sum := "a3a79c6f62009015ec7fc0ba2be24de8cb3d0bb4ffa300521765fb216efc28b2", func := "loop.example/g01066/laws.FnExactShortestPoints", spec := "fnExactShortestPoints", inPlace := ["internal/reflectlite.ValueOf", "internal/reflectlite.Swapper", "(internal/reflectlite.Value).Len"], unfollowed := true, recurses := true, apart := false }
def FnExactShortestPointsSaid : Prop := fnExactShortestPointsRow.holds Try.pinned (OpenSpec.ofChange fnExactShortestPointsSpec)

/-- ITS FALSE NEIGHBOUR: 'it returns false'. Refute it at one input. -/
def fnExactShortestPointsWrong : ChangeSpec := { name := "fnExactShortestPoints", fn := fun _ => fun
  | [d1, d2] => { results := [.lit (.bool false)], args := [d1, d2] }
  | _ => none }
def FnExactShortestPointsWrongFalsely : Prop := fnExactShortestPointsRow.holds Try.pinned (OpenSpec.ofChange fnExactShortestPointsWrong)

/- THE SECOND FORM. 'bulk': how many values and letters a reading holds, each counted each time it is reached (what is shared counts as often as it is met; a slice's spare places count too). A statement '..UptoSaid' is the law's where the arguments, and the package variables that the reading takes, are together of bulk at most 1048576: NARROWER than '..Said'. Prove '..Said' where nothing that the law and all that it calls make is longer than what came in: it says more and counts as full. Else prove '..UptoSaid'. A law counts once. -/
mutual
def uptoBulk {H : Type} : DataW H → Nat
  | .lit (.string bytes) => bytes.length + 1
  | .lit _ => 1
  | .nil => 1
  | .ptr d => uptoBulk d + 1
  | .slice elems spare => uptoBulkAll elems + uptoBulkAll spare + 1
  | .agg parts => uptoBulkAll parts + 1
  | .iface _ d => uptoBulk d + 1
  | .map entries => uptoBulkEntries entries + 1
  | .held _ => 1
def uptoBulkAll {H : Type} : List (DataW H) → Nat
  | [] => 0
  | d :: r => uptoBulk d + uptoBulkAll r
def uptoBulkEntries {H : Type} : List (Lit × DataW H) → Nat
  | [] => 0
  | x :: r => uptoBulkEntry x + uptoBulkEntries r
def uptoBulkEntry {H : Type} : Lit × DataW H → Nat
  | (.string bytes, d) => bytes.length + uptoBulk d + 1
  | (_, d) => uptoBulk d + 1
 end
def uptoSmall : (H : Type) → List (DataW H) → Bool := fun _ ds => decide (uptoBulkAll ds ≤ 1048576)
def OpenSpec.upto (s : _root_.Go.ChangeSpec) : _root_.Go.OpenSpec := { _root_.Go.OpenSpec.ofChange s with cond := some uptoSmall }

/-- 'laws.FnIdealProducts', WHERE WHAT IT READS IS OF BULK AT MOST 1048576: true; the input reads as it did. -/
def fnIdealProductsUptoRow : OpenClaim := { program := "ytjjkndgokdofdaa", sum := "a3a79c6f62009015ec7fc0ba2be24de8cb3d0bb4ffa300521765fb216efc28b2", func := "loop.example/g01066/laws.FnIdealProducts", spec := "fnIdealProducts", apart := false, narrowed := true }
def FnIdealProductsUptoSaid : Prop := fnIdealProductsUptoRow.holds Try.pinned (OpenSpec.upto fnIdealProductsSpec)

/-- 'laws.FnCubes', WHERE WHAT IT READS IS OF BULK AT MOST 1048576: true; the input reads as it did. -/
def fnCubesUptoRow : OpenClaim := { program := "ytjjkndgokdofdaa", sum := "a3a79c6f62009015ec7fc0ba2be24de8cb3d0bb4ffa300521765fb216efc28b2", func := "loop.example/g01066/laws.FnCubes", spec := "fnCubes", apart := false, narrowed := true }
def FnCubesUptoSaid : Prop := fnCubesUptoRow.holds Try.pinned (OpenSpec.upto fnCubesSpec)

/-- 'laws.FnExactShortestPoints', WHERE WHAT IT READS IS OF BULK AT MOST 1048576: true; the input reads as it did. -/
def fnExactShortestPointsUptoRow : OpenClaim := { program := "ytjjkndgokdofdaa", sum := "a3a79c6f62009015ec7fc0ba2be24de8cb3d0bb4ffa300521765fb216efc28b2", func := "loop.example/g01066/laws.FnExactShortestPoints", spec := "fnExactShortestPoints", inPlace := ["internal/reflectlite.ValueOf", "internal/reflectlite.Swapper", "(internal/reflectlite.Value).Len"], unfollowed := true, recurses := true, apart := false, narrowed := true }
def FnExactShortestPointsUptoSaid : Prop := fnExactShortestPointsUptoRow.holds Try.pinned (OpenSpec.upto fnExactShortestPointsSpec)

end Rows
end Go.Proofs.Ytjjkndgokdofdaa
