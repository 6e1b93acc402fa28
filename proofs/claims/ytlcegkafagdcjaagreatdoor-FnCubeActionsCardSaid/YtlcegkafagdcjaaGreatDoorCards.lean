/-
  DERIVED. GIVEN WITH THE SEED: THE CARDS: each row of YtlcegkafagdcjaaGreatDoorRows.lean that lists a variable, with what it lists TIED to the program's text (the seventh form; the later family's looks); each row that meets fmt, with fmt's text TOLD by the authors' own Lean function (tested against real Go, not proved from fmt's source: count such statements apart). THE CARD IS WHAT COUNTS. Prove the row's statement (the work); the ties are given (YtlcegkafagdcjaaGreatDoorTie.lean); close each card by the builder's one call (the guide's Derived/Test/ToyasCard.lean, 'card_holds'). Laid BY PROGRAM, IN A SANDBOX (cutbox-door.mjs). By AI agents, Wed Nov 11 2026. No macro, syntax, notation, axiom, sorry.
-/
import Derived.Test.YtlcegkafagdcjaaGreatDoorRows
import GoSem.ClaimSeven
namespace Go.Proofs.YtlcegkafagdcjaaGreatDoor
namespace Rows

/-- THE TIED CARD OF 'laws.FnCubeActions'. -/
def fnCubeActionsCard : Claim7 := { stood := { row := fnCubeActionsRow, standIns := [], harness := (true, "8eafbcbd1f23ee547cca3c42acd2e3132f00d86a160e7d2a4bcf8586c3e59701"), looks := true }, kinds := [], alts := [], laidByText := true, laidKinds := [.data, .data, .data, .sentinel, .sentinel], laidTests := true, laidLooks := .later }
def FnCubeActionsCardSaid : Prop := Claim7.holds Tryz.pinned (.plain (OpenSpec.ofChange fnCubeActionsSpec)) fnCubeActionsCard

/-- THE SECOND FORM's CARD OF 'laws.FnCubeActions'. -/
def fnCubeActionsUptoCard : Claim7 := { stood := { row := fnCubeActionsUptoRow, standIns := [], harness := (true, "8eafbcbd1f23ee547cca3c42acd2e3132f00d86a160e7d2a4bcf8586c3e59701"), looks := true }, kinds := [], alts := [], laidByText := true, laidKinds := [.data, .data, .data, .sentinel, .sentinel], laidTests := true, laidLooks := .later }
def FnCubeActionsUptoCardSaid : Prop := Claim7.holds Tryz.pinned (.plain (OpenSpec.upto fnCubeActionsSpec)) fnCubeActionsUptoCard
end Rows
end Go.Proofs.YtlcegkafagdcjaaGreatDoor
