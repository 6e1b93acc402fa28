/- Ambiguous forms and their opposites (plain); contracts: the exponent of a prime. -/
import Derived.Test.YtlcegkafagdcjaaGreatDoorN5
import Derived.Test.YtlcegkafagdcjaaGreatDoorK9
namespace Go.Proofs.YtlcegkafagdcjaaGreatDoor
open Go.RowKit

theorem CF.opp {d : Int} {f : Fm} (D : Dsc d) (hf : f ∈ clsL d) : CF d (oppF f) (red (oppF f)) := by
  have h := CF.of_mem D hf
  have e : (oppF f).b * (oppF f).b = f.b * f.b := by simp only [oppF]; rw [Int.neg_mul_neg]
  exact ⟨D, opp_def h.df, rfl, D.opp_mem hf h.df, (opp_disc f).trans h.dc, by rw [e]; exact h.b1, h.b2, h.b3⟩
end Go.Proofs.YtlcegkafagdcjaaGreatDoor
