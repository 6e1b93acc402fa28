/- Contracts: whether a list has a form. -/
import Derived.Test.YtdhennlanngjgaaKX
namespace Go.Proofs.Ytdhennlanngjgaa
open Go.RowKit

/-- Whether L has f. -/
def hasF (L : List Fm) (f : Fm) : Bool := L.any fun g => fmEq g f
theorem hasF_yes {L : List Fm} {f : Fm} (h : f ∈ L) : hasF L f = true := List.any_eq_true.2 ⟨f, h, (fmEq_iff _ _).2 rfl⟩
theorem hasF_no {L : List Fm} {f : Fm} (hno : ∀ j (h : j < L.length), L[j] ≠ f) : hasF L f = false := by
  unfold hasF
  rw [List.any_eq_false]
  intro g hg
  obtain ⟨j, h, rfl⟩ := List.getElem_of_mem hg
  rw [(fmEq_no _ _).2 (hno j h)]; simp
theorem gix_has (L : List Fm) (f : Fm) : decide (0 ≤ gix L f) = hasF L f := gix_nonneg

end Go.Proofs.Ytdhennlanngjgaa
