/- Plain facts: reduced classes are class forms; membership. -/
import Derived.Test.YtlcegkafagdcjaaGreatDoorK9
import Derived.Test.YtlcegkafagdcjaaGreatDoorSX
namespace Go.Proofs.YtlcegkafagdcjaaGreatDoor

theorem isDisc_of {d : Int} (D : Dsc d) : isDisc d = true := by
  have h1 := D.lo; have h2 := D.hi; have h3 := D.md
  unfold isDisc
  simp only [Bool.and_eq_true, decide_eq_true_eq]
  exact ⟨h1, h2, h3⟩
variable {d : Int}
theorem cls_isCls (D : Dsc d) {f : Fm} (hf : f ∈ clsL d) : isCls f.a f.b f.c = true := by
  obtain ⟨⟨f1, f2, f3, f4, f5, f6, f7⟩, f8⟩ := mem_clsL D.lo hf
  have h1 := D.lo
  have h2 := D.hi
  have h3 := (isRed_iff _ _ _).1 f4
  have h4 : disc ⟨f.a, f.b, f.c⟩ = d := f3
  unfold isCls isShown isDefB isFm isNum
  simp only [Bool.and_eq_true, decide_eq_true_eq, h4]
  refine ⟨⟨⟨?_, ?_, ?_⟩, ?_⟩, f8⟩ <;> omega
end Go.Proofs.YtlcegkafagdcjaaGreatDoor
