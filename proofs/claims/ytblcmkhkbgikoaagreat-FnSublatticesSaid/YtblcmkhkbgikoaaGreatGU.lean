/- Plain facts: reduced classes are class forms; membership. -/
import Derived.Test.YtblcmkhkbgikoaaGreatK9
import Derived.Test.YtblcmkhkbgikoaaGreatSX
namespace Go.Proofs.YtblcmkhkbgikoaaGreat

theorem hasF_mem {L : List Fm} {f : Fm} : hasF L f = true ↔ f ∈ L := by
  unfold hasF
  rw [List.any_eq_true]
  constructor
  · rintro ⟨g, hg, h⟩
    rw [fmEq_iff] at h
    exact h ▸ hg
  · intro h
    exact ⟨f, h, (fmEq_iff _ _).2 rfl⟩
theorem isDisc_of {d : Int} (D : Dsc d) : isDisc d = true := by
  have h1 := D.lo; have h2 := D.hi; have h3 := D.md
  unfold isDisc
  simp only [Bool.and_eq_true, decide_eq_true_eq]
  exact ⟨h1, h2, h3⟩
variable {d : Int}
theorem cls_isCls (D : Dsc d) {f : Fm} (hf : f ∈ clsL d) : isCls f.a f.b f.c = true := by
  obtain ⟨⟨f1, f2, f3, f4, f5, f6, f7⟩, f8⟩ := mem_clsL D.lo hf
  have h1 := D.lo
  have h2 := D.hi
  have h3 := (isRed_iff _ _ _).1 f4
  have h4 : disc ⟨f.a, f.b, f.c⟩ = d := f3
  unfold isCls isShown isDefB isFm isNum
  simp only [Bool.and_eq_true, decide_eq_true_eq, h4]
  refine ⟨⟨⟨?_, ?_, ?_⟩, ?_⟩, f8⟩ <;> omega
theorem cmp_cl2 (D : Dsc d) {f g h : Fm} (hf : f ∈ clsL d) (hg : g ∈ clsL d) (hh : h ∈ clsL d) (e : cmp d f g = cmp d f h) : g = h := by
  rw [D.comm hf hg, D.comm hf hh] at e
  exact D.cancel hg hh hf e
end Go.Proofs.YtblcmkhkbgikoaaGreat
