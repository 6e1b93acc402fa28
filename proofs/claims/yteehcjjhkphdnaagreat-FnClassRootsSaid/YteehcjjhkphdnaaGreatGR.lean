/- Plain facts: every genus is a coset of the squares and the genus of each of its forms. -/
import Derived.Test.YteehcjjhkphdnaaGreatGX
namespace Go.Proofs.YteehcjjhkphdnaaGreat

variable {d : Int}
theorem cls_isCls (D : Dsc d) {f : Fm} (hf : f ∈ clsL d) : isCls f.a f.b f.c = true := by
  obtain ⟨⟨f1, f2, f3, f4, f5, f6, f7⟩, f8⟩ := mem_clsL D.lo hf
  have h1 := D.lo
  have h2 := D.hi
  have h3 := (isRed_iff _ _ _).1 f4
  have h4 : disc ⟨f.a, f.b, f.c⟩ = d := f3
  unfold isCls isShown isDefB isFm isNum
  simp only [Bool.and_eq_true, decide_eq_true_eq, h4]
  refine ⟨⟨⟨?_, ?_, ?_⟩, ?_⟩, f8⟩ <;> omega
theorem row_eq {i : Nat} (h : i < (genL d).length) : ∃ r ∈ clsL d, (genL d)[i] = (clsL d).filter (gnP d (gnL d r)) := by
  unfold genL grpK at h ⊢
  rw [List.getElem_map]
  exact ⟨_, reps_sub (κ := gnL d) _ (clsL d) rfl _ (List.getElem_mem _), rfl⟩
theorem row_gn {r f : Fm} (hf : f ∈ (clsL d).filter (gnP d (gnL d r))) : f ∈ clsL d ∧ gnL d f = gnL d r := by
  unfold gnP at hf
  rw [List.mem_filter, decide_eq_true_eq] at hf
  exact hf
/-- What the law asks of one genus. -/
structure GenRow (d : Int) (l : List Fm) : Prop where
  len : l.length = (pgL d).length
  go : ∀ f ∈ l, GoL f.a f.b f.c l true
  sc : ∀ f ∈ l, ScL f.a f.b f.c l true
theorem gen_row (D : Dsc d) {i : Nat} (h : i < (genL d).length) : GenRow d (genL d)[i] := by
  obtain ⟨r, hr, e⟩ := row_eq h
  rw [e]
  have hfil : ∀ f, f ∈ clsL d → gnL d f = gnL d r → (clsL d).filter (gnP d (gnL d r)) = (clsL d).filter (gnP d (gnL d f)) := fun f _ hg => by rw [hg]
  refine ⟨?_, fun f hf => ?_, fun f hf => ?_⟩
  · have := gn_fib D hr
    unfold gnP
    exact this
  · obtain ⟨h1, h2⟩ := row_gn hf
    refine .inr ⟨cls_isCls D h1, ?_, rfl⟩
    have hd : disc ⟨f.a, f.b, f.c⟩ = d := (PD.of_mem D h1).dc
    have hr2 : red ⟨f.a, f.b, f.c⟩ = f := red_cls D h1
    rw [hd, hr2]
    exact hfil f h1 h2
  · obtain ⟨h1, h2⟩ := row_gn hf
    refine .inr ⟨cls_isCls D h1, ?_, rfl⟩
    have hd : disc ⟨f.a, f.b, f.c⟩ = d := (PD.of_mem D h1).dc
    have hr2 : red ⟨f.a, f.b, f.c⟩ = f := red_cls D h1
    rw [hd, hr2, hfil f h1 h2]
    refine List.filter_congr fun g hg => ?_
    exact (cos_gn D hg h1).symm
end Go.Proofs.YteehcjjhkphdnaaGreat
