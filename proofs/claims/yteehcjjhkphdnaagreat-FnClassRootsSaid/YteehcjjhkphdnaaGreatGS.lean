/- Plain facts: what the law on square roots of classes asks. -/
import Derived.Test.YteehcjjhkphdnaaGreatGR
import Derived.Test.YteehcjjhkphdnaaGreatV5
import Derived.Test.YteehcjjhkphdnaaGreatKC
import Derived.Test.YteehcjjhkphdnaaGreatDA
import Derived.Test.YteehcjjhkphdnaaGreatDG
namespace Go.Proofs.YteehcjjhkphdnaaGreat
open Classical

theorem hasF_mem {L : List Fm} {f : Fm} : hasF L f = true ↔ f ∈ L := by
  unfold hasF
  rw [List.any_eq_true]
  constructor
  · rintro ⟨g, hg, h⟩
    rw [fmEq_iff] at h
    exact h ▸ hg
  · intro h
    exact ⟨f, h, (fmEq_iff _ _).2 rfl⟩
theorem isDisc_of {d : Int} (D : Dsc d) : isDisc d = true := by
  have h1 := D.lo; have h2 := D.hi; have h3 := D.md
  unfold isDisc
  simp only [Bool.and_eq_true, decide_eq_true_eq]
  exact ⟨h1, h2, h3⟩
theorem pair_self {d : Int} (D : Dsc d) {x : Fm} (hx : x ∈ clsL d) : pairB x x = true ∧ cmp (disc x) (red x) (red x) = cmp d x x := by
  have h1 := cls_isCls D hx
  have h2 : disc x = d := (PD.of_mem D hx).dc
  have h3 : red x = x := red_cls D hx
  refine ⟨?_, by rw [h2, h3]⟩
  unfold pairB
  rw [h1]
  simp
/-- What the law asks of a class form. -/
structure RtRow (a b c : Int) (L R A : List Fm) (y : Bool) : Prop where
  sc : ScL a b c L true
  go : GoL a b c L true
  sq : SqB a b c y true
  rt : RootL a b c 2 R true
  am : AmbR (disc ⟨a, b, c⟩) A true
  yes : y = decide (0 < R.length)
  len : y = true → R.length = A.length
  cls : ∀ x ∈ R, pairB x x = true ∧ cmp (disc x) (red x) (red x) = red ⟨a, b, c⟩
  bd : L.length ≤ 1640 ∧ R.length ≤ 1640 ∧ A.length ≤ 1640
theorem rt_row {a b c : Int} (h : isCls a b c = true) : ∃ L R A y, RtRow a b c L R A y := by
  have cf := CF.of_cls h
  have D := cf.D
  have hm := cf.mem
  have hR : ∀ x ∈ clsL (disc ⟨a, b, c⟩), rootP (disc ⟨a, b, c⟩) (red ⟨a, b, c⟩) 2 x = decide (cmp (disc ⟨a, b, c⟩) x x = red ⟨a, b, c⟩) := fun x hx => by
    unfold rootP
    rw [pw2 D hx, Bool.eq_iff_iff, fmEq_iff, decide_eq_true_eq]
  refine ⟨(clsL (disc ⟨a, b, c⟩)).filter (gnP (disc ⟨a, b, c⟩) (gnL (disc ⟨a, b, c⟩) (red ⟨a, b, c⟩))), (clsL (disc ⟨a, b, c⟩)).filter (rootP (disc ⟨a, b, c⟩) (red ⟨a, b, c⟩) 2), amL (disc ⟨a, b, c⟩), hasF (sqL (disc ⟨a, b, c⟩)) (red ⟨a, b, c⟩),
    .inr ⟨h, ?_, rfl⟩, .inr ⟨h, rfl, rfl⟩, .inr ⟨h, rfl, rfl⟩, .inr (.inr ⟨h, 2, rfl, by decide, rfl, rfl⟩), .inr ⟨isDisc_of D, rfl, rfl⟩, ?_, ?_, ?_, ?_⟩
  · refine List.filter_congr fun g hg => ?_
    exact (cos_gn D hg hm).symm
  · rw [Bool.eq_iff_iff, hasF_mem, mem_sqL D, decide_eq_true_eq, List.length_pos_iff_exists_mem]
    constructor
    · rintro ⟨g, hg, e⟩
      exact ⟨g, List.mem_filter.2 ⟨hg, by rw [hR g hg]; simp [e]⟩⟩
    · rintro ⟨g, hg⟩
      obtain ⟨h1, h2⟩ := List.mem_filter.1 hg
      rw [hR g h1, decide_eq_true_eq] at h2
      exact ⟨g, h1, h2.symm⟩
  · intro hy
    rw [hasF_mem] at hy
    rw [← sq_fib D hy]
    congr 1
    exact List.filter_congr hR
  · intro x hx
    obtain ⟨h1, h2⟩ := List.mem_filter.1 hx
    rw [hR x h1, decide_eq_true_eq] at h2
    obtain ⟨h3, h4⟩ := pair_self D h1
    exact ⟨h3, by rw [h4, h2]⟩
  · exact ⟨Nat.le_trans (List.length_filter_le _ _) (clsL_len _), Nat.le_trans (List.length_filter_le _ _) (clsL_len _), Nat.le_trans (List.length_filter_le _ _) (clsL_len _)⟩
end Go.Proofs.YteehcjjhkphdnaaGreat
