/- Plain facts: Bezout. No program in sight. -/
import Derived.Test.YtifkmjmhhklkjaaM9
namespace Go.Proofs.Ytifkmjmhhklkjaa

theorem bez_nat : ∀ (a b : Nat), ∃ x y : Int, x * a + y * b = (Nat.gcd a b : Int) := by
  intro a
  induction a using Nat.strongRecOn with
  | ind a ih =>
    intro b
    by_cases h0 : a = 0
    · subst h0; exact ⟨0, 1, by simp⟩
    · obtain ⟨x, y, h⟩ := ih (b % a) (Nat.mod_lt _ (by omega)) a
      refine ⟨y - x * (b / a : Nat), x, ?_⟩
      rw [Nat.gcd_rec a b, ← h]
      have e : (b : Int) = ((b % a : Nat) : Int) + (a : Int) * ((b / a : Nat) : Int) := by
        have := Nat.mod_add_div b a
        rw [← Int.natCast_mul, ← Int.natCast_add, this]
      generalize ((b % a : Nat) : Int) = r at *
      generalize ((b / a : Nat) : Int) = q at *
      rw [e]; grind
theorem bez (a b : Int) : ∃ x y : Int, x * a + y * b = (Int.gcd a b : Int) := by
  obtain ⟨x, y, h⟩ := bez_nat a.natAbs b.natAbs
  rcases Int.natAbs_eq a with ha | ha <;> rcases Int.natAbs_eq b with hb | hb
  · exact ⟨x, y, by rw [ha, hb]; simpa [Int.gcd, Int.neg_mul_neg] using h⟩
  · exact ⟨x, -y, by rw [ha, hb]; simpa [Int.gcd, Int.neg_mul_neg] using h⟩
  · exact ⟨-x, y, by rw [ha, hb]; simpa [Int.gcd, Int.neg_mul_neg] using h⟩
  · exact ⟨-x, -y, by rw [ha, hb]; simpa [Int.gcd, Int.neg_mul_neg] using h⟩
theorem bez3 {a b c : Int} (h : Int.gcd a (Int.gcd b c) = 1) : ∃ x y z : Int, x * a + y * b + z * c = 1 := by
  obtain ⟨x, y, h1⟩ := bez a (Int.gcd b c)
  obtain ⟨u, v, h2⟩ := bez b c
  refine ⟨x, y * u, y * v, ?_⟩
  rw [h] at h1
  rw [← h2] at h1
  simp at h1
  rw [← h1]; grind

/-- The discriminant's order: w*w = s*w - n. -/
def sD (d : Int) : Int := d % 2
def nD (d : Int) : Int := (d % 2 - d) / 4
theorem sn {d : Int} (h : d % 4 < 2) : sD d * sD d - 4 * nD d = d := by
  unfold sD nD
  have h0 : 0 ≤ d % 4 := Int.emod_nonneg _ (by omega)
  rcases Int.emod_two_eq d with h1 | h1 <;> rw [h1] <;> omega
/-- r is the reduced form of the composite of f and g. -/
def IsCmp (d : Int) (f g r : Fm) : Prop := r ∈ clsL d ∧ Hom (sD d) (nD d) (Pr (sD d) (nD d) (IF (sD d) f) (IF (sD d) g)) (IF (sD d) r)
theorem cls_eq {d : Int} {f g : Fm} (h1 : -2000 ≤ d) (h2 : d ≤ -3) (h4 : d % 4 < 2) (hf : f ∈ clsL d) (hg : g ∈ clsL d) (h : Hom (sD d) (nD d) (IF (sD d) f) (IF (sD d) g)) : f = g := by
  obtain ⟨⟨f1, _, f3, f4, _⟩, _⟩ := mem_clsL h1 hf
  obtain ⟨⟨g1, _, g3, g4, _⟩, _⟩ := mem_clsL h1 hg
  have e := sn h4
  exact hom_red (by omega) (by omega) (by omega) (by omega) (by omega) f4 g4 h
theorem IsCmp.uniq {d : Int} {f g r r' : Fm} (h1 : -2000 ≤ d) (h2 : d ≤ -3) (h4 : d % 4 < 2) (h : IsCmp d f g r) (h' : IsCmp d f g r') : r = r' :=
  cls_eq h1 h2 h4 h.1 h'.1 (h.2.symm.trans h'.2)
theorem IsCmp.inj {d : Int} {p p' f r : Fm} (h1 : -2000 ≤ d) (h2 : d ≤ -3) (h4 : d % 4 < 2) (hp : p ∈ clsL d) (hp' : p' ∈ clsL d) (hf : f ∈ clsL d) (h : IsCmp d p f r) (h' : IsCmp d p' f r) : p = p' := by
  obtain ⟨⟨f1, _, f3, f4, _⟩, f5⟩ := mem_clsL h1 hf
  obtain ⟨⟨_, _, p3, _, _⟩, _⟩ := mem_clsL h1 hp
  obtain ⟨⟨_, _, p3', _, _⟩, _⟩ := mem_clsL h1 hp'
  have e := sn h4
  obtain ⟨x, y, z, hb⟩ := bez3 f5
  exact cls_eq h1 h2 h4 hp hp' (comp_cancel (by omega) (by omega) (by omega) (by omega) hb (h.2.trans h'.2.symm))
theorem IsCmp.comm {d : Int} {f g r : Fm} (h : IsCmp d f g r) : IsCmp d g f r := ⟨h.1, by rw [Pr.comm]; exact h.2⟩
theorem IsCmp.assoc {d : Int} {f g k r s t : Fm} (h1 : IsCmp d f g r) (h2 : IsCmp d r k s) (h3 : IsCmp d g k t) : IsCmp d f t s := by
  refine ⟨h2.1, (Hom.pr2 (Hom.refl _) h3.2.symm).trans ?_⟩
  rw [← Pr.assoc]
  exact (Hom.pr h1.2 _).trans h2.2
end Go.Proofs.Ytifkmjmhhklkjaa
