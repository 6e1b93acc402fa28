/- Plain facts: two class forms have a composite. No program in sight. -/
import Derived.Test.YtifkmjmhhklkjaaM11
namespace Go.Proofs.Ytifkmjmhhklkjaa

theorem cls_a {d : Int} {f : Fm} (h1 : -2000 ≤ d) (hf : f ∈ clsL d) : f.a ≤ 26 := by
  obtain ⟨⟨f1, _, f3, f4, _⟩, _⟩ := mem_clsL h1 hf
  obtain ⟨⟨b1, b2⟩, b3⟩ := (isRed_iff _ _ _).1 f4
  apply Int.not_lt.1; intro hl
  have k1 := (mul_bd (a := f.b) (x := f.b) (A := f.a) (X := f.a) (by omega) (by omega) (by omega) (by omega)).2
  have k2 : f.a * f.a ≤ f.a * f.c := Int.mul_le_mul_of_nonneg_left (by omega) (by omega)
  have k3 := Int.mul_le_mul (show (27 : Int) ≤ f.a by omega) (show (27 : Int) ≤ f.a by omega) (by omega) (by omega)
  have e : 4 * f.a * f.c = 4 * (f.a * f.c) := Int.mul_assoc _ _ _
  unfold disc at f3
  omega
theorem cmp_ex {d : Int} {f g : Fm} (h1 : -2000 ≤ d) (h2 : d ≤ -3) (h4 : d % 4 < 2) (hf : f ∈ clsL d) (hg : g ∈ clsL d) : ∃ r, IsCmp d f g r := by
  have fa := cls_a h1 hf
  obtain ⟨⟨f1, _, f3, f4, _⟩, f5⟩ := mem_clsL h1 hf
  obtain ⟨⟨g1, _, g3, g4, _⟩, g5⟩ := mem_clsL h1 hg
  obtain ⟨⟨b1, b2⟩, b3⟩ := (isRed_iff _ _ _).1 g4
  have es := sn h4
  obtain ⟨x, y, hx, hy, hxy, hv⟩ := pt_int (a := f.a) (by omega) fa g5
  obtain ⟨u, v, huv⟩ := bez x y
  rw [hxy] at huv
  generalize he : g.a * (x * x) + g.b * (x * y) + g.c * (y * y) = e at hv
  obtain ⟨l, k, hlk⟩ := bez e f.a
  rw [hv] at hlk
  have he0 : 0 < e := by
    have := (fv_min (g := g) (p := x) (r := -y) (by omega) (by omega) (by omega) (by omega) (by
      rintro ⟨rfl, h⟩
      have : y = 0 := by omega
      subst this; simp at hxy)).1
    have e2 : fv g x (-y) = e := by rw [← he]; unfold fv; grind
    omega
  have hdet : x * u - (-v) * y = 1 := by simp at huv; grind
  have U0 : ∀ b t1 t2, b = f.b + 2 * (f.a * t1) → b = (2 * (g.a * (x * (-v))) + g.b * (x * u + (-v) * y) + 2 * (g.c * (y * u))) + 2 * (e * t2) → Uni f g x y (-v) u e (2 * (g.a * (x * (-v))) + g.b * (x * u + (-v) * y) + 2 * (g.c * (y * u))) (g.a * ((-v) * (-v)) + g.b * ((-v) * u) + g.c * (u * u)) b t1 t2 k l :=
    fun b t1 t2 e1 e2 => ⟨hdet, he.symm, rfl, rfl, e1, e2, by simp at hlk; omega⟩
  generalize hhb : 2 * (g.a * (x * (-v))) + g.b * (x * u + (-v) * y) + 2 * (g.c * (y * u)) = hb at U0
  generalize hhc : g.a * ((-v) * (-v)) + g.b * ((-v) * u) + g.c * (u * u) = hc at U0
  have dh : disc ⟨e, hb, hc⟩ = d := by
    have key : disc ⟨e, hb, hc⟩ = disc g * ((x * u - (-v) * y) * (x * u - (-v) * y)) := by
      simp only [disc]; rw [← he, ← hhb, ← hhc]; grind
    rw [key, hdet, g3]; simp
  have p1 := hF_two (s := sD d) (n := nD d) (f := f) (by omega)
  have p2 := hF_two (s := sD d) (n := nD d) (f := ⟨e, hb, hc⟩) (by omega)
  simp only at p2
  generalize hm : hF (sD d) ⟨e, hb, hc⟩ - hF (sD d) f = m
  have hbm : hb = f.b + 2 * m := by omega
  have hlk1 : k * f.a = 1 - l * e := by simp at hlk; omega
  have U := U0 (f.b + 2 * (f.a * (k * m))) (k * m) (-(l * m)) rfl (by
    have e1 : f.a * (k * m) = k * f.a * m := by grind
    rw [e1, hlk1, hbm]; grind)
  obtain ⟨c, hc1, _, _⟩ := U.c (f3.trans g3.symm)
  generalize f.b + 2 * (f.a * (k * m)) = b at U hc1
  rw [f3] at hc1
  have hA : 0 < f.a * e := Int.mul_pos (by omega) he0
  have hb2 : b * b < 4 * (f.a * e * c) := by
    have := Int.mul_assoc 4 (f.a * e) c
    omega
  have hc0 : 0 < c := c_of_disc hA hb2
  exact ⟨_, U.cmp h1 h4 hf hg he0 hc1 (M := f.a * e + c) ⟨hA, by simp only; omega, hc0, by simp only; omega, hb2⟩⟩
end Go.Proofs.Ytifkmjmhhklkjaa
