/- Plain facts: the composite of two class forms, from the data that the program makes. No program in sight. -/
import Derived.Test.YtifkmjmhhklkjaaM10
namespace Go.Proofs.Ytifkmjmhhklkjaa

theorem prm_iff (f : Fm) : Int.gcd f.a (Int.gcd f.b f.c) = 1 ↔ ∀ m : Int, m ∣ f.a → m ∣ f.b → m ∣ f.c → m ∣ 1 := by
  constructor
  · intro h m h1 h2 h3
    have := Int.dvd_coe_gcd h1 (Int.dvd_coe_gcd h2 h3)
    rw [h] at this; exact this
  · intro h
    have k1 : (Int.gcd f.a (Int.gcd f.b f.c) : Int) ∣ (Int.gcd f.b f.c : Int) := Int.gcd_dvd_right _ _
    have := h _ (Int.gcd_dvd_left _ _) (Int.dvd_trans k1 (Int.gcd_dvd_left _ _)) (Int.dvd_trans k1 (Int.gcd_dvd_right _ _))
    exact Nat.dvd_one.1 (Int.ofNat_dvd.1 this)
theorem prm_step {f : Fm} (h : Int.gcd f.a (Int.gcd f.b f.c) = 1) : Int.gcd (stepF f).a (Int.gcd (stepF f).b (stepF f).c) = 1 := by
  rw [prm_iff] at *
  unfold stepF
  split
  · intro m h1 h2 h3
    exact h m h3 (Int.dvd_neg.1 h2) h1
  · generalize tr f.a f.b = t
    rintro m ⟨u, hu⟩ ⟨v, hv⟩ ⟨w, hw⟩
    simp only at hu hv hw
    have e2 : f.b = m * (v - 2 * u * t) := by rw [hu] at hv; grind
    exact h m ⟨u, hu⟩ ⟨_, e2⟩ ⟨w - u * t * t - (v - 2 * u * t) * t, by rw [e2, hu] at hw; grind⟩
theorem red_prm {M : Int} {f : Fm} (h : Def M f) (hp : Int.gcd f.a (Int.gcd f.b f.c) = 1) : Int.gcd (red f).a (Int.gcd (red f).b (red f).c) = 1 :=
  red_ind (p := fun g => Int.gcd g.a (Int.gcd g.b g.c) = 1) f h hp fun _ _ _ hg => prm_step hg

/-- The reduced form of a composite is the composite's. -/
theorem Uni.cmp {d : Int} {f g : Fm} {x y q t e hb hc b t1 t2 k l c : Int} (h1 : -2000 ≤ d) (h4 : d % 4 < 2) (hf : f ∈ clsL d) (hg : g ∈ clsL d)
    (h : Uni f g x y q t e hb hc b t1 t2 k l) (he : 0 < e) (hc : b * b - d = 4 * (f.a * e) * c) {M : Int} (hM : Def M ⟨f.a * e, b, c⟩) : IsCmp d f g (red ⟨f.a * e, b, c⟩) := by
  obtain ⟨⟨f1, _, f3, f4, _⟩, f5⟩ := mem_clsL h1 hf
  obtain ⟨⟨g1, _, g3, g4, _⟩, g5⟩ := mem_clsL h1 hg
  have es := sn h4
  obtain ⟨c', hc1, hc2, hc3⟩ := h.c (f3.trans g3.symm)
  have ecc : c = c' := by
    rw [f3, hc] at hc1
    refine Int.eq_of_mul_eq_mul_left (a := 4 * (f.a * e)) ?_ hc1
    have := Int.mul_pos (show 0 < f.a by omega) he
    omega
  subst ecc
  have hd : disc ⟨f.a * e, b, c⟩ = d := by
    simp only [disc]
    have : 4 * (f.a * e) * c = 4 * (f.a * e) * c := rfl
    omega
  have P := comp_class (s := sD d) (n := nD d) (f := f) (g := g) (b := b) (c := c) (by omega) (by omega) (by omega) (by omega) h.hdet h.he h.hhb h.hb1 h.hb2 (by omega) h.hgcd
  have R := red_hom (s := sD d) (n := nD d) hM (by omega)
  have prim := h.prim f5 g5 hc2 hc3
  refine ⟨mem_clsL_of h1 (red_def hM).a0 ((red_disc hM).trans hd) (red_isRed hM) (red_prm hM prim), P.trans R⟩
end Go.Proofs.Ytifkmjmhhklkjaa
