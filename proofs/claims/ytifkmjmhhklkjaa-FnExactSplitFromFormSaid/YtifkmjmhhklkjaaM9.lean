/- Plain facts: the composite of two primitive forms is a primitive form. No program in sight. -/
import Derived.Test.YtifkmjmhhklkjaaM8
namespace Go.Proofs.Ytifkmjmhhklkjaa

/-- What the composition of two forms is made from: a point (x, y), its completion (q, t), the value e, the middle hb and the last coefficient hc there, and the b that fits both. -/
structure Uni (f g : Fm) (x y q t e hb hc b t1 t2 k l : Int) : Prop where
  hdet : x * t - q * y = 1
  he : e = g.a * (x * x) + g.b * (x * y) + g.c * (y * y)
  hhb : hb = 2 * (g.a * (x * q)) + g.b * (x * t + q * y) + 2 * (g.c * (y * t))
  hhc : hc = g.a * (q * q) + g.b * (q * t) + g.c * (t * t)
  hb1 : b = f.b + 2 * (f.a * t1)
  hb2 : b = hb + 2 * (e * t2)
  hgcd : k * f.a + l * e = 1

theorem Uni.disc_h {f g : Fm} {x y q t e hb hc b t1 t2 k l : Int} (h : Uni f g x y q t e hb hc b t1 t2 k l) : disc ⟨e, hb, hc⟩ = disc g := by
  have hd := h.hdet
  have e1 := h.he
  have e2 := h.hhb
  have e3 := h.hhc
  have key : disc ⟨e, hb, hc⟩ = disc g * ((x * t - q * y) * (x * t - q * y)) := by
    simp only [disc]; rw [e1, e2, e3]; grind
  rw [key, hd]; simp

theorem Uni.c {f g : Fm} {x y q t e hb hc b t1 t2 k l : Int} (h : Uni f g x y q t e hb hc b t1 t2 k l) (hD : disc f = disc g) :
    ∃ c, b * b - disc f = 4 * (f.a * e) * c ∧ e * c = f.a * (t1 * t1) + f.b * t1 + f.c ∧ f.a * c = e * (t2 * t2) + hb * t2 + hc := by
  have hh := h.disc_h
  have h1 : b * b - disc f = 4 * (f.a * (f.a * (t1 * t1) + f.b * t1 + f.c)) := by
    rw [h.hb1]; simp only [disc]; grind
  have h2 : b * b - disc f = 4 * (e * (e * (t2 * t2) + hb * t2 + hc)) := by
    rw [hD, ← hh, h.hb2]; simp only [disc]; grind
  have hg := h.hgcd
  generalize hu : f.a * (t1 * t1) + f.b * t1 + f.c = u at *
  generalize hv : e * (t2 * t2) + hb * t2 + hc = v at *
  have huv : f.a * u = e * v := by omega
  have hu1 : u = e * (k * v + l * u) := by
    have : u = (k * f.a + l * e) * u := by rw [hg, Int.one_mul]
    rw [this]; grind
  have hv1 : v = f.a * (k * v + l * u) := by
    have : v = (k * f.a + l * e) * v := by rw [hg, Int.one_mul]
    rw [this]; grind
  refine ⟨k * v + l * u, ?_, hu1.symm, hv1.symm⟩
  rw [h1]
  rw (occs := .pos [1]) [hu1]
  grind

/-- The composite has no common divisor. -/
theorem Uni.prim {f g : Fm} {x y q t e hb hc b t1 t2 k l c : Int} (h : Uni f g x y q t e hb hc b t1 t2 k l) (hf : Int.gcd f.a (Int.gcd f.b f.c) = 1) (hg : Int.gcd g.a (Int.gcd g.b g.c) = 1)
    (h1 : e * c = f.a * (t1 * t1) + f.b * t1 + f.c) (h2 : f.a * c = e * (t2 * t2) + hb * t2 + hc) : Int.gcd (f.a * e) (Int.gcd b c) = 1 := by
  have A : ∀ m : Int, m ∣ f.a → m ∣ b → m ∣ c → m ∣ 1 := by
    rintro m ⟨u, hu⟩ ⟨v, hv⟩ ⟨w, hw⟩
    have d1 : m ∣ f.a := ⟨u, hu⟩
    have d2 : m ∣ f.b := ⟨v - 2 * (u * t1), by have := h.hb1; rw [hu, hv] at this; grind⟩
    obtain ⟨v', hv'⟩ := d2
    have d3 : m ∣ f.c := ⟨e * w - u * (t1 * t1) - v' * t1, by rw [hu, hv', hw] at h1; grind⟩
    have := Int.dvd_coe_gcd d1 (Int.dvd_coe_gcd ⟨v', hv'⟩ d3)
    rw [hf] at this; exact this
  have E : ∀ m : Int, m ∣ e → m ∣ b → m ∣ c → m ∣ 1 := by
    rintro m ⟨u, hu⟩ ⟨v, hv⟩ ⟨w, hw⟩
    obtain ⟨v', hv'⟩ : m ∣ hb := ⟨v - 2 * (u * t2), by have := h.hb2; rw [hu, hv] at this; grind⟩
    obtain ⟨w', hw'⟩ : m ∣ hc := ⟨f.a * w - u * (t2 * t2) - v' * t2, by rw [hu, hv', hw] at h2; grind⟩
    have hd : x * t = 1 + q * y := by have := h.hdet; omega
    have i1 : g.a = e * (t * t) - hb * (t * y) + hc * (y * y) := by rw [h.he, h.hhb, h.hhc]; grind
    have i2 : g.b = -(2 * (e * (t * q))) + hb * (x * t + q * y) - 2 * (hc * (x * y)) := by rw [h.he, h.hhb, h.hhc]; grind
    have i3 : g.c = e * (q * q) - hb * (q * x) + hc * (x * x) := by
      have key : e * (q * q) - hb * (q * x) + hc * (x * x) = g.c * ((x * t - q * y) * (x * t - q * y)) := by
        rw [h.he, h.hhb, h.hhc]
        clear i1 i2 hd hw' hv' hu hv hw A h1 h2 hf hg
        grind
      rw [key, h.hdet]; simp
    have d1 : m ∣ g.a := ⟨u * (t * t) - v' * (t * y) + w' * (y * y), by rw [i1, hu, hv', hw']; grind⟩
    have d2 : m ∣ g.b := ⟨-(2 * (u * (t * q))) + v' * (x * t + q * y) - 2 * (w' * (x * y)), by rw [i2, hu, hv', hw']; grind⟩
    have d3 : m ∣ g.c := ⟨u * (q * q) - v' * (q * x) + w' * (x * x), by rw [i3, hu, hv', hw']; grind⟩
    have := Int.dvd_coe_gcd d1 (Int.dvd_coe_gcd d2 d3)
    rw [hg] at this; exact this
  generalize hm : Int.gcd (f.a * e) (Int.gcd b c) = m
  have m1 : (m : Int) ∣ f.a * e := hm ▸ Int.gcd_dvd_left _ _
  have m2 : (m : Int) ∣ (Int.gcd b c : Int) := hm ▸ Int.gcd_dvd_right _ _
  have m3 : (m : Int) ∣ b := Int.dvd_trans m2 (Int.gcd_dvd_left _ _)
  have m4 : (m : Int) ∣ c := Int.dvd_trans m2 (Int.gcd_dvd_right _ _)
  have g1 : Int.gcd m f.a = 1 := by
    have k1 : (Int.gcd m f.a : Int) ∣ m := Int.gcd_dvd_left _ _
    have := A _ (Int.gcd_dvd_right _ _) (Int.dvd_trans k1 m3) (Int.dvd_trans k1 m4)
    exact Nat.dvd_one.1 (Int.ofNat_dvd.1 this)
  have m5 : (m : Int) ∣ e := by
    have n1 : m ∣ f.a.natAbs * e.natAbs := by
      rw [← Int.natAbs_mul]; exact Int.ofNat_dvd_left.1 m1
    have n2 : Nat.Coprime m f.a.natAbs := g1
    exact Int.ofNat_dvd_left.2 (n2.dvd_of_dvd_mul_left n1)
  exact Nat.dvd_one.1 (Int.ofNat_dvd.1 (E _ m5 m3 m4))
end Go.Proofs.Ytifkmjmhhklkjaa
