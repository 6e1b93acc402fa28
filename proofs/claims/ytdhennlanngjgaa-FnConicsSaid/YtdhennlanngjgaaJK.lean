/- Plain facts: a x x + b y y = c z z. Mordell's descent gives Holzer's bound. No program in sight. -/
import Derived.Test.YtdhennlanngjgaaN1
namespace Go.Proofs.Ytdhennlanngjgaa

theorem two_or (n : Int) : n % 2 = 0 ∨ n % 2 = 1 := by omega
/-- Coprime integers. -/
def Cp (a b : Int) : Prop := ∃ u v : Int, u * a + v * b = 1
theorem Cp.of {a b : Int} (h : Int.gcd a b = 1) : Cp a b := by
  obtain ⟨x, y, e⟩ := bez a b
  exact ⟨x, y, by rw [e, h]; rfl⟩
theorem Cp.symm {a b : Int} (h : Cp a b) : Cp b a := by obtain ⟨u, v, e⟩ := h; exact ⟨v, u, by omega⟩
theorem Cp.mul {a b c : Int} (h : Cp a c) (k : Cp b c) : Cp (a * b) c := by
  obtain ⟨u, v, e⟩ := h
  obtain ⟨s, t, f⟩ := k
  exact ⟨u * s, u * a * t + v * s * b + v * t * c, by grind⟩
theorem Cp.dvd {a b x : Int} (h : Cp a b) (d : a ∣ b * x) : a ∣ x := by
  obtain ⟨u, v, e⟩ := h
  obtain ⟨k, hk⟩ := d
  exact ⟨u * x + v * k, by grind⟩
theorem Cp.two {a b x : Int} (h : Cp a b) (d : a ∣ x) (d2 : b ∣ x) : a * b ∣ x := by
  obtain ⟨u, v, e⟩ := h
  obtain ⟨k, hk⟩ := d
  obtain ⟨l, hl⟩ := d2
  exact ⟨u * l + v * k, by grind⟩
theorem Cp.left {a b c : Int} (h : Cp a b) (d : c ∣ a) : Cp c b := by
  obtain ⟨u, v, e⟩ := h
  obtain ⟨k, rfl⟩ := d
  exact ⟨u * k, v, by grind⟩
theorem Cp.neg {a b : Int} (h : Cp a b) : Cp (-a) b := by obtain ⟨u, v, e⟩ := h; exact ⟨-u, v, by grind⟩
theorem Cp.gcd {a b : Int} (h : Cp a b) : Int.gcd a b = 1 := by
  obtain ⟨u, v, e⟩ := h
  have h1 : (Int.gcd a b : Int) ∣ 1 := by
    rw [← e]; exact Int.dvd_add (Int.dvd_trans (Int.gcd_dvd_left ..) (Int.dvd_mul_left _ _)) (Int.dvd_trans (Int.gcd_dvd_right ..) (Int.dvd_mul_left _ _))
  exact Nat.dvd_one.1 (Int.natCast_dvd_natCast.1 h1)
/-- A number is its greatest divisor in common with another one times a part that is coprime to the rest. -/
theorem gcd_split {a b : Int} (h : a ≠ 0 ∨ b ≠ 0) : ∃ g k l : Int, 0 < g ∧ a = g * k ∧ b = g * l ∧ Cp k l := by
  obtain ⟨x, y, e⟩ := bez a b
  obtain ⟨k, hk⟩ := Int.gcd_dvd_left a b
  obtain ⟨l, hl⟩ := Int.gcd_dvd_right a b
  have hg : (Int.gcd a b : Int) ≠ 0 := by
    intro h0
    rw [h0] at hk hl
    rcases h with h | h
    · exact h (by rw [hk]; simp)
    · exact h (by rw [hl]; simp)
  refine ⟨(Int.gcd a b : Int), k, l, by omega, hk, hl, x, y, ?_⟩
  generalize (Int.gcd a b : Int) = g at *
  have : g * (x * k + y * l) = g * 1 := by grind
  exact Int.eq_of_mul_eq_mul_left hg this
/-- No square divides it. -/
def Sqf (a : Int) : Prop := ∀ q : Int, 2 ≤ q → ¬ q * q ∣ a
theorem Sqf.one {c q : Int} (h : Sqf c) (hq : q * q ∣ c) (h0 : c ≠ 0) : q = 1 ∨ q = -1 := by
  rcases Int.lt_trichotomy q 0 with h1 | h1 | h1
  · by_cases h2 : q = -1
    · exact .inr h2
    · exact absurd (by rw [Int.neg_mul_neg]; exact hq) (h (-q) (by omega))
  · subst h1; obtain ⟨k, hk⟩ := hq; exact absurd (by rw [hk]; simp) h0
  · by_cases h2 : q = 1
    · exact .inl h2
    · exact absurd hq (h q (by omega))
theorem Sqf.root {c g z : Int} (h : Sqf c) (h0 : c ≠ 0) (hg : g ≠ 0) (d : g * g ∣ c * (z * z)) : g ∣ z := by
  obtain ⟨e, k, l, he, rfl, rfl, hkl⟩ := gcd_split (a := g) (b := z) (.inl hg)
  obtain ⟨m, hm⟩ := d
  have e1 : (e * e) * (c * (l * l)) = (e * e) * ((k * k) * m) := by grind
  have e2 : c * (l * l) = (k * k) * m := Int.eq_of_mul_eq_mul_left (Int.mul_ne_zero (by omega) (by omega)) e1
  have h1 : Cp (k * k) (l * l) := (hkl.mul hkl).symm.mul (hkl.mul hkl).symm |>.symm
  have h2 : k * k ∣ c := h1.dvd ⟨m, by rw [← e2, Int.mul_comm]⟩
  rcases h.one h2 h0 with rfl | rfl
  · exact ⟨l, by grind⟩
  · exact ⟨-l, by grind⟩
structure Lg (a b c : Int) : Prop where
  a0 : 0 < a
  b0 : 0 < b
  c0 : 0 < c
  ab : Cp a b
  ac : Cp a c
  bc : Cp b c
  sa : Sqf a
  sb : Sqf b
  sc : Sqf c
def Sol (a b c x y z : Int) : Prop := a * (x * x) + b * (y * y) = c * (z * z)
theorem sq_nn (x : Int) : 0 ≤ x * x := by
  rcases Int.le_total 0 x with h | h
  · exact Int.mul_nonneg h h
  · have := Int.mul_nonneg (show 0 ≤ -x by omega) (show 0 ≤ -x by omega)
    rwa [Int.neg_mul_neg] at this
theorem sq_le {x z : Int} (h1 : -z ≤ x) (h2 : x ≤ z) : x * x ≤ z * z := by
  have := Int.mul_nonneg (show 0 ≤ z - x by omega) (show 0 ≤ z + x by omega)
  have e : (z - x) * (z + x) = z * z - x * x := by grind
  omega
theorem mord_even {a b d x y z : Int} (a0 : 0 < a) (b0 : 0 < b) (hc : Cp x y) (h : Sol a b (2 * d) x y z) (hz : 0 < z) (hl : a * b < z * z) :
    ∃ x' y' z', Sol a b (2 * d) x' y' z' ∧ 0 < z' ∧ z' < z := by
  obtain ⟨u, v, e⟩ := hc
  unfold Sol at *
  obtain ⟨M, hM⟩ : ∃ M, M = a * x * v - b * y * u := ⟨_, rfl⟩
  obtain ⟨Z, z1, z2⟩ : ∃ Z : Int, -z ≤ 2 * z * Z - M ∧ 2 * z * Z - M ≤ z := by
    have e1 := Int.emod_add_mul_ediv M (2 * z)
    have e2 := Int.emod_nonneg M (show (2 * z) ≠ 0 by omega)
    have e3 := Int.emod_lt_of_pos M (show 0 < 2 * z by omega)
    by_cases hr : M % (2 * z) ≤ z
    · exact ⟨M / (2 * z), by omega, by omega⟩
    · refine ⟨M / (2 * z) + 1, ?_, ?_⟩ <;> rw [Int.mul_add] <;> omega
  obtain ⟨Q, hQ⟩ : ∃ Q, Q = a * d * v * v + b * d * u * u - 2 * Z * Z := ⟨_, rfl⟩
  obtain ⟨L, hL⟩ : ∃ L, L = M - 2 * z * Z := ⟨_, rfl⟩
  have key : 2 * z * (z * Q - 2 * L * Z) = (2 * z * Z - M) * (2 * z * Z - M) + a * b := by
    have e3 : 2 * d * (z * z) * (a * v * v + b * u * u) - M * M = a * b * ((u * x + v * y) * (u * x + v * y)) := by rw [← h, hM]; grind
    rw [e] at e3
    rw [hL, hQ]; grind
  have ab0 : 0 < a * b := Int.mul_pos a0 b0
  have s1 := sq_nn (2 * z * Z - M)
  have s2 := sq_le z1 z2
  refine ⟨x * Q - 2 * L * d * v, y * Q + 2 * L * d * u, z * Q - 2 * L * Z, ?_, ?_, ?_⟩
  · have e4 : a * (x * (d * v)) - b * (y * (d * u)) - 2 * d * (z * Z) = d * L := by rw [hL, hM]; grind
    have e5 : a * ((d * v) * (d * v)) + b * ((d * u) * (d * u)) - 2 * d * (Z * Z) = d * Q := by rw [hQ]; grind
    have : a * ((x * Q - 2 * L * d * v) * (x * Q - 2 * L * d * v)) + b * ((y * Q + 2 * L * d * u) * (y * Q + 2 * L * d * u)) - 2 * d * ((z * Q - 2 * L * Z) * (z * Q - 2 * L * Z)) =
        Q * Q * (a * (x * x) + b * (y * y) - 2 * d * (z * z)) - 4 * (Q * L) * (a * (x * (d * v)) - b * (y * (d * u)) - 2 * d * (z * Z)) + 4 * (L * L) * (a * ((d * v) * (d * v)) + b * ((d * u) * (d * u)) - 2 * d * (Z * Z)) := by grind
    rw [e4, e5, h] at this
    grind
  · apply Int.not_le.1; intro hn
    have := Int.mul_le_mul_of_nonneg_left hn (show 0 ≤ 2 * z by omega)
    omega
  · apply Int.not_le.1; intro hn
    have := Int.mul_le_mul_of_nonneg_left hn (show 0 ≤ 2 * z by omega)
    have e6 : 2 * z * z = 2 * (z * z) := by grind
    omega
theorem mord_odd {a b c x y z : Int} (a0 : 0 < a) (b0 : 0 < b) (hc : Cp x y) (ho : c % 2 = 1) (h : Sol a b c x y z) (hz : 0 < z) (hl : a * b < z * z) :
    ∃ x' y' z', Sol a b c x' y' z' ∧ 0 < z' ∧ z' < z := by
  obtain ⟨u, v, e⟩ := hc
  unfold Sol at *
  obtain ⟨M, hM⟩ : ∃ M, M = a * x * v - b * y * u := ⟨_, rfl⟩
  obtain ⟨Z, z1, z2, z3⟩ : ∃ Z : Int, -z ≤ z * Z - M ∧ z * Z - M ≤ z ∧ (a * v * v + b * u * u - Z) % 2 = 0 := by
    have e1 := Int.emod_add_mul_ediv M z
    have e2 := Int.emod_nonneg M (show z ≠ 0 by omega)
    have e3 := Int.emod_lt_of_pos M hz
    by_cases hr : (a * v * v + b * u * u - M / z) % 2 = 0
    · exact ⟨M / z, by omega, by omega, hr⟩
    · refine ⟨M / z + 1, ?_, ?_, by omega⟩ <;> rw [Int.mul_add] <;> omega
  obtain ⟨L, hL⟩ : ∃ L, L = M - z * Z := ⟨_, rfl⟩
  obtain ⟨Q, hQ⟩ : ∃ Q, c * (a * v * v + b * u * u) - Z * Z = 2 * Q := by
    obtain ⟨k, hk⟩ := Int.dvd_of_emod_eq_zero z3
    obtain ⟨m, hm⟩ : ∃ m, c = 2 * m + 1 := ⟨c / 2, by omega⟩
    obtain ⟨t, ht⟩ : ∃ t, Z - Z * Z = 2 * t := by
      rcases two_or Z with h2 | h2
      · obtain ⟨n, rfl⟩ := Int.dvd_of_emod_eq_zero h2; exact ⟨n - 2 * n * n, by grind⟩
      · obtain ⟨n, rfl⟩ : ∃ n, Z = 2 * n + 1 := ⟨Z / 2, by omega⟩; exact ⟨-(2 * n * n + n), by grind⟩
    exact ⟨m * (a * v * v + b * u * u) + k + t, by rw [hm]; grind⟩
  have key : z * (z * (2 * Q) - 2 * L * Z) = (z * Z - M) * (z * Z - M) + a * b := by
    have e3 : c * (z * z) * (a * v * v + b * u * u) - M * M = a * b * ((u * x + v * y) * (u * x + v * y)) := by rw [← h, hM]; grind
    rw [e] at e3
    rw [hL, ← hQ]; grind
  have ab0 : 0 < a * b := Int.mul_pos a0 b0
  have s1 := sq_nn (z * Z - M)
  have s2 := sq_le z1 z2
  have e7 : z * (z * (2 * Q) - 2 * L * Z) = 2 * (z * (z * Q - L * Z)) := by grind
  rw [e7] at key
  refine ⟨x * Q - L * c * v, y * Q + L * c * u, z * Q - L * Z, ?_, ?_, ?_⟩
  · have e4 : a * (x * (c * v)) - b * (y * (c * u)) - c * (z * Z) = c * L := by rw [hL, hM]; grind
    have e5 : a * ((c * v) * (c * v)) + b * ((c * u) * (c * u)) - c * (Z * Z) = c * (2 * Q) := by rw [← hQ]; grind
    have : a * ((x * Q - L * c * v) * (x * Q - L * c * v)) + b * ((y * Q + L * c * u) * (y * Q + L * c * u)) - c * ((z * Q - L * Z) * (z * Q - L * Z)) =
        Q * Q * (a * (x * x) + b * (y * y) - c * (z * z)) - 2 * (Q * L) * (a * (x * (c * v)) - b * (y * (c * u)) - c * (z * Z)) + L * L * (a * ((c * v) * (c * v)) + b * ((c * u) * (c * u)) - c * (Z * Z)) := by grind
    rw [e4, e5, h] at this
    grind
  · apply Int.not_le.1; intro hn
    have := Int.mul_le_mul_of_nonneg_left hn (show 0 ≤ z by omega)
    omega
  · apply Int.not_le.1; intro hn
    have := Int.mul_le_mul_of_nonneg_left hn (show 0 ≤ z by omega)
    omega
/-- Holzer: the least solution lies within the bounds. -/
theorem holzer {a b c : Int} (hg : Lg a b c) : ∀ (n : Nat) (x y z : Int), z.toNat = n → 0 < z → Sol a b c x y z → ∃ x' y' z', Sol a b c x' y' z' ∧ 0 < z' ∧ z' * z' ≤ a * b ∧ Cp x' y' := by
  intro n
  induction n using Nat.strongRecOn with
  | ind n ih =>
  intro x y z hn hz h
  have hne : x ≠ 0 ∨ y ≠ 0 := by
    by_cases hx : x = 0
    · by_cases hy : y = 0
      · exfalso
        subst hx hy
        unfold Sol at h
        have := Int.mul_pos hg.c0 (Int.mul_pos hz hz)
        omega
      · exact .inr hy
    · exact .inl hx
  obtain ⟨g, k, l, g0, rfl, rfl, hkl⟩ := gcd_split hne
  have hd : g ∣ z := hg.sc.root (by have := hg.c0; omega) (by omega) ⟨a * (k * k) + b * (l * l), by unfold Sol at h; rw [← h]; grind⟩
  obtain ⟨m, rfl⟩ := hd
  have hm : 0 < m := by
    apply Int.not_le.1; intro hn
    have := Int.mul_le_mul_of_nonneg_left hn (show 0 ≤ g by omega)
    omega
  have hs : Sol a b c k l m := by
    unfold Sol at *
    have e1 : (g * g) * (a * (k * k) + b * (l * l)) = (g * g) * (c * (m * m)) := by grind
    exact Int.eq_of_mul_eq_mul_left (Int.mul_ne_zero (by omega) (by omega)) e1
  have hle : m ≤ g * m := by
    have := Int.mul_le_mul_of_nonneg_right (show 1 ≤ g by omega) (show 0 ≤ m by omega)
    omega
  by_cases hb : m * m ≤ a * b
  · exact ⟨k, l, m, hs, hm, hb, hkl⟩
  · have st : ∃ x' y' z', Sol a b c x' y' z' ∧ 0 < z' ∧ z' < m := by
      rcases two_or c with h2 | h2
      · obtain ⟨d, rfl⟩ := Int.dvd_of_emod_eq_zero h2
        exact mord_even hg.a0 hg.b0 hkl hs hm (by omega)
      · exact mord_odd hg.a0 hg.b0 hkl h2 hs hm (by omega)
    obtain ⟨x', y', z', h1, h2, h3⟩ := st
    exact ih z'.toNat (by omega) x' y' z' rfl h2 h1
end Go.Proofs.Ytdhennlanngjgaa
