/- Plain facts: the point for the composition, over the integers. No program in sight. -/
import Derived.Test.YtifkmjmhhklkjaaM6
namespace Go.Proofs.Ytifkmjmhhklkjaa

/-- A primitive form has a small coprime point whose value is coprime to a. -/
theorem pt_int {a A B C : Int} (h0 : 0 < a) (h1 : a ≤ 26) (hp : Int.gcd A (Int.gcd B C) = 1) :
    ∃ x y : Int, (0 ≤ x ∧ x ≤ 3) ∧ (0 ≤ y ∧ y ≤ 3) ∧ Int.gcd x y = 1 ∧ Int.gcd (A * (x * x) + B * (x * y) + C * (y * y)) a = 1 := by
  have e : ∀ Z : Int, ((Z % a).toNat : Int) = Z % a := fun Z => Int.toNat_of_nonneg (Int.emod_nonneg _ (by omega))
  have l : ∀ Z : Int, (Z % a).toNat < a.toNat := fun Z => by
    have := Int.emod_lt_of_pos Z h0
    have := e Z
    omega
  have ea : (a.toNat : Int) = a := Int.toNat_of_nonneg (by omega)
  have dv : ∀ (k : Nat) (Z : Int), k ∣ (Z % a).toNat → k ∣ a.toNat → (k : Int) ∣ Z := by
    intro k Z hk ha
    have k1 : (k : Int) ∣ Z % a := by rw [← e]; exact Int.ofNat_dvd.2 hk
    have k2 : (k : Int) ∣ a := by rw [← ea]; exact Int.ofNat_dvd.2 ha
    have := Int.emod_add_mul_ediv Z a
    rw [← this]
    exact Int.dvd_add k1 (Int.dvd_trans k2 (Int.dvd_mul_right _ _))
  have hg : Nat.gcd (Nat.gcd (A % a).toNat (B % a).toNat) (Nat.gcd (C % a).toNat a.toNat) = 1 := by
    generalize hk : Nat.gcd (Nat.gcd (A % a).toNat (B % a).toNat) (Nat.gcd (C % a).toNat a.toNat) = k
    have k1 : k ∣ Nat.gcd (A % a).toNat (B % a).toNat := hk ▸ Nat.gcd_dvd_left _ _
    have k2 : k ∣ Nat.gcd (C % a).toNat a.toNat := hk ▸ Nat.gcd_dvd_right _ _
    have k3 := Nat.dvd_trans k2 (Nat.gcd_dvd_right _ _)
    have d1 := dv k A (Nat.dvd_trans k1 (Nat.gcd_dvd_left _ _)) k3
    have d2 := dv k B (Nat.dvd_trans k1 (Nat.gcd_dvd_right _ _)) k3
    have d3 := dv k C (Nat.dvd_trans k2 (Nat.gcd_dvd_left _ _)) k3
    have d4 : (k : Int) ∣ (Int.gcd A (Int.gcd B C) : Int) := Int.dvd_coe_gcd d1 (Int.dvd_coe_gcd d2 d3)
    rw [hp] at d4
    exact Nat.dvd_one.1 (Int.ofNat_dvd.1 d4)
  have hk := pt_nat (show a.toNat < 27 by omega) (l A) (l B) (l C) hg
  unfold ptOk at hk
  rw [List.any_eq_true] at hk
  obtain ⟨⟨x, y⟩, hm, hv⟩ := hk
  simp only at hv
  have hv1 := eq_of_beq hv
  have hxy : x ≤ 3 ∧ y ≤ 3 ∧ Nat.gcd x y = 1 := by
    simp only [pts, List.mem_cons, Prod.mk.injEq, List.not_mem_nil, or_false] at hm
    rcases hm with h | h | h | h | h | h | h | h | h <;> obtain ⟨rfl, rfl⟩ := h <;> decide
  refine ⟨x, y, ⟨by omega, by omega⟩, ⟨by omega, by omega⟩, hxy.2.2, ?_⟩
  generalize hk : Int.gcd (A * ((x : Int) * x) + B * ((x : Int) * y) + C * ((y : Int) * y)) a = k
  have k1 : (k : Int) ∣ A * ((x : Int) * x) + B * ((x : Int) * y) + C * ((y : Int) * y) := hk ▸ Int.gcd_dvd_left _ _
  have k2 : (k : Int) ∣ a := hk ▸ Int.gcd_dvd_right _ _
  have k3 : (k : Int) ∣ ((A % a).toNat * (x * x) + (B % a).toNat * (x * y) + (C % a).toNat * (y * y) : Nat) := by
    have e1 : (((A % a).toNat * (x * x) + (B % a).toNat * (x * y) + (C % a).toNat * (y * y) : Nat) : Int) = A * ((x : Int) * x) + B * ((x : Int) * y) + C * ((y : Int) * y) - a * (A / a * (x * x) + B / a * (x * y) + C / a * (y * y)) := by
      push_cast
      rw [e, e, e]
      have m1 := Int.emod_add_mul_ediv A a
      have m2 := Int.emod_add_mul_ediv B a
      have m3 := Int.emod_add_mul_ediv C a
      have n1 : A % a = A - a * (A / a) := by omega
      have n2 : B % a = B - a * (B / a) := by omega
      have n3 : C % a = C - a * (C / a) := by omega
      rw [n1, n2, n3]
      generalize A / a = u
      generalize B / a = v
      generalize C / a = w
      clear m1 m2 m3 n1 n2 n3
      grind
    rw [e1]
    exact Int.dvd_sub k1 (Int.dvd_trans k2 (Int.dvd_mul_right _ _))
  have k4 : k ∣ Nat.gcd ((A % a).toNat * (x * x) + (B % a).toNat * (x * y) + (C % a).toNat * (y * y)) a.toNat :=
    Nat.dvd_gcd (Int.ofNat_dvd.1 k3) (Int.ofNat_dvd.1 (by rw [ea]; exact k2))
  rw [hv1] at k4
  exact Nat.dvd_one.1 k4
end Go.Proofs.Ytifkmjmhhklkjaa
