/- Plain facts: the loop that finds an inverse. No program in sight. -/
import Derived.Test.YtifkmjmhhklkjaaM15
namespace Go.Proofs.Ytifkmjmhhklkjaa

structure InvSt (a m r s x y : Int) : Prop where
  r0 : 0 ≤ r
  rm : r ≤ m
  s0 : 0 ≤ s
  sm : s ≤ m
  g : Int.gcd r s = Int.gcd a m
  d1 : m ∣ r - a * x
  d2 : m ∣ s - a * y
  xb : -m ≤ x ∧ x ≤ m
  yb : -m ≤ y ∧ y ≤ m
  sg : (0 ≤ x ∧ y ≤ 0 ∧ x * s - y * r = m) ∨ (x ≤ 0 ∧ 0 ≤ y ∧ y * r - x * s = m)

theorem gcd_emod_l (a m : Int) : Int.gcd (a % m) m = Int.gcd a m := by
  rw [Int.gcd_comm (a % m), Int.gcd_comm a]
  have h := Int.gcd_self_sub_left
  apply Nat.dvd_antisymm
  · apply Int.ofNat_dvd.1
    refine Int.dvd_coe_gcd (Int.gcd_dvd_left _ _) ?_
    have h1 : ((Int.gcd m (a % m) : Nat) : Int) ∣ m := Int.gcd_dvd_left _ _
    have h2 : ((Int.gcd m (a % m) : Nat) : Int) ∣ a % m := Int.gcd_dvd_right _ _
    have := Int.dvd_add h2 (Int.dvd_trans h1 (Int.dvd_mul_right m (a / m)))
    rwa [Int.emod_add_mul_ediv] at this
  · apply Int.ofNat_dvd.1
    refine Int.dvd_coe_gcd (Int.gcd_dvd_left _ _) ?_
    have h1 : ((Int.gcd m a : Nat) : Int) ∣ m := Int.gcd_dvd_left _ _
    have h2 : ((Int.gcd m a : Nat) : Int) ∣ a := Int.gcd_dvd_right _ _
    have := Int.dvd_sub h2 (Int.dvd_trans h1 (Int.dvd_mul_right m (a / m)))
    have e : a - m * (a / m) = a % m := by have := Int.emod_add_mul_ediv a m; omega
    rwa [e] at this
theorem dvd_emod_sub (a m : Int) : m ∣ a % m - a := ⟨-(a / m), by have := Int.emod_add_mul_ediv a m; rw [Int.mul_neg]; omega⟩

theorem InvSt.start1 {a m : Int} (hm : 0 < m) : InvSt a m (a % m) m 1 0 := by
  have h1 := Int.emod_nonneg a (show m ≠ 0 by omega)
  have h2 := Int.emod_lt_of_pos a hm
  exact ⟨h1, by omega, by omega, by omega, gcd_emod_l a m, by simpa using dvd_emod_sub a m, by simp, by omega, by omega, .inl ⟨by omega, by omega, by simp⟩⟩
theorem InvSt.start2 {a m : Int} (hm : 0 < m) : InvSt a m m (a % m) 0 1 := by
  have h1 := Int.emod_nonneg a (show m ≠ 0 by omega)
  have h2 := Int.emod_lt_of_pos a hm
  exact ⟨by omega, by omega, h1, by omega, by rw [Int.gcd_comm]; exact gcd_emod_l a m, by simp, by simpa using dvd_emod_sub a m, by omega, by omega, .inr ⟨by omega, by omega, by simp⟩⟩

theorem le_of_mul_pos {y s m : Int} (hy : 0 ≤ y) (hs : 1 ≤ s) (h : y * s ≤ m) : y ≤ m := by
  have := Int.mul_le_mul_of_nonneg_left hs hy
  omega

theorem InvSt.step {a m r s x y : Int} (h : InvSt a m r s x y) (hs : 0 < s) : InvSt a m s (r - r / s * s) y (x - r / s * y) := by
  obtain ⟨r0, rm, s0, sm, g, d1, d2, xb, yb, sg⟩ := h
  have e : r - r / s * s = r % s := by have := Int.emod_add_mul_ediv r s; rw [Int.mul_comm s] at this; omega
  have h1 := Int.emod_nonneg r (show s ≠ 0 by omega)
  have h2 := Int.emod_lt_of_pos r hs
  have hq : 0 ≤ r / s := Int.ediv_nonneg r0 (by omega)
  have hg : Int.gcd s (r - r / s * s) = Int.gcd a m := by
    rw [e, ← g, Int.gcd_comm, gcd_emod_l]
  generalize r / s = q at *
  obtain ⟨u, hu⟩ := d1
  obtain ⟨v, hv⟩ := d2
  have d3 : m ∣ r - q * s - a * (x - q * y) := ⟨u - q * v, by
    have e1 : r - q * s - a * (x - q * y) = (r - a * x) - q * (s - a * y) := by grind
    rw [e1, hu, hv]; grind⟩
  rcases sg with ⟨s1, s2, s3⟩ | ⟨s1, s2, s3⟩
  · have hqy : 0 ≤ q * -y := Int.mul_nonneg hq (by omega)
    have hqy2 : q * -y = -(q * y) := Int.mul_neg _ _
    have k : (x - q * y) * s - y * (r - q * s) = m := by rw [← s3]; grind
    have k1 : 0 ≤ -y * (r - q * s) := Int.mul_nonneg (by omega) (by omega)
    have k2 : -y * (r - q * s) = -(y * (r - q * s)) := Int.neg_mul _ _
    have k3 : x - q * y ≤ m := le_of_mul_pos (by omega) (show 1 ≤ s by omega) (by omega)
    exact ⟨s0, sm, by omega, by omega, hg, ⟨v, hv⟩, d3, yb, by omega, .inr ⟨s2, by omega, k⟩⟩
  · have hqy : 0 ≤ q * y := Int.mul_nonneg hq (by omega)
    have k : y * (r - q * s) - (x - q * y) * s = m := by rw [← s3]; grind
    have k1 : 0 ≤ y * (r - q * s) := Int.mul_nonneg (by omega) (by omega)
    have k2 : -(x - q * y) * s = -((x - q * y) * s) := Int.neg_mul _ _
    have k3 : -(x - q * y) ≤ m := le_of_mul_pos (by omega) (show 1 ≤ s by omega) (by omega)
    exact ⟨s0, sm, by omega, by omega, hg, ⟨v, hv⟩, d3, yb, by omega, .inl ⟨s2, by omega, k⟩⟩
theorem InvSt.done {a m r x y : Int} (h : InvSt a m r 0 x y) : m ∣ Int.gcd a m - a * (x % m) := by
  have hg : r = Int.gcd a m := by
    rw [← h.g]; simp; have := h.r0; omega
  obtain ⟨u, hu⟩ := h.d1
  have e := Int.emod_add_mul_ediv x m
  rw [← hg]
  refine ⟨u + a * (x / m), ?_⟩
  have e2 : x % m = x - m * (x / m) := by omega
  rw [e2]; grind
end Go.Proofs.Ytifkmjmhhklkjaa
