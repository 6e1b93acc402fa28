/- Plain facts: what the data of a composite give. -/
import Derived.Test.YtifkmjmhhklkjaaU4
namespace Go.Proofs.Ytifkmjmhhklkjaa
open Go.RowKit

variable {d : Int} {f g : Fm} {x y S Q T e h k b c t1 t2 : Int}
theorem UD.e_pos (u : UD d f g x y S Q T e h k b c t1 t2) : 0 < e ∧ e ≤ 20000 := by
  have h1 := u.co.he; have h2 := u.co.e_bd; rw [u.ee]; exact ⟨h1, h2⟩
theorem UD.h_bd (u : UD d f g x y S Q T e h k b c t1 t2) : 0 ≤ h ∧ h < 2 * e := by
  have h1 := u.co.hb0; rw [u.eh, u.ee]; exact h1
theorem UD.cop (u : UD d f g x y S Q T e h k b c t1 t2) : Int.gcd f.a e = 1 := by
  rw [Int.gcd_comm, u.ee]; exact u.pt.2.2.1.2
theorem UD.ae (u : UD d f g x y S Q T e h k b c t1 t2) : 1 ≤ f.a * e ∧ f.a * e ≤ 520000 := by
  obtain ⟨⟨a1, a2⟩, _, _⟩ := cls_bd u.D.lo u.hf
  obtain ⟨e1, e2⟩ := u.e_pos
  have h1 : 0 < f.a * e := Int.mul_pos (by omega) e1
  have h2 : f.a * e ≤ 26 * 20000 := Int.mul_le_mul a2 e2 (by omega) (by omega)
  omega
theorem UD.c_bd (u : UD d f g x y S Q T e h k b c t1 t2) : 0 < c ∧ c ≤ 1000000 := by
  obtain ⟨a1, a2⟩ := u.ae
  have b0 := u.b0
  have b1 := u.b1
  have hc := u.hc
  have d1 := u.D.lo; have d2 := u.D.hi
  have e1 : 4 * (f.a * e) * c = 4 * (f.a * e * c) := Int.mul_assoc _ _ _
  generalize f.a * e = m at *
  have hb2 : b * b < 4 * (m * c) := by omega
  have c0 := c_of_disc (by omega) hb2
  refine ⟨c0, ?_⟩
  apply Int.not_lt.1; intro hl
  have h1 : b * b ≤ 2 * m * (2 * m) := Int.mul_le_mul (by omega) (by omega) (by omega) (by omega)
  have h2 : m * 1000001 ≤ m * c := Int.mul_le_mul_of_nonneg_left (by omega) (by omega)
  have h3 : m * m ≤ m * 520000 := Int.mul_le_mul_of_nonneg_left (by omega) (by omega)
  have h4 : 2 * m * (2 * m) = 4 * (m * m) := by grind
  omega
theorem UD.dfn (u : UD d f g x y S Q T e h k b c t1 t2) : Def M0 ⟨f.a * e, b, c⟩ := by
  obtain ⟨a1, a2⟩ := u.ae
  obtain ⟨c1, c2⟩ := u.c_bd
  have hc := u.hc
  have d2 := u.D.hi
  have e1 : 4 * (f.a * e) * c = 4 * (f.a * e * c) := Int.mul_assoc _ _ _
  unfold M0
  exact ⟨by show 0 < f.a * e; omega, by show f.a * e ≤ _; omega, c1, by show c ≤ _; omega, by show b * b < 4 * (f.a * e * c); omega⟩
theorem UD.cmp (u : UD d f g x y S Q T e h k b c t1 t2) : red ⟨f.a * e, b, c⟩ = cmp d f g := by
  obtain ⟨l, m, hlm⟩ := bez f.a e
  rw [u.cop] at hlm
  have U : Uni f g x y (Q + T * x) (S + T * y) e h k b t1 t2 l m :=
    ⟨u.co.det, by rw [u.ee]; exact atF_eq _ _ _ _ _, by rw [u.eh]; unfold polF; grind, by rw [u.ek]; exact atF_eq _ _ _ _ _, u.t1, u.t2, by simpa using hlm⟩
  exact (u.D.of (U.cmp u.D.lo u.D.md u.hf u.hg u.e_pos.1 u.hc u.dfn)).symm
/-- Two residues of one number. -/
theorem UD.crt (u : UD d f g x y S Q T e h k b c t1 t2) {b' : Int} (h0 : 0 ≤ b') (h1 : b' < 2 * (f.a * e)) (d1 : 2 * f.a ∣ b' - b) (d2 : 2 * e ∣ b' - b) : b' = b := by
  obtain ⟨v, hv⟩ := d1
  have e1 : 2 * e ∣ 2 * (f.a * v) := by rw [hv] at d2; have e9 : 2 * f.a * v = 2 * (f.a * v) := Int.mul_assoc _ _ _; rwa [e9] at d2
  have e2 : e ∣ f.a * v := Int.dvd_of_mul_dvd_mul_left (by omega) e1
  have e3 : e ∣ v := by
    rw [← Int.natAbs_dvd_natAbs, Int.natAbs_mul] at e2
    rw [← Int.natAbs_dvd_natAbs]
    exact Nat.Coprime.dvd_of_dvd_mul_left (show Nat.Coprime e.natAbs f.a.natAbs by unfold Nat.Coprime; rw [Nat.gcd_comm]; exact u.cop) e2
  obtain ⟨z, hz⟩ := e3
  have e4 : b' - b = 2 * (f.a * e) * z := by rw [hv, hz]; grind
  have b0 := u.b0
  have b1 := u.b1
  have a1 := u.ae.1
  generalize f.a * e = m at *
  have z0 : z = 0 := by
    rcases Int.lt_trichotomy z 0 with hl | hl | hl
    · have : 2 * m * z ≤ 2 * m * (-1) := Int.mul_le_mul_of_nonneg_left (by omega) (by omega)
      omega
    · exact hl
    · have : 2 * m * 1 ≤ 2 * m * z := Int.mul_le_mul_of_nonneg_left (by omega) (by omega)
      omega
  rw [z0] at e4; simp at e4; omega
/-- The search for b. -/
theorem UD.start (u : UD d f g x y S Q T e h k b c t1 t2) : ∃ N : Nat, (N : Int) ≤ 20000 ∧ b = f.b % (2 * f.a) + 2 * f.a * N ∧ (b - h) % (2 * e) = 0 ∧ ∀ j : Nat, j < N → ¬ (f.b % (2 * f.a) + 2 * f.a * j - h) % (2 * e) = 0 := by
  obtain ⟨⟨a1, a2⟩, _, _⟩ := cls_bd u.D.lo u.hf
  obtain ⟨e1, e2⟩ := u.e_pos
  have b0 := u.b0
  have b1 := u.b1
  have m1 := Int.emod_add_mul_ediv b (2 * f.a)
  have m0 : b % (2 * f.a) = f.b % (2 * f.a) := by
    rw [u.t1, ← Int.mul_assoc]; exact Int.add_mul_emod_self_left _ _ _
  have m2 := Int.emod_nonneg b (show 2 * f.a ≠ 0 by omega)
  have m3 := Int.emod_lt_of_pos b (show 0 < 2 * f.a by omega)
  have m4 : 0 ≤ b / (2 * f.a) := Int.ediv_nonneg b0 (by omega)
  rw [m0] at m1 m2 m3
  have m5 : b / (2 * f.a) < e := by
    apply Int.ediv_lt_of_lt_mul (by omega)
    have : e * (2 * f.a) = 2 * (f.a * e) := by grind
    omega
  have hbh : (b - h) % (2 * e) = 0 := by
    apply Int.emod_eq_zero_of_dvd
    exact ⟨t2, by have := u.t2; have := Int.mul_assoc 2 e t2; omega⟩
  refine ⟨(b / (2 * f.a)).toNat, by omega, by rw [Int.toNat_of_nonneg m4]; omega, hbh, ?_⟩
  intro j hj h0
  have hj' : (j : Int) < b / (2 * f.a) := by omega
  have k1 : 2 * f.a * j ≤ 2 * f.a * (b / (2 * f.a)) := Int.mul_le_mul_of_nonneg_left (by omega) (by omega)
  have k0 : 0 ≤ 2 * f.a * (j : Int) := Int.mul_nonneg (by omega) (by omega)
  have := u.crt (b' := f.b % (2 * f.a) + 2 * f.a * j) (by omega) (by omega) ⟨j - b / (2 * f.a), by rw [Int.mul_sub]; omega⟩ (by
    have d1 := Int.dvd_of_emod_eq_zero h0
    have d2 := Int.dvd_of_emod_eq_zero hbh
    have := Int.dvd_sub d1 d2
    have e9 : f.b % (2 * f.a) + 2 * f.a * (j : Int) - h - (b - h) = f.b % (2 * f.a) + 2 * f.a * j - b := by omega
    rwa [e9] at this)
  have e8 : 2 * f.a * (j : Int) = 2 * f.a * (b / (2 * f.a)) := by omega
  have := Int.eq_of_mul_eq_mul_left (show 2 * f.a ≠ 0 by omega) e8
  omega
theorem UD.b_mod (u : UD d f g x y S Q T e h k b c t1 t2) : b % (2 * (f.a * e)) = b := Int.emod_eq_of_lt u.b0 u.b1
/-- The common residue, as the reference reckons it. -/
theorem UD.common (u : UD d f g x y S Q T e h k b c t1 t2) (i : Int) (hi : i = invF f.a e) :
    (h - f.b % (2 * f.a)) % 2 = 0 ∧ (f.b % (2 * f.a) + 2 * f.a * (((h - f.b % (2 * f.a)) / 2 * i) % e)) % (2 * (f.a * e)) = b := by
  obtain ⟨⟨a1, a2⟩, _, _⟩ := cls_bd u.D.lo u.hf
  obtain ⟨e1, e2⟩ := u.e_pos
  obtain ⟨_, w, hw⟩ := inv_spec e1 u.cop
  rw [← hi] at hw
  have p : (h - f.b % (2 * f.a)) = 2 * ((h - f.b % (2 * f.a)) / 2) := by
    have q1 := u.t1; have q2 := u.t2
    have m1 := Int.emod_add_mul_ediv f.b (2 * f.a)
    have q3 : 2 * f.a * (f.b / (2 * f.a)) = 2 * (f.a * (f.b / (2 * f.a))) := Int.mul_assoc _ _ _
    omega
  refine ⟨by omega, ?_⟩
  generalize (h - f.b % (2 * f.a)) / 2 = z at *
  have r1 := Int.emod_add_mul_ediv (z * i) e
  generalize hr : (z * i) / e = r at *
  generalize hs : (z * i) % e = s at *
  have n1 := Int.emod_add_mul_ediv (f.b % (2 * f.a) + 2 * f.a * s) (2 * (f.a * e))
  have ae := u.ae.1
  apply u.crt (Int.emod_nonneg _ (by omega)) (Int.emod_lt_of_pos _ (by omega))
  all_goals generalize (f.b % (2 * f.a) + 2 * f.a * s) / (2 * (f.a * e)) = n at *
  all_goals have q1 := u.t1
  all_goals have q2 := u.t2
  all_goals have m1 := Int.emod_add_mul_ediv f.b (2 * f.a)
  all_goals generalize f.b / (2 * f.a) = v at *
  all_goals generalize (f.b % (2 * f.a) + 2 * f.a * s) % (2 * (f.a * e)) = B at *
  · exact ⟨s - e * n - t1 - v, by grind⟩
  · refine ⟨-(z * w) - f.a * r - f.a * n - t2, ?_⟩
    have e5 : f.a * s = z - e * (z * w) - f.a * (e * r) := by
      have e6 : f.a * i = 1 - e * w := by omega
      have e7 : s = z * i - e * r := by omega
      rw [e7, Int.mul_sub]
      have e8 : f.a * (z * i) = z * (f.a * i) := by grind
      rw [e8, e6]; grind
    have e9 : B = f.b % (2 * f.a) + 2 * (f.a * s) - 2 * (f.a * e) * n := by have := Int.mul_assoc 2 f.a s; omega
    rw [e9, e5]
    have e10 : f.b % (2 * f.a) = h - 2 * z := by omega
    rw [e10, q2]; grind
end Go.Proofs.Ytifkmjmhhklkjaa
