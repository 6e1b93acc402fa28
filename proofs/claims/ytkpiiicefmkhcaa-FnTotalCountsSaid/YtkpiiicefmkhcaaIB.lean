/- Plain: a point is completed to a matrix, for all shown forms. -/
import Derived.Test.YtkpiiicefmkhcaaUA
import Derived.Test.YtkpiiicefmkhcaaCA
namespace Go.Proofs.Ytkpiiicefmkhcaa
open Go.RowKit

/-- As Go reckons: a value, without the steps. -/
theorem wrap_ex (x : Int) : ∃ k, wrap64 x = x + 18446744073709551616 * k := by
  unfold wrap64
  refine ⟨-((x + 9223372036854775808) / 18446744073709551616), ?_⟩
  have := Int.emod_add_mul_ediv (x + 9223372036854775808) 18446744073709551616
  rw [Int.mul_neg]; omega
theorem pos_of_mul {k x : Int} (hk : 0 < k) (h : 0 < k * x) : 0 < x := by
  apply Int.not_le.1; intro hl
  have := Int.mul_le_mul_of_nonneg_left hl (Int.le_of_lt hk)
  rw [Int.mul_zero] at this; omega
theorem wrap_of {x y : Int} (k : Int) (h : y = x + 18446744073709551616 * k) : wrap64 y = wrap64 x := by
  unfold wrap64; omega
theorem wrap_addl (x y : Int) : wrap64 (wrap64 x + y) = wrap64 (x + y) := by unfold wrap64; omega
theorem wrap_addr (x y : Int) : wrap64 (x + wrap64 y) = wrap64 (x + y) := by unfold wrap64; omega
theorem wrap_mull (x y : Int) : wrap64 (wrap64 x * y) = wrap64 (x * y) := by
  obtain ⟨k, hk⟩ := wrap_ex x
  exact wrap_of (k * y) (by rw [hk]; grind)
theorem wrap_mulr (x y : Int) : wrap64 (x * wrap64 y) = wrap64 (x * y) := by
  rw [Int.mul_comm, wrap_mull, Int.mul_comm]
def atV (a b c x y : Int) : Int := wrap64 (wrap64 (wrap64 (wrap64 (a * x) * x) + wrap64 (wrap64 (b * x) * y)) + wrap64 (wrap64 (c * y) * y))
def polV (a b c x y u v : Int) : Int := wrap64 (wrap64 (wrap64 (wrap64 (wrap64 (2 * a) * x) * u) + wrap64 (b * wrap64 (wrap64 (x * v) + wrap64 (y * u)))) + wrap64 (wrap64 (wrap64 (2 * c) * y) * v))
theorem atV_eq (a b c x y : Int) : atV a b c x y = wrap64 (atF a b c x y) := by
  simp only [atV, atF, wrap_addl, wrap_addr, wrap_mull]
theorem polV_eq (a b c x y u v : Int) : polV a b c x y u v = wrap64 (polF a b c x y u v) := by
  simp only [polV, polF, wrap_addl, wrap_addr, wrap_mull, wrap_mulr]

/-- The first matrix of a point. -/
noncomputable def cpS (x y : Int) : Int := if y = 0 then x else invF x (y.natAbs : Nat)
noncomputable def cpQ (x y : Int) : Int := if y = 0 then 0 else (x * cpS x y - 1) / y
theorem cp_ok {x y : Int} (hx : -1000 ≤ x ∧ x ≤ 1000) (hy : -1000 ≤ y ∧ y ≤ 1000) (hg : Int.gcd x y = 1) :
    x * cpS x y - cpQ x y * y = 1 ∧ (-1000 ≤ cpS x y ∧ cpS x y ≤ 1000) ∧ (-1001 ≤ cpQ x y ∧ cpQ x y ≤ 1001) := by
  by_cases h0 : y = 0
  · subst h0
    have hx1 : x = 1 ∨ x = -1 := by simp at hg; omega
    have e1 : cpS x 0 = x := by unfold cpS; rw [if_pos rfl]
    have e2 : cpQ x 0 = 0 := by unfold cpQ; rw [if_pos rfl]
    rw [e1, e2]
    rcases hx1 with rfl | rfl <;> simp
  · have hm : 0 < ((y.natAbs : Nat) : Int) := by omega
    obtain ⟨⟨s1, s2⟩, z, hz⟩ := inv_spec (a := x) hm (by rw [Int.gcd_eq_natAbs_gcd_natAbs] at hg ⊢; simpa using hg)
    have e1 : cpS x y = invF x (y.natAbs : Nat) := by unfold cpS; rw [if_neg h0]
    have e2 : cpQ x y = (x * cpS x y - 1) / y := by unfold cpQ; rw [if_neg h0]
    rw [← e1] at s1 s2 hz
    generalize cpS x y = S at *
    have h1 : x * S - 1 = y * (if 0 ≤ y then -z else z) := by
      split
      · rw [show ((y.natAbs : Nat) : Int) = y by omega] at hz; grind
      · rw [show ((y.natAbs : Nat) : Int) = -y by omega] at hz; grind
    generalize (if 0 ≤ y then -z else z) = q at h1
    have h2 : cpQ x y = q := by rw [e2, h1, Int.mul_ediv_cancel_left _ h0]
    rw [h2]
    refine ⟨by rw [Int.mul_comm q y]; omega, by omega, ?_⟩
    have k1 : (y * q).natAbs = y.natAbs * q.natAbs := Int.natAbs_mul _ _
    have k2 : (x * S).natAbs = x.natAbs * S.natAbs := Int.natAbs_mul _ _
    have k3 : x.natAbs * S.natAbs ≤ 1000 * y.natAbs := Nat.mul_le_mul (by omega) (by omega)
    have k4 : y.natAbs * q.natAbs ≤ y.natAbs * 1001 := by omega
    have := Nat.le_of_mul_le_mul_left k4 (by omega)
    omega
/-- The data of a completed point. -/
structure CpD (a b c x y S Q T E P : Int) : Prop where
  hs : isShown a b c = true
  hx : -1000 ≤ x ∧ x ≤ 1000
  hy : -1000 ≤ y ∧ y ≤ 1000
  hg : Int.gcd x y = 1
  eS : S = cpS x y
  eQ : Q = cpQ x y
  eE : E = atF a b c x y
  eP : P = polF a b c x y Q S
  eT : T = -(P / (2 * E))
theorem CpD.ex {a b c x y : Int} (hs : isShown a b c = true) (hx : -1000 ≤ x ∧ x ≤ 1000) (hy : -1000 ≤ y ∧ y ≤ 1000) (hg : Int.gcd x y = 1) : ∃ S Q T E P, CpD a b c x y S Q T E P :=
  ⟨_, _, _, _, _, hs, hx, hy, hg, rfl, rfl, rfl, rfl, rfl⟩
theorem at_pos {a b c x y : Int} (ha : 0 < a) (hd : disc ⟨a, b, c⟩ < 0) (h : ¬ (x = 0 ∧ y = 0)) : 0 < atF a b c x y := by
  have key : 4 * a * atF a b c x y = (2 * a * x + b * y) * (2 * a * x + b * y) + (-disc ⟨a, b, c⟩) * (y * y) := by
    simp only [atF, disc]; grind
  have h1 : 0 ≤ (2 * a * x + b * y) * (2 * a * x + b * y) := by rcases Int.le_total 0 (2 * a * x + b * y) with h | h; exact Int.mul_nonneg h h; exact Int.mul_nonneg_of_nonpos_of_nonpos h h
  have h2 : 0 ≤ y * y := by rcases Int.le_total 0 y with h | h; exact Int.mul_nonneg h h; exact Int.mul_nonneg_of_nonpos_of_nonpos h h
  have h3 : 0 < 4 * a * atF a b c x y := by
    rw [key]
    by_cases hy : y = 0
    · subst hy
      have hx : x ≠ 0 := fun e => h ⟨e, rfl⟩
      have : 0 < (2 * a * x + b * 0) * (2 * a * x + b * 0) := by
        have e : 2 * a * x + b * 0 = 2 * a * x := by omega
        rw [e]
        have hne : 2 * a * x ≠ 0 := by
          intro e; rcases Int.mul_eq_zero.1 e with e | e
          · omega
          · exact hx e
        rcases Int.lt_or_gt_of_ne hne with h | h
        · exact Int.mul_pos_of_neg_of_neg h h
        · exact Int.mul_pos h h
      omega
    · have h4 : 0 < y * y := by
        rcases Int.lt_or_gt_of_ne hy with h | h
        · exact Int.mul_pos_of_neg_of_neg h h
        · exact Int.mul_pos h h
      have := Int.mul_pos (show 0 < -disc ⟨a, b, c⟩ by omega) h4
      omega
  exact pos_of_mul (show 0 < 4 * a by omega) h3
section
variable {a b c x y S Q T E P : Int}
theorem CpD.bd (h : CpD a b c x y S Q T E P) : (-1000000 ≤ a ∧ a ≤ 1000000) ∧ (-1000000 ≤ b ∧ b ≤ 1000000) ∧ (-1000000 ≤ c ∧ c ≤ 1000000) := isFm_bd (ishown_form h.hs)
theorem CpD.SQ (h : CpD a b c x y S Q T E P) : x * S - Q * y = 1 ∧ (-1000 ≤ S ∧ S ≤ 1000) ∧ (-1001 ≤ Q ∧ Q ≤ 1001) := by
  rw [h.eS, h.eQ]; exact cp_ok h.hx h.hy h.hg
theorem at_big {a b c u v : Int} (ha : -1000000 ≤ a ∧ a ≤ 1000000) (hb : -1000000 ≤ b ∧ b ≤ 1000000) (hc : -1000000 ≤ c ∧ c ≤ 1000000) (hu : -1001 ≤ u ∧ u ≤ 1001) (hv : -1001 ≤ v ∧ v ≤ 1001) : AtOK a b c u v ∧ (-4000000000000 ≤ atF a b c u v ∧ atF a b c u v ≤ 4000000000000) := by
  have k1 := mul_bd (a := a) (x := u) (A := 1000000) (X := 1001) (by omega) (by omega) (by omega) (by omega)
  have k2 := mul_bd (a := a * u) (x := u) (A := 1001000000) (X := 1001) (by omega) (by omega) (by omega) (by omega)
  have k3 := mul_bd (a := b) (x := u) (A := 1000000) (X := 1001) (by omega) (by omega) (by omega) (by omega)
  have k4 := mul_bd (a := b * u) (x := v) (A := 1001000000) (X := 1001) (by omega) (by omega) (by omega) (by omega)
  have k5 := mul_bd (a := c) (x := v) (A := 1000000) (X := 1001) (by omega) (by omega) (by omega) (by omega)
  have k6 := mul_bd (a := c * v) (x := v) (A := 1001000000) (X := 1001) (by omega) (by omega) (by omega) (by omega)
  refine ⟨⟨⟨by omega, by omega⟩, ⟨by omega, by omega⟩, ⟨by omega, by omega⟩, ⟨by omega, by omega⟩, ⟨by omega, by omega⟩, ⟨by omega, by omega⟩⟩, ?_⟩
  unfold atF; omega
theorem pol_big {a b c x y u v : Int} (ha : -1000000 ≤ a ∧ a ≤ 1000000) (hb : -1000000 ≤ b ∧ b ≤ 1000000) (hc : -1000000 ≤ c ∧ c ≤ 1000000) (hx : -1000 ≤ x ∧ x ≤ 1000) (hy : -1000 ≤ y ∧ y ≤ 1000) (hu : -1001 ≤ u ∧ u ≤ 1001) (hv : -1001 ≤ v ∧ v ≤ 1001) : PolOK a b c x y u v ∧ (-8000000000000 ≤ polF a b c x y u v ∧ polF a b c x y u v ≤ 8000000000000) := by
  have k1 := mul_bd (a := 2 * a) (x := x) (A := 2000000) (X := 1000) (by omega) (by omega) (by omega) (by omega)
  have k2 := mul_bd (a := 2 * a * x) (x := u) (A := 2000000000) (X := 1001) (by omega) (by omega) (by omega) (by omega)
  have k3 := mul_bd (a := x) (x := v) (A := 1000) (X := 1001) (by omega) (by omega) (by omega) (by omega)
  have k4 := mul_bd (a := y) (x := u) (A := 1000) (X := 1001) (by omega) (by omega) (by omega) (by omega)
  have k5 := mul_bd (a := b) (x := x * v + y * u) (A := 1000000) (X := 2002000) (by omega) (by omega) (by omega) (by omega)
  have k6 := mul_bd (a := 2 * c) (x := y) (A := 2000000) (X := 1000) (by omega) (by omega) (by omega) (by omega)
  have k7 := mul_bd (a := 2 * c * y) (x := v) (A := 2000000000) (X := 1001) (by omega) (by omega) (by omega) (by omega)
  refine ⟨⟨⟨by omega, by omega⟩, ⟨by omega, by omega⟩, ⟨by omega, by omega⟩, ⟨by omega, by omega⟩, ⟨by omega, by omega⟩, ⟨by omega, by omega⟩, ⟨by omega, by omega⟩, ⟨by omega, by omega⟩, ⟨by omega, by omega⟩⟩, ?_⟩
  unfold polF; omega
theorem CpD.E0 (h : CpD a b c x y S Q T E P) : 0 < E ∧ E ≤ 4000000000000 := by
  have hs := h.hs
  unfold isShown isDefB at hs
  simp only [Bool.and_eq_true, decide_eq_true_eq] at hs
  rw [h.eE]
  obtain ⟨h1, h2, h3⟩ := h.bd
  have hx := h.hx; have hy := h.hy
  refine ⟨at_pos hs.1.2.2 hs.1.2.1 ?_, (at_big h1 h2 h3 (by omega) (by omega)).2.2⟩
  rintro ⟨rfl, rfl⟩
  have := h.hg
  simp at this
theorem CpD.P0 (h : CpD a b c x y S Q T E P) : -8000000000000 ≤ P ∧ P ≤ 8000000000000 := by
  obtain ⟨h1, h2, h3⟩ := h.bd
  obtain ⟨_, ⟨s1, s2⟩, q⟩ := h.SQ
  rw [h.eP]
  exact (pol_big h1 h2 h3 h.hx h.hy q ⟨by omega, by omega⟩).2
theorem CpD.T0 (h : CpD a b c x y S Q T E P) : -8000000000001 ≤ T ∧ T ≤ 8000000000001 := by
  have hP := h.P0
  have he := h.E0
  rw [h.eT]
  have h1 := Int.emod_add_mul_ediv P (2 * E)
  have h2 := Int.emod_nonneg P (show 2 * E ≠ 0 by omega)
  have h3 := Int.emod_lt_of_pos P (show 0 < 2 * E by omega)
  have h4 := Int.natAbs_ediv_le_natAbs P (2 * E)
  omega
theorem CpD.TX (h : CpD a b c x y S Q T E P) : (-8000000000001000 ≤ T * x ∧ T * x ≤ 8000000000001000) ∧ (-8000000000001000 ≤ T * y ∧ T * y ≤ 8000000000001000) := by
  have hT := h.T0
  obtain ⟨x1, x2⟩ := h.hx; obtain ⟨y1, y2⟩ := h.hy
  have k1 := mul_bd (a := T) (x := x) (A := 8000000000001) (X := 1000) (by omega) (by omega) (by omega) (by omega)
  have k2 := mul_bd (a := T) (x := y) (A := 8000000000001) (X := 1000) (by omega) (by omega) (by omega) (by omega)
  omega
theorem CpD.det (h : CpD a b c x y S Q T E P) : x * (S + T * y) - (Q + T * x) * y = 1 := by
  have := h.SQ.1; grind
theorem CpD.hbm (h : CpD a b c x y S Q T E P) : polF a b c x y (Q + T * x) (S + T * y) = P % (2 * E) ∧ P + 2 * E * T = P % (2 * E) := by
  have h0 : polF a b c x y (Q + T * x) (S + T * y) = P + 2 * T * E := by rw [h.eP, h.eE]; unfold polF atF; grind
  have h1 := Int.emod_add_mul_ediv P (2 * E)
  have e : P + 2 * T * E = P % (2 * E) := by
    rw [h.eT]
    generalize P / (2 * E) = z at *
    have e : 2 * -z * E = -(2 * E * z) := by grind
    omega
  refine ⟨by rw [h0, e], ?_⟩
  rw [← e]; grind
theorem CpD.C (h : CpD a b c x y S Q T E P) : (P % (2 * E)) * (P % (2 * E)) - disc ⟨a, b, c⟩ = 4 * E * atF a b c (Q + T * x) (S + T * y) := by
  rw [← h.hbm.1, h.eE]
  have hdet := h.det
  generalize Q + T * x = q at *
  generalize S + T * y = t at *
  have key : polF a b c x y q t * polF a b c x y q t - disc ⟨a, b, c⟩ * ((x * t - q * y) * (x * t - q * y)) = 4 * atF a b c x y * atF a b c q t := by
    simp only [polF, atF, disc]; grind
  rw [hdet] at key; simpa using key
theorem CpD.D0 (h : CpD a b c x y S Q T E P) : -2000 ≤ disc ⟨a, b, c⟩ ∧ disc ⟨a, b, c⟩ < 0 := by
  have hs := h.hs
  unfold isShown isDefB at hs
  simp only [Bool.and_eq_true, decide_eq_true_eq] at hs
  exact ⟨hs.2, hs.1.2.1⟩
theorem CpD.C0 (h : CpD a b c x y S Q T E P) (hE : E ≤ 1000000) : 0 ≤ atF a b c (Q + T * x) (S + T * y) ∧ atF a b c (Q + T * x) (S + T * y) ≤ 4000000002000 := by
  have hC := h.C
  have he := h.E0
  have hd := h.D0
  have h2 := Int.emod_nonneg P (show 2 * E ≠ 0 by omega)
  have h3 := Int.emod_lt_of_pos P (show 0 < 2 * E by omega)
  generalize atF a b c (Q + T * x) (S + T * y) = C at *
  generalize P % (2 * E) = p at *
  have k1 := mul_bd (a := p) (x := p) (A := 2000000) (X := 2000000) (by omega) (by omega) (by omega) (by omega)
  have k0 := Int.mul_nonneg h2 h2
  have h4 : 0 < 4 * E * C := by omega
  have h5 : 0 < C := pos_of_mul (show 0 < 4 * E by omega) h4
  have h6 : 1 * C ≤ 4 * E * C := Int.mul_le_mul_of_nonneg_right (by omega) (by omega)
  omega
end
end Go.Proofs.Ytkpiiicefmkhcaa
