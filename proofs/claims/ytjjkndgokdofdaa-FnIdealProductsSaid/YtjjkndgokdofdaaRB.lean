/- Plain facts: the product of two ideals by the normal basis of four vectors. No program in sight. -/
import Derived.Test.YtjjkndgokdofdaaRA
import Derived.Test.YtjjkndgokdofdaaMM
namespace Go.Proofs.Ytjjkndgokdofdaa

/-- The products of the generators a, w - h and a', w - h', as (U + V*sqrt d)/2. -/
def vL (s n a h a' h' : Int) : List (Int × Int) := [(2 * a * a', 0), (-a * (2 * h' - s), a), (-a' * (2 * h - s), a'), (2 * (h * h') - s * (h + h') + s * s - 2 * n, -(h + h' - s))]
def Tu (s : Int) (z : El) : Int × Int := (2 * z.u + s * z.v, z.v)
theorem Sp.four {x y z w : Int × Int} {t : Int × Int} : Sp [x, y, z, w] t ↔ ∃ k1 k2 k3 k4 : Int, t.1 = k1 * x.1 + k2 * y.1 + k3 * z.1 + k4 * w.1 ∧ t.2 = k1 * x.2 + k2 * y.2 + k3 * z.2 + k4 * w.2 := by
  constructor
  · rintro ⟨k1, k2, k3, k4, h⟩
    have h' : (t.1 - k1 * x.1 - k2 * y.1 - k3 * z.1 - k4 * w.1, t.2 - k1 * x.2 - k2 * y.2 - k3 * z.2 - k4 * w.2) = ((0 : Int), (0 : Int)) := h
    obtain ⟨h1, h2⟩ := Prod.mk.inj h'
    exact ⟨k1, k2, k3, k4, by omega, by omega⟩
  · rintro ⟨k1, k2, k3, k4, h1, h2⟩
    refine ⟨k1, k2, k3, k4, ?_⟩
    show (t.1 - k1 * x.1 - k2 * y.1 - k3 * z.1 - k4 * w.1, t.2 - k1 * x.2 - k2 * y.2 - k3 * z.2 - k4 * w.2) = ((0 : Int), (0 : Int))
    exact Prod.ext (by show t.1 - k1 * x.1 - k2 * y.1 - k3 * z.1 - k4 * w.1 = 0; omega) (by show t.2 - k1 * x.2 - k2 * y.2 - k3 * z.2 - k4 * w.2 = 0; omega)
section
variable {s n a h a' h' : Int}
theorem prod_span (z : El) : Pr s n (Id a h) (Id a' h') z ↔ Sp (vL s n a h a' h') (Tu s z) := by
  constructor
  · intro hz
    refine hz (fun z => Sp (vL s n a h a' h') (Tu s z)) ⟨?_, ?_, ?_⟩ ?_
    · have : Tu s ⟨0, 0⟩ = (0, 0) := by unfold Tu; simp
      show Sp _ _
      rw [this]; exact Sp.zero _
    · intro x y hx hy
      have := Sp.add _ hx hy
      have e : Tu s (eadd x y) = ((Tu s x).1 + (Tu s y).1, (Tu s x).2 + (Tu s y).2) := by
        unfold Tu eadd
        refine Prod.ext ?_ rfl
        show 2 * (x.u + y.u) + s * (x.v + y.v) = 2 * x.u + s * x.v + (2 * y.u + s * y.v)
        grind
      show Sp _ _
      rw [e]; exact this
    · intro x hx
      have := Sp.smul (-1) _ hx
      have e : Tu s (eneg x) = (-1 * (Tu s x).1, -1 * (Tu s x).2) := by
        unfold Tu eneg
        refine Prod.ext ?_ ?_
        · show 2 * (-x.u) + s * (-x.v) = -1 * (2 * x.u + s * x.v)
          grind
        · show -x.v = -1 * x.v
          omega
      show Sp _ _
      rw [e]; exact this
    · rintro x y ⟨k, hk⟩ ⟨l, hl⟩
      refine Sp.four.2 ⟨k * l, k * y.v, x.v * l, x.v * y.v, ?_, ?_⟩
      · have e1 : x.u = a * k - h * x.v := by omega
        have e2 : y.u = a' * l - h' * y.v := by omega
        simp only [Tu, emul]
        rw [e1, e2]; grind
      · have e1 : x.u = a * k - h * x.v := by omega
        have e2 : y.u = a' * l - h' * y.v := by omega
        simp only [Tu, emul]
        rw [e1, e2]; grind
  · intro hz
    obtain ⟨k1, k2, k3, k4, h1, h2⟩ := Sp.four.1 hz
    simp only [Tu] at h1 h2
    have g1 : Pr s n (Id a h) (Id a' h') (emul s n ⟨a, 0⟩ ⟨a', 0⟩) := Pr.mk ⟨1, by simp⟩ ⟨1, by simp⟩
    have g2 : Pr s n (Id a h) (Id a' h') (emul s n ⟨a, 0⟩ ⟨-h', 1⟩) := Pr.mk ⟨1, by simp⟩ ⟨0, by simp; omega⟩
    have g3 : Pr s n (Id a h) (Id a' h') (emul s n ⟨-h, 1⟩ ⟨a', 0⟩) := Pr.mk ⟨0, by simp; omega⟩ ⟨1, by simp⟩
    have g4 : Pr s n (Id a h) (Id a' h') (emul s n ⟨-h, 1⟩ ⟨-h', 1⟩) := Pr.mk ⟨0, by simp; omega⟩ ⟨0, by simp; omega⟩
    have A := Pr.isAdd (s := s) (n := n) (Id a h) (Id a' h')
    have := A.add _ _ (A.add _ _ (A.sm g1 k1) (A.sm g2 k2)) (A.add _ _ (A.sm g3 k3) (A.sm g4 k4))
    have e : z = eadd (eadd ⟨k1 * (emul s n ⟨a, 0⟩ ⟨a', 0⟩).u, k1 * (emul s n ⟨a, 0⟩ ⟨a', 0⟩).v⟩ ⟨k2 * (emul s n ⟨a, 0⟩ ⟨-h', 1⟩).u, k2 * (emul s n ⟨a, 0⟩ ⟨-h', 1⟩).v⟩)
        (eadd ⟨k3 * (emul s n ⟨-h, 1⟩ ⟨a', 0⟩).u, k3 * (emul s n ⟨-h, 1⟩ ⟨a', 0⟩).v⟩ ⟨k4 * (emul s n ⟨-h, 1⟩ ⟨-h', 1⟩).u, k4 * (emul s n ⟨-h, 1⟩ ⟨-h', 1⟩).v⟩) := by
      have e2 : z.v = k2 * a + k3 * a' - k4 * (h + h' - s) := by rw [h2]; grind
      apply El.eq
      · simp only [eadd, emul]
        have e3 : 2 * z.u = 2 * (k1 * (a * a') - k2 * (a * h') - k3 * (h * a') + k4 * (h * h' - n)) := by
          have : 2 * z.u = 2 * z.u + s * z.v - s * z.v := by omega
          rw [this, h1, e2]; grind
        have e4 : z.u = k1 * (a * a') - k2 * (a * h') - k3 * (h * a') + k4 * (h * h' - n) := by omega
        rw [e4]; grind
      · simp only [eadd, emul]
        rw [e2]; grind
    rw [e]; exact this
/-- What is said of the normal basis of the product. -/
structure HnP (s n a h a' h' N u e : Int) : Prop where
  N0 : 0 < N
  e0 : 0 < e
  sp : SpEq [(N, 0), (u, e)] (vL s n a h a' h')
theorem hnP_ex (ha : 0 < a) (ha' : 0 < a') : ∃ N u e, HnP s n a h a' h' N u e := by
  obtain ⟨N, u, e, h1, h2, h3⟩ := hnf_ex (vL s n a h a' h')
  obtain ⟨k, l, p1, p2⟩ := Sp.two_iff.1 ((h3 (-a * (2 * h' - s), a)).2 (Sp.mem (by unfold vL; simp)))
  obtain ⟨k', l', q1, q2⟩ := Sp.two_iff.1 ((h3 (2 * a * a', 0)).2 (Sp.mem (by unfold vL; simp)))
  have he : e ≠ 0 := fun h0 => by rw [h0] at p2; simp at p2; omega
  have hl : l' = 0 := by
    rw [Int.mul_zero, Int.zero_add] at q2
    rcases Int.mul_eq_zero.1 q2.symm with h4 | h4
    · exact h4
    · exact absurd h4 he
  refine ⟨N, u, e, ?_, by omega, h3⟩
  have hN : N ≠ 0 := fun h0 => by
    have q0 : 2 * a * a' = 0 := by rw [q1, h0, hl]; simp
    have := Int.mul_pos ha ha'
    rw [Int.mul_assoc] at q0
    omega
  omega
def GdE (s e : Int) (t : Int × Int) : Prop := ∃ p q, t.2 = e * q ∧ t.1 = e * (2 * p + s * q)
theorem GdE.comb {e : Int} {x y : Int × Int} (hx : GdE s e x) (hy : GdE s e y) (k l : Int) : GdE s e (k * x.1 + l * y.1, k * x.2 + l * y.2) := by
  obtain ⟨p, q, h1, h2⟩ := hx
  obtain ⟨p', q', h3, h4⟩ := hy
  exact ⟨k * p + l * p', k * q + l * q', by rw [h1, h3]; grind, by rw [h2, h4]; grind⟩
/-- The product is a multiple of an ideal. -/
theorem prod_ideal {N u e c : Int} (H : HnP s n a h a' h' N u e) (hc : h * h - s * h + n = a * c) :
    ∃ A p, N = 2 * e * A ∧ u = e * (2 * p + s) ∧ 0 < A ∧ e ∣ a ∧ e ∣ a' ∧ e ∣ h + h' - s ∧ Pr s n (Id a h) (Id a' h') = Sc s n ⟨e, 0⟩ (Id A (-p)) := by
  obtain ⟨N0, e0, sp⟩ := H
  have d1 : e ∣ a := by
    obtain ⟨k, l, p1, p2⟩ := Sp.two_iff.1 ((sp (-a * (2 * h' - s), a)).2 (Sp.mem (by unfold vL; simp)))
    exact ⟨l, by rw [p2]; grind⟩
  have d2 : e ∣ a' := by
    obtain ⟨k, l, p1, p2⟩ := Sp.two_iff.1 ((sp (-a' * (2 * h - s), a')).2 (Sp.mem (by unfold vL; simp)))
    exact ⟨l, by rw [p2]; grind⟩
  have d3 : e ∣ h + h' - s := by
    obtain ⟨k, l, p1, p2⟩ := Sp.two_iff.1 ((sp (2 * (h * h') - s * (h + h') + s * s - 2 * n, -(h + h' - s))).2 (Sp.mem (by unfold vL; simp)))
    exact ⟨-l, by
      have : h + h' - s = -(k * 0 + l * e) := by rw [← p2]; omega
      rw [this]; grind⟩
  have good : ∀ t, Sp [(N, 0), (u, e)] t → GdE s e t := by
    intro t ht
    obtain ⟨k1, k2, k3, k4, h1, h2⟩ := Sp.four.1 ((sp t).1 ht)
    simp only at h1 h2
    obtain ⟨x, hx⟩ := d1
    obtain ⟨y, hy⟩ := d2
    obtain ⟨z, hz⟩ := d3
    have w1 : GdE s e (2 * a * a', 0) := ⟨x * a', 0, by simp, by rw [hx]; grind⟩
    have w2 : GdE s e (-a * (2 * h' - s), a) := ⟨-(x * h'), x, by show a = e * x; exact hx, by show -a * (2 * h' - s) = _; rw [hx]; grind⟩
    have w3 : GdE s e (-a' * (2 * h - s), a') := ⟨-(y * h), y, by show a' = e * y; exact hy, by show -a' * (2 * h - s) = _; rw [hy]; grind⟩
    have w4 : GdE s e (2 * (h * h') - s * (h + h') + s * s - 2 * n, -(h + h' - s)) := ⟨h * z - x * c, -z, by show -(h + h' - s) = _; rw [hz]; grind, by
      show 2 * (h * h') - s * (h + h') + s * s - 2 * n = _
      have en : n = a * c - h * h + s * h := by omega
      have eh : h' = e * z + s - h := by omega
      rw [en, eh, hx]; grind⟩
    have c1 := GdE.comb w1 w2 k1 k2
    have c2 := GdE.comb w3 w4 k3 k4
    have c3 := GdE.comb c1 c2 1 1
    have e3 : t = (1 * (k1 * (2 * a * a') + k2 * (-a * (2 * h' - s))) + 1 * (k3 * (-a' * (2 * h - s)) + k4 * (2 * (h * h') - s * (h + h') + s * s - 2 * n)), 1 * (k1 * 0 + k2 * a) + 1 * (k3 * a' + k4 * -(h + h' - s))) :=
      Prod.ext (by rw [h1]; show _ = _; omega) (by rw [h2]; show _ = _; omega)
    rw [e3]; exact c3
  obtain ⟨p1, q1, r1, r2⟩ := good (N, 0) (Sp.mem (by simp))
  obtain ⟨p2, q2, t1, t2⟩ := good (u, e) (Sp.mem (by simp))
  simp only at r1 r2 t1 t2
  have hq1 : q1 = 0 := by
    rcases Int.mul_eq_zero.1 r1.symm with h4 | h4 <;> omega
  have hq2 : q2 = 1 := by
    have : e * q2 = e * 1 := by rw [Int.mul_one]; exact t1.symm
    exact Int.eq_of_mul_eq_mul_left (by omega) this
  subst hq1; subst hq2
  have hN : N = 2 * e * p1 := by rw [r2]; grind
  have hu : u = e * (2 * p2 + s) := by rw [t2]; grind
  have hA : 0 < p1 := by
    apply Classical.byContradiction
    intro hn
    have : e * p1 ≤ 0 := Int.mul_nonpos_of_nonneg_of_nonpos (by omega) (by omega)
    rw [Int.mul_assoc] at hN
    omega
  refine ⟨p1, p2, hN, hu, hA, d1, d2, d3, ?_⟩
  funext z
  refine propext ((prod_span z).trans ((sp (Tu s z)).symm.trans ?_))
  constructor
  · intro hz
    obtain ⟨k, l, h1, h2⟩ := Sp.two_iff.1 (show Sp [(N, 0), (u, e)] (2 * z.u + s * z.v, z.v) from hz)
    refine ⟨⟨k * p1 + l * p2, l⟩, ⟨k, by simp only; grind⟩, ?_⟩
    apply El.eq
    · simp only [emul]
      have e2 : 2 * z.u = 2 * (e * (k * p1 + l * p2)) := by
        have : 2 * z.u = 2 * z.u + s * z.v - s * z.v := by omega
        rw [this, h1, h2, hN, hu]; grind
      have e3 : z.u = e * (k * p1 + l * p2) := by omega
      rw [e3]; grind
    · simp only [emul]
      rw [h2]; grind
  · rintro ⟨x, ⟨k, hk⟩, rfl⟩
    refine Sp.two k x.v ?_ ?_
    · have e2 : x.u = p1 * k + p2 * x.v := by rw [← hk]; grind
      simp only [emul]
      rw [hN, hu, e2]; grind
    · simp only [emul]; grind
/-- The norm of the product. -/
theorem prod_norm {N u e c c' x y z : Int} (H : HnP s n a h a' h' N u e) (hc : h * h - s * h + n = a * c) (hc' : h' * h' - s * h' + n = a' * c') (ha : 0 < a) (ha' : 0 < a')
    (hp : x * a + y * (2 * h - s) + z * c = 1) : N * e = 2 * a * a' := by
  obtain ⟨N0, e0, sp⟩ := H
  have hn : n = a * c - h * h + s * h := by omega
  have hn' : a' * c' = h' * h' - s * h' + (a * c - h * h + s * h) := by omega
  refine Int.dvd_antisymm (Int.le_of_lt (Int.mul_pos N0 e0)) (Int.le_of_lt (Int.mul_pos (Int.mul_pos (by omega) ha) ha')) ?_ ?_
  · obtain ⟨α1, β1, a1, b1⟩ := Sp.two_iff.1 ((sp (2 * a * a', 0)).2 (Sp.mem (by unfold vL; simp)))
    obtain ⟨α2, β2, a2, b2⟩ := Sp.two_iff.1 ((sp (-a * (2 * h' - s), a)).2 (Sp.mem (by unfold vL; simp)))
    obtain ⟨α3, β3, a3, b3⟩ := Sp.two_iff.1 ((sp (-a' * (2 * h - s), a')).2 (Sp.mem (by unfold vL; simp)))
    obtain ⟨α4, β4, a4, b4⟩ := Sp.two_iff.1 ((sp (2 * (h * h') - s * (h + h') + s * s - 2 * n, -(h + h' - s))).2 (Sp.mem (by unfold vL; simp)))
    have m12 : 2 * a * a' * a = N * e * (α1 * β2 - α2 * β1) := by
      have : 2 * a * a' * a = (2 * a * a') * a - (-a * (2 * h' - s)) * 0 := by grind
      rw [this]
      conv => lhs; rw [a1, a2]
      conv => lhs; arg 1; arg 2; rw [b2]
      conv => lhs; arg 2; arg 2; rw [b1]
      grind
    have m14 : 2 * a * a' * (h + h' - s) = N * e * (α4 * β1 - α1 * β4) := by
      have e1 : 2 * a * a' * (h + h' - s) = (2 * (h * h') - s * (h + h') + s * s - 2 * n) * 0 - (2 * a * a') * (-(h + h' - s)) := by grind
      rw [e1, b4, a1, a4]
      have e2 : (0 : Int) = β1 * e := by omega
      rw [show (α4 * N + β4 * u) * 0 = (α4 * N + β4 * u) * (β1 * e) by rw [← e2]]
      grind
    have m23 : 2 * a * a' * (h - h') = N * e * (α2 * β3 - α3 * β2) := by
      have e1 : 2 * a * a' * (h - h') = (-a * (2 * h' - s)) * a' - (-a' * (2 * h - s)) * a := by grind
      rw [e1, a2, a3]
      have e2 : a = β2 * e := by omega
      have e3 : a' = β3 * e := by omega
      rw [show (α2 * N + β2 * u) * a' = (α2 * N + β2 * u) * (β3 * e) by rw [← e3], show (α3 * N + β3 * u) * a = (α3 * N + β3 * u) * (β2 * e) by rw [← e2]]
      grind
    have m34 : 2 * a * a' * c = N * e * (α3 * β4 - α4 * β3) := by
      have e1 : 2 * a * a' * c = (-a' * (2 * h - s)) * (-(h + h' - s)) - (2 * (h * h') - s * (h + h') + s * s - 2 * n) * a' := by rw [hn]; grind
      have e2 : -(h + h' - s) = β4 * e := by omega
      have e3 : a' = β3 * e := by omega
      rw [e1, a3, a4, e2]
      rw [show (α4 * N + β4 * u) * a' = (α4 * N + β4 * u) * (β3 * e) by rw [← e3]]
      grind
    refine ⟨x * (α1 * β2 - α2 * β1) + y * ((α4 * β1 - α1 * β4) + (α2 * β3 - α3 * β2)) + z * (α3 * β4 - α4 * β3), ?_⟩
    have e : 2 * a * a' = x * (2 * a * a' * a) + y * (2 * a * a' * (h + h' - s) + 2 * a * a' * (h - h')) + z * (2 * a * a' * c) := by
      have h5 : 2 * a * a' * (x * a + y * (2 * h - s) + z * c) = 2 * a * a' := by rw [hp, Int.mul_one]
      refine h5.symm.trans ?_
      clear h5 m12 m14 m23 m34 a1 b1 a2 b2 a3 b3 a4 b4 hp sp hc hc' hn hn'
      grind
    rw [e, m12, m14, m23, m34]; grind
  · obtain ⟨k1, k2, k3, k4, h1, h2⟩ := Sp.four.1 ((sp (N, 0)).1 (Sp.mem (by simp)))
    obtain ⟨l1, l2, l3, l4, g1, g2⟩ := Sp.four.1 ((sp (u, e)).1 (Sp.mem (by simp)))
    simp only at h1 h2 g1 g2
    refine ⟨(k1 * l2 - k2 * l1) * a + (k1 * l3 - k3 * l1) * a' - (k1 * l4 - k4 * l1) * (h + h' - s) + (k2 * l3 - k3 * l2) * (h - h') + (k2 * l4 - k4 * l2) * c' + (k3 * l4 - k4 * l3) * c, ?_⟩
    have e1 : N * e = N * e - u * 0 := by omega
    rw [e1]
    have e0' : (0 : Int) = k1 * 0 + k2 * a + k3 * a' + k4 * -(h + h' - s) := h2
    rw [show u * 0 = u * (k1 * 0 + k2 * a + k3 * a' + k4 * -(h + h' - s)) by rw [← e0']]
    have hcc : 2 * a * a' * ((k2 * l4 - k4 * l2) * c') = 2 * a * (k2 * l4 - k4 * l2) * (a' * c') := by grind
    rw [Int.mul_add (2 * a * a'), Int.mul_add (2 * a * a'), hcc, hn', h1, g1, g2, hn]
    grind
end
end Go.Proofs.Ytjjkndgokdofdaa
