/- Plain facts: the forms of a cube; the composite of all three is the identity. No program in sight. -/
import Derived.Test.YtjjkndgokdofdaaMM
namespace Go.Proofs.Ytjjkndgokdofdaa

/-- Eight entries. -/
structure Cu where
  a : Int
  b : Int
  c : Int
  d : Int
  e : Int
  f : Int
  g : Int
  h : Int
def cuF (k : Cu) : Fm := ⟨k.b * k.c - k.a * k.d, k.a * k.h + k.d * k.e - k.b * k.g - k.c * k.f, k.f * k.g - k.e * k.h⟩
def cuT (k : Cu) : Cu := ⟨k.a, k.c, k.e, k.g, k.b, k.d, k.f, k.h⟩
def cuF2 (k : Cu) : Fm := cuF (cuT k)
def cuF3 (k : Cu) : Fm := cuF (cuT (cuT k))
theorem cuT3 (k : Cu) : cuT (cuT (cuT k)) = k := rfl
theorem cu_disc2 (k : Cu) : disc (cuF2 k) = disc (cuF k) := by unfold disc cuF2 cuT cuF; simp only; grind
theorem cu_disc3 (k : Cu) : disc (cuF3 k) = disc (cuF k) := by unfold disc cuF3 cuT cuF; simp only; grind
theorem IsAdd.sm4 {I : Ide} (h : IsAdd I) {x y z w : El} (hx : I x) (hy : I y) (hz : I z) (hw : I w) (k l m t : Int) : I ⟨k * x.u + l * y.u + m * z.u + t * w.u, k * x.v + l * y.v + m * z.v + t * w.v⟩ := by
  have := h.add _ _ (h.add _ _ (h.sm hx k) (h.sm hy l)) (h.add _ _ (h.sm hz m) (h.sm hw t))
  have e : (⟨k * x.u + l * y.u + m * z.u + t * w.u, k * x.v + l * y.v + m * z.v + t * w.v⟩ : El) = eadd (eadd ⟨k * x.u, k * x.v⟩ ⟨l * y.u, l * y.v⟩) (eadd ⟨m * z.u, m * z.v⟩ ⟨t * w.u, t * w.v⟩) := by
    apply El.eq <;> simp only [eadd] <;> omega
  rw [e]; exact this
theorem emul_lin4 {s n : Int} (θ x y z w : El) (k l m t : Int) : emul s n θ ⟨k * x.u + l * y.u + m * z.u + t * w.u, k * x.v + l * y.v + m * z.v + t * w.v⟩ =
    ⟨k * (emul s n θ x).u + l * (emul s n θ y).u + m * (emul s n θ z).u + t * (emul s n θ w).u, k * (emul s n θ x).v + l * (emul s n θ y).v + m * (emul s n θ z).v + t * (emul s n θ w).v⟩ := by
  apply El.eq <;> simp only [emul] <;> grind
def Zq (A q p v : Int) : El := ⟨p * A - v * q, v⟩
theorem zq_step {s n A q p v B h g e : Int} (T : emul s n (Zq A q p v) ⟨h, -1⟩ = ⟨-B * (g * A - e * q), -B * e⟩) {x : El} {k : Int} (hk : x.u + h * x.v = B * k) :
    emul s n (Zq A q p v) x = ⟨B * ((k * p + x.v * g) * A - (k * v + x.v * e) * q), B * (k * v + x.v * e)⟩ := by
  have e1 := congrArg El.u T
  have e2 := congrArg El.v T
  simp only [emul, Zq] at e1 e2
  have hu : x.u = B * k - h * x.v := by omega
  apply El.eq
  · simp only [emul, Zq]
    have : (p * A - v * q) * x.u - n * v * x.v = B * k * (p * A - v * q) - x.v * ((p * A - v * q) * h - n * v * -1) := by rw [hu]; grind
    rw [this, e1]; grind
  · simp only [emul, Zq]
    have : (p * A - v * q) * x.v + v * x.u + s * v * x.v = B * k * v - x.v * ((p * A - v * q) * -1 + v * h + s * v * -1) := by rw [hu]; grind
    rw [this, e2]; grind
theorem tri_hom {s n A1 A2 A3 h1 h2 q a b c d e f g h x y z : Int}
    (T21 : emul s n (Zq A3 q c a) ⟨h1, -1⟩ = ⟨-A1 * (g * A3 - e * q), -A1 * e⟩)
    (T12 : emul s n (Zq A3 q c a) ⟨h2, -1⟩ = ⟨-A2 * (d * A3 - b * q), -A2 * b⟩)
    (T22 : emul s n (Zq A3 q g e) ⟨h2, -1⟩ = ⟨-A2 * (h * A3 - f * q), -A2 * f⟩)
    (hp : x * (b * c - a * d) + y * (a * h + d * e - b * g - c * f) + z * (f * g - e * h) = 1)
    (N : eN s n (Zq A3 q c a) ≠ 0) (n1 : A1 ≠ 0) (n2 : A2 ≠ 0) :
    Hom s n (Pr s n (Id A1 h1) (Id A2 h2)) (Id A3 q) := by
  -- two steps
  have two : ∀ (x y : El) (k l : Int), x.u + h1 * x.v = A1 * k → y.u + h2 * y.v = A2 * l →
      emul s n (Zq A3 q c a) (emul s n x y) = ⟨A1 * A2 * ((k * l * c + k * y.v * d + x.v * l * g + x.v * y.v * h) * A3 - (k * l * a + k * y.v * b + x.v * l * e + x.v * y.v * f) * q), A1 * A2 * (k * l * a + k * y.v * b + x.v * l * e + x.v * y.v * f)⟩ := by
    intro x y k l hx hy
    rw [← emul_assoc, zq_step T21 hx]
    have s1 := zq_step T12 hy
    have s2 := zq_step T22 hy
    have lin : emul s n ⟨A1 * ((k * c + x.v * g) * A3 - (k * a + x.v * e) * q), A1 * (k * a + x.v * e)⟩ y =
        ⟨A1 * (k * (emul s n (Zq A3 q c a) y).u + x.v * (emul s n (Zq A3 q g e) y).u), A1 * (k * (emul s n (Zq A3 q c a) y).v + x.v * (emul s n (Zq A3 q g e) y).v)⟩ := by
      apply El.eq <;> simp only [emul, Zq] <;> grind
    rw [lin, s1, s2]
    apply El.eq
    · show A1 * (k * (A2 * _) + x.v * (A2 * _)) = _
      grind
    · show A1 * (k * (A2 * _) + x.v * (A2 * _)) = _
      grind
  refine ⟨Zq A3 q c a, ⟨A1 * A2, 0⟩, N, ?_, ?_⟩
  · have : eN s n ⟨A1 * A2, 0⟩ = (A1 * A2) * (A1 * A2) := by simp only [eN]; grind
    rw [this]
    exact Int.mul_ne_zero (Int.mul_ne_zero n1 n2) (Int.mul_ne_zero n1 n2)
  · funext j
    refine propext ⟨?_, ?_⟩
    · rintro ⟨w, hw, rfl⟩
      refine hw _ (add_left (Sc.isAdd (Id.isAdd A3 q)) (Zq A3 q c a)) ?_
      rintro x y ⟨k, hk⟩ ⟨l, hl⟩
      refine ⟨⟨(k * l * c + k * y.v * d + x.v * l * g + x.v * y.v * h) * A3 - (k * l * a + k * y.v * b + x.v * l * e + x.v * y.v * f) * q, k * l * a + k * y.v * b + x.v * l * e + x.v * y.v * f⟩, ⟨k * l * c + k * y.v * d + x.v * l * g + x.v * y.v * h, by simp only; grind⟩, ?_⟩
      rw [two x y k l hk hl]
      apply El.eq <;> simp only [emul] <;> grind
    · rintro ⟨j, ⟨k, hk⟩, rfl⟩
      have w11 : Pr s n (Id A1 h1) (Id A2 h2) (emul s n ⟨A1, 0⟩ ⟨A2, 0⟩) := Pr.mk ⟨1, by simp⟩ ⟨1, by simp⟩
      have w12 : Pr s n (Id A1 h1) (Id A2 h2) (emul s n ⟨A1, 0⟩ ⟨-h2, 1⟩) := Pr.mk ⟨1, by simp⟩ ⟨0, by simp; omega⟩
      have w21 : Pr s n (Id A1 h1) (Id A2 h2) (emul s n ⟨-h1, 1⟩ ⟨A2, 0⟩) := Pr.mk ⟨0, by simp; omega⟩ ⟨1, by simp⟩
      have w22 : Pr s n (Id A1 h1) (Id A2 h2) (emul s n ⟨-h1, 1⟩ ⟨-h2, 1⟩) := Pr.mk ⟨0, by simp; omega⟩ ⟨0, by simp; omega⟩
      have t11 := two ⟨A1, 0⟩ ⟨A2, 0⟩ 1 1 (by simp) (by simp)
      have t12 := two ⟨A1, 0⟩ ⟨-h2, 1⟩ 1 0 (by simp) (by simp; omega)
      have t21 := two ⟨-h1, 1⟩ ⟨A2, 0⟩ 0 1 (by simp; omega) (by simp)
      have t22 := two ⟨-h1, 1⟩ ⟨-h2, 1⟩ 0 0 (by simp; omega) (by simp; omega)
      refine ⟨_, IsAdd.sm4 (Pr.isAdd _ _) w11 w12 w21 w22 (k * (x * b - y * f) + j.v * (-x * d + y * h)) (-(k * (x * a - y * e) + j.v * (-x * c + y * g))) (-(k * (-z * f + y * b) + j.v * (z * h - y * d))) (k * (-z * e + y * a) + j.v * (z * g - y * c)), ?_⟩
      rw [emul_lin4, t11, t12, t21, t22]
      simp only [Int.mul_one, Int.one_mul, Int.zero_mul, Int.mul_zero, Int.add_zero, Int.zero_add]
      have i1 : (k * (x * b - y * f) + j.v * (-x * d + y * h)) * c + -(k * (x * a - y * e) + j.v * (-x * c + y * g)) * d + -(k * (-z * f + y * b) + j.v * (z * h - y * d)) * g + (k * (-z * e + y * a) + j.v * (z * g - y * c)) * h = k := by
        have : (k * (x * b - y * f) + j.v * (-x * d + y * h)) * c + -(k * (x * a - y * e) + j.v * (-x * c + y * g)) * d + -(k * (-z * f + y * b) + j.v * (z * h - y * d)) * g + (k * (-z * e + y * a) + j.v * (z * g - y * c)) * h = k * (x * (b * c - a * d) + y * (a * h + d * e - b * g - c * f) + z * (f * g - e * h)) := by grind
        rw [this, hp, Int.mul_one]
      have i2 : (k * (x * b - y * f) + j.v * (-x * d + y * h)) * a + -(k * (x * a - y * e) + j.v * (-x * c + y * g)) * b + -(k * (-z * f + y * b) + j.v * (z * h - y * d)) * e + (k * (-z * e + y * a) + j.v * (z * g - y * c)) * f = j.v := by
        have : (k * (x * b - y * f) + j.v * (-x * d + y * h)) * a + -(k * (x * a - y * e) + j.v * (-x * c + y * g)) * b + -(k * (-z * f + y * b) + j.v * (z * h - y * d)) * e + (k * (-z * e + y * a) + j.v * (z * g - y * c)) * f = j.v * (x * (b * c - a * d) + y * (a * h + d * e - b * g - c * f) + z * (f * g - e * h)) := by grind
        rw [this, hp, Int.mul_one]
      have ju : j.u = A3 * k - q * j.v := by omega
      generalize k * (x * b - y * f) + j.v * (-x * d + y * h) = K1 at *
      generalize -(k * (x * a - y * e) + j.v * (-x * c + y * g)) = K2 at *
      generalize -(k * (-z * f + y * b) + j.v * (z * h - y * d)) = K3 at *
      generalize k * (-z * e + y * a) + j.v * (z * g - y * c) = K4 at *
      clear t11 t12 t21 t22 w11 w12 w21 w22 T21 T12 T22 hp N n1 n2 two hk
      apply El.eq
      · simp only [emul]
        have : A1 * A2 * j.u - n * 0 * j.v = A1 * A2 * ((K1 * c + K2 * d + K3 * g + K4 * h) * A3 - (K1 * a + K2 * b + K3 * e + K4 * f) * q) := by rw [i1, i2, ju]; grind
        rw [this]; grind
      · simp only [emul]
        have : A1 * A2 * j.v + 0 * j.u + s * 0 * j.v = A1 * A2 * (K1 * a + K2 * b + K3 * e + K4 * f) := by rw [i2]; grind
        rw [this]; grind
/-- The ideals of the first two forms multiply to the conjugate of the third one's. -/
theorem cube_pr {s n h1 h2 h3 a b c d e f g h x y z : Int}
    (H1 : 2 * h1 - s = a * h + d * e - b * g - c * f) (H2 : 2 * h2 - s = a * h + g * b - c * f - e * d) (H3 : 2 * h3 - s = a * h + f * c - e * d - b * g)
    (N1 : h1 * h1 - s * h1 + n = (b * c - a * d) * (f * g - e * h))
    (A1 : b * c - a * d ≠ 0) (A2 : c * e - a * g ≠ 0) (A3 : e * b - a * f ≠ 0) (hp : x * (b * c - a * d) + y * (2 * h1 - s) + z * (f * g - e * h) = 1) :
    Hom s n (Pr s n (Id (b * c - a * d) h1) (Id (c * e - a * g) h2)) (Id (e * b - a * f) (s - h3)) := by
  have c1 : f * c = c * f := Int.mul_comm _ _
  have c2 : e * d = d * e := Int.mul_comm _ _
  have c3 : g * b = b * g := Int.mul_comm _ _
  have E2 : h2 = h1 + (g * b - d * e) := by omega
  have E3 : h3 = h1 + (f * c - d * e) := by omega
  have Es : s = 2 * h1 - (a * h + d * e - b * g - c * f) := by omega
  have En : n = (b * c - a * d) * (f * g - e * h) - h1 * h1 + s * h1 := by omega
  clear c1 c2 c3
  have T21 : emul s n (Zq (e * b - a * f) (s - h3) c a) ⟨h1, -1⟩ = ⟨-(b * c - a * d) * (g * (e * b - a * f) - e * (s - h3)), -(b * c - a * d) * e⟩ := by
    apply El.eq
    · simp only [emul, Zq]; rw [En, E3, Es]; grind
    · simp only [emul, Zq]; rw [E3, Es]; grind
  have T12 : emul s n (Zq (e * b - a * f) (s - h3) c a) ⟨h2, -1⟩ = ⟨-(c * e - a * g) * (d * (e * b - a * f) - b * (s - h3)), -(c * e - a * g) * b⟩ := by
    apply El.eq
    · simp only [emul, Zq]; rw [En, E3, E2, Es]; grind
    · simp only [emul, Zq]; rw [E3, E2, Es]; grind
  have T22 : emul s n (Zq (e * b - a * f) (s - h3) g e) ⟨h2, -1⟩ = ⟨-(c * e - a * g) * (h * (e * b - a * f) - f * (s - h3)), -(c * e - a * g) * f⟩ := by
    apply El.eq
    · simp only [emul, Zq]; rw [En, E3, E2, Es]; grind
    · simp only [emul, Zq]; rw [E3, E2, Es]; grind
  refine tri_hom T21 T12 T22 (by rw [← H1]; exact hp) ?_ A1 A2
  have e5 : eN s n (Zq (e * b - a * f) (s - h3) c a) = (e * b - a * f) * ((b * c - a * d) * (c * e - a * g)) := by
    simp only [eN, Zq]; rw [En, E3, Es]; grind
  rw [e5]
  exact Int.mul_ne_zero A3 (Int.mul_ne_zero A1 A2)
end Go.Proofs.Ytjjkndgokdofdaa
