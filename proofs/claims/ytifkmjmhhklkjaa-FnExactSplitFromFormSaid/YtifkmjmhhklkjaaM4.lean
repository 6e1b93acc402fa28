/- Plain facts: classes of forms by ideals; a class has one reduced form. No program in sight. -/
import Derived.Test.YtifkmjmhhklkjaaM3
namespace Go.Proofs.Ytifkmjmhhklkjaa

def hF (s : Int) (f : Fm) : Int := (f.b + s) / 2
def IF (s : Int) (f : Fm) : Ide := Id f.a (hF s f)

theorem par {b s x : Int} (h : b * b - s * s = 4 * x) : (b + s) % 2 = 0 := by
  rcases Int.emod_two_eq b with hb | hb <;> rcases Int.emod_two_eq s with hs | hs
  · omega
  · exfalso
    obtain ⟨k, rfl⟩ : ∃ k, b = 2 * k := ⟨b / 2, by omega⟩
    obtain ⟨l, rfl⟩ : ∃ l, s = 2 * l + 1 := ⟨s / 2, by omega⟩
    have e : 2 * k * (2 * k) - (2 * l + 1) * (2 * l + 1) = 4 * (k * k) - 4 * (l * l) - 4 * l - 1 := by grind
    omega
  · exfalso
    obtain ⟨k, rfl⟩ : ∃ k, b = 2 * k + 1 := ⟨b / 2, by omega⟩
    obtain ⟨l, rfl⟩ : ∃ l, s = 2 * l := ⟨s / 2, by omega⟩
    have e : (2 * k + 1) * (2 * k + 1) - 2 * l * (2 * l) = 4 * (k * k) + 4 * k + 1 - 4 * (l * l) := by grind
    omega
  · omega
theorem hF_two {s n : Int} {f : Fm} (h : disc f = s * s - 4 * n) : 2 * hF s f = f.b + s := by
  have : (f.b + s) % 2 = 0 := par (x := f.a * f.c - n) (by
    unfold disc at h
    have e : 4 * f.a * f.c = 4 * (f.a * f.c) := Int.mul_assoc _ _ _
    omega)
  unfold hF; omega
theorem hF_norm {s n : Int} {f : Fm} (h : disc f = s * s - 4 * n) : hF s f * hF s f - s * hF s f + n = f.a * f.c := by
  have h2 := hF_two h
  generalize hF s f = k at *
  unfold disc at h
  have e : 4 * (k * k - s * k + n) = 4 * (f.a * f.c) := by
    have hb : f.b = 2 * k - s := by omega
    rw [hb] at h
    grind
  omega

theorem red_hom {s n M : Int} {f : Fm} (h : Def M f) (hd : disc f = s * s - 4 * n) : Hom s n (IF s f) (IF s (red f)) := by
  refine (red_ind (p := fun g => disc g = s * s - 4 * n ∧ Hom s n (IF s f) (IF s g)) f h ⟨hd, Hom.refl _⟩ ?_).2
  rintro g hg _ ⟨hdg, hh⟩
  refine ⟨(disc_step g).trans hdg, hh.trans ?_⟩
  have h2 := hF_two hdg
  have hn := hF_norm hdg
  unfold stepF
  split
  · have e : hF s ⟨g.c, -g.b, g.a⟩ = s - hF s g := by
      unfold hF at *; simp only; omega
    unfold IF
    rw [e]
    have hc := hg.c0
    have ha := hg.a0
    have k1 : g.c ≠ 0 := by omega
    have k2 : g.a ≠ 0 := by omega
    exact Id.swap k1 k2 hn
  · have e : ∀ t c, hF s ⟨g.a, g.b + 2 * g.a * t, c⟩ = hF s g + g.a * t := by
      intro t c
      have e2 : 2 * g.a * t = 2 * (g.a * t) := Int.mul_assoc _ _ _
      unfold hF at *; simp only; rw [e2]; omega
    unfold IF
    rw [e]
    exact Hom.of (Id.shift _ _ _).symm

/-- The values of a form (its opposite). -/
def fv (f : Fm) (x y : Int) : Int := f.a * (x * x) - f.b * (x * y) + f.c * (y * y)
theorem eN_fv {s n : Int} {f : Fm} (hd : disc f = s * s - 4 * n) (x y : Int) : eN s n ⟨f.a * x - hF s f * y, y⟩ = f.a * fv f x y := by
  have h2 := hF_two hd
  have hn := hF_norm hd
  generalize hF s f = k at *
  have hb : f.b = 2 * k - s := by omega
  simp only [eN, fv]
  rw [hb]
  grind
theorem eN_pos {s n : Int} (hD : s * s - 4 * n < 0) {x : El} (hx : eN s n x ≠ 0) : 0 < eN s n x := by
  have e : 4 * eN s n x = (2 * x.u + s * x.v) * (2 * x.u + s * x.v) + (4 * n - s * s) * (x.v * x.v) := by simp only [eN]; grind
  have h1 : 0 ≤ (2 * x.u + s * x.v) * (2 * x.u + s * x.v) := by
    rcases Int.le_total 0 (2 * x.u + s * x.v) with h | h
    · exact Int.mul_nonneg h h
    · exact Int.mul_nonneg_of_nonpos_of_nonpos h h
  have h2 : 0 ≤ x.v * x.v := by
    rcases Int.le_total 0 x.v with h | h
    · exact Int.mul_nonneg h h
    · exact Int.mul_nonneg_of_nonpos_of_nonpos h h
  have h3 : 0 ≤ (4 * n - s * s) * (x.v * x.v) := Int.mul_nonneg (by omega) h2
  omega

theorem emul_lin {s n : Int} (α z w : El) (x y : Int) : emul s n α ⟨x * z.u + y * w.u, x * z.v + y * w.v⟩ = ⟨x * (emul s n α z).u + y * (emul s n α w).u, x * (emul s n α z).v + y * (emul s n α w).v⟩ := by
  apply El.eq <;> simp only [emul] <;> grind
/-- One ideal's lattice in another's. -/
theorem lat {s n : Int} {f g : Fm} {α β : El} (hf : disc f = s * s - 4 * n) (hg : disc g = s * s - 4 * n) (h : Sc s n α (IF s f) = Sc s n β (IF s g)) :
    ∃ p q r t, eN s n α * f.a = eN s n β * (g.a * (p * t - q * r)) ∧ ∀ x y, eN s n α * (f.a * fv f x y) = eN s n β * (g.a * fv g (p * x + q * y) (r * x + t * y)) := by
  have m1 : Sc s n α (IF s f) (emul s n α ⟨f.a, 0⟩) := ⟨_, ⟨1, by simp⟩, rfl⟩
  have m2 : Sc s n α (IF s f) (emul s n α ⟨-hF s f, 1⟩) := ⟨_, ⟨0, by simp; omega⟩, rfl⟩
  rw [h] at m1 m2
  obtain ⟨⟨u1, r⟩, ⟨p, hp⟩, e1⟩ := m1
  obtain ⟨⟨u2, t⟩, ⟨q, hq⟩, e2⟩ := m2
  simp only at hp hq
  obtain rfl : u1 = g.a * p - hF s g * r := by omega
  obtain rfl : u2 = g.a * q - hF s g * t := by omega
  refine ⟨p, q, r, t, ?_, ?_⟩
  · have k1 := eD_mul (s := s) (n := n) α ⟨f.a, 0⟩ ⟨-hF s f, 1⟩
    rw [e1, e2, eD_mul] at k1
    simp only [eD] at k1
    have e : (g.a * p - hF s g * r) * t - (g.a * q - hF s g * t) * r = g.a * (p * t - q * r) := by grind
    rw [e] at k1
    rw [k1]; grind
  · intro x y
    have k : emul s n α ⟨f.a * x - hF s f * y, y⟩ = emul s n β ⟨g.a * (p * x + q * y) - hF s g * (r * x + t * y), r * x + t * y⟩ := by
      have l1 := emul_lin (s := s) (n := n) α ⟨f.a, 0⟩ ⟨-hF s f, 1⟩ x y
      have l2 := emul_lin (s := s) (n := n) β ⟨g.a * p - hF s g * r, r⟩ ⟨g.a * q - hF s g * t, t⟩ x y
      rw [e1, e2, ← l2] at l1
      have a1 : (⟨f.a * x - hF s f * y, y⟩ : El) = ⟨x * f.a + y * -hF s f, x * 0 + y * 1⟩ := by apply El.eq <;> simp only <;> grind
      have a2 : (⟨g.a * (p * x + q * y) - hF s g * (r * x + t * y), r * x + t * y⟩ : El) = ⟨x * (g.a * p - hF s g * r) + y * (g.a * q - hF s g * t), x * r + y * t⟩ := by apply El.eq <;> simp only <;> grind
      rw [a1, a2]
      exact l1
    have k2 := congrArg (eN s n) k
    rw [eN_mul, eN_mul, eN_fv hf, eN_fv hg] at k2
    exact k2

theorem sq_nonneg (x : Int) : 0 ≤ x * x := by
  rcases Int.le_total 0 x with h | h
  · exact Int.mul_nonneg h h
  · exact Int.mul_nonneg_of_nonpos_of_nonpos h h
/-- The values of a reduced form are no less than a*(p*p - |p*r| + r*r). -/
theorem fv_low {g : Fm} (h1 : -g.a ≤ g.b) (h2 : g.b ≤ g.a) (h3 : g.a ≤ g.c) (p r : Int) :
    g.a * (p * p - p * r + r * r) ≤ fv g p r ∨ g.a * (p * p + p * r + r * r) ≤ fv g p r := by
  have hr := sq_nonneg r
  have hc : 0 ≤ (g.c - g.a) * (r * r) := Int.mul_nonneg (by omega) hr
  rcases Int.le_total 0 (p * r) with h | h
  · left
    have hb : 0 ≤ (g.a - g.b) * (p * r) := Int.mul_nonneg (by omega) h
    have e : fv g p r = g.a * (p * p - p * r + r * r) + (g.a - g.b) * (p * r) + (g.c - g.a) * (r * r) := by unfold fv; grind
    omega
  · right
    have hb : 0 ≤ (g.a + g.b) * (-(p * r)) := Int.mul_nonneg (by omega) (by omega)
    have e : fv g p r = g.a * (p * p + p * r + r * r) + (g.a + g.b) * (-(p * r)) + (g.c - g.a) * (r * r) := by unfold fv; grind
    omega
theorem q_bd {p r : Int} (h : p * p - p * r + r * r ≤ 1) : -1 ≤ p ∧ p ≤ 1 ∧ -1 ≤ r ∧ r ≤ 1 := by
  have k1 : 4 * (p * p - p * r + r * r) = (2 * r - p) * (2 * r - p) + 3 * (p * p) := by grind
  have k2 : 4 * (p * p - p * r + r * r) = (2 * p - r) * (2 * p - r) + 3 * (r * r) := by grind
  have s1 := sq_nonneg (2 * r - p)
  have s2 := sq_nonneg (2 * p - r)
  have b1 := abs_of_sq (b := p) (m := 1) (by omega) (by omega)
  have b2 := abs_of_sq (b := r) (m := 1) (by omega) (by omega)
  omega
theorem q_pos {p r : Int} (h : p * p - p * r + r * r ≤ 0) : p = 0 ∧ r = 0 := by
  have k1 : 4 * (p * p - p * r + r * r) = (2 * r - p) * (2 * r - p) + 3 * (p * p) := by grind
  have k2 : 4 * (p * p - p * r + r * r) = (2 * p - r) * (2 * p - r) + 3 * (r * r) := by grind
  have s1 := sq_nonneg (2 * r - p)
  have s2 := sq_nonneg (2 * p - r)
  have b1 := abs_of_sq (b := p) (m := 0) (by omega) (by omega)
  have b2 := abs_of_sq (b := r) (m := 0) (by omega) (by omega)
  omega
/-- The first coefficient is the least value, and is reached near the axes alone. -/
theorem fv_min {g : Fm} (ha : 0 < g.a) (h1 : -g.a ≤ g.b) (h2 : g.b ≤ g.a) (h3 : g.a ≤ g.c) {p r : Int} (hpr : ¬ (p = 0 ∧ r = 0)) :
    g.a ≤ fv g p r ∧ (fv g p r ≤ g.a → -1 ≤ p ∧ p ≤ 1 ∧ -1 ≤ r ∧ r ≤ 1) := by
  rcases fv_low h1 h2 h3 p r with h | h
  · have hq : 1 ≤ p * p - p * r + r * r := by
      apply Int.not_lt.1; intro hl; exact hpr (q_pos (by omega))
    have hm : g.a * 1 ≤ g.a * (p * p - p * r + r * r) := Int.mul_le_mul_of_nonneg_left hq (by omega)
    refine ⟨by omega, fun hle => q_bd ?_⟩
    apply Int.not_lt.1; intro hl
    have hm2 : g.a * 2 ≤ g.a * (p * p - p * r + r * r) := Int.mul_le_mul_of_nonneg_left (by omega) (by omega)
    omega
  · have e : p * p + p * r + r * r = p * p - p * (-r) + (-r) * (-r) := by grind
    rw [e] at h
    have hq : 1 ≤ p * p - p * (-r) + (-r) * (-r) := by
      apply Int.not_lt.1; intro hl
      have := q_pos (p := p) (r := -r) (by omega)
      exact hpr ⟨this.1, by omega⟩
    have hm : g.a * 1 ≤ g.a * (p * p - p * (-r) + (-r) * (-r)) := Int.mul_le_mul_of_nonneg_left hq (by omega)
    refine ⟨by omega, fun hle => ?_⟩
    have := q_bd (p := p) (r := -r) (by
      apply Int.not_lt.1; intro hl
      have hm2 : g.a * 2 ≤ g.a * (p * p - p * (-r) + (-r) * (-r)) := Int.mul_le_mul_of_nonneg_left (by omega) (by omega)
      omega)
    omega

/-- A class has one reduced form. -/
theorem hom_red {s n : Int} {f g : Fm} (hD : s * s - 4 * n < 0) (hf : disc f = s * s - 4 * n) (hg : disc g = s * s - 4 * n) (fa : 0 < f.a) (ga : 0 < g.a) (rf : isRed f.a f.b f.c = true) (rg : isRed g.a g.b g.c = true)
    (h : Hom s n (IF s f) (IF s g)) : f = g := by
  obtain ⟨α, β, hα, hβ, he⟩ := h
  obtain ⟨p, q, r, t, hdet, hval⟩ := lat hf hg he
  obtain ⟨p', q', r', t', hdet', hval'⟩ := lat hg hf he.symm
  have pα := eN_pos hD hα
  have pβ := eN_pos hD hβ
  generalize eN s n α = A at *
  generalize eN s n β = B at *
  have m1 : 0 < A * f.a := Int.mul_pos pα fa
  have m2 : 0 < B * g.a := Int.mul_pos pβ ga
  have d1 : A * f.a = B * g.a * (p * t - q * r) := by rw [hdet, Int.mul_assoc]
  have d2 : B * g.a = A * f.a * (p' * t' - q' * r') := by rw [hdet', Int.mul_assoc]
  have hpos1 : 0 < p * t - q * r := by
    apply Int.not_le.1; intro hl
    have := Int.mul_nonneg (show 0 ≤ B * g.a by omega) (show 0 ≤ -(p * t - q * r) by omega)
    rw [Int.mul_neg] at this; omega
  have hpos2 : 0 < p' * t' - q' * r' := by
    apply Int.not_le.1; intro hl
    have := Int.mul_nonneg (show 0 ≤ A * f.a by omega) (show 0 ≤ -(p' * t' - q' * r') by omega)
    rw [Int.mul_neg] at this; omega
  have l1 : B * g.a * 1 ≤ B * g.a * (p * t - q * r) := Int.mul_le_mul_of_nonneg_left hpos1 (by omega)
  have l2 : A * f.a * 1 ≤ A * f.a * (p' * t' - q' * r') := Int.mul_le_mul_of_nonneg_left hpos2 (by omega)
  have hm : A * f.a = B * g.a := by omega
  have hdet1 : p * t - q * r = 1 := by
    rw [hm] at d1
    exact (Int.eq_of_mul_eq_mul_left (show B * g.a ≠ 0 by omega) (by omega : B * g.a * (p * t - q * r) = B * g.a * 1))
  have hdet2 : p' * t' - q' * r' = 1 := by
    rw [hm] at d2
    exact (Int.eq_of_mul_eq_mul_left (show B * g.a ≠ 0 by omega) (by omega : B * g.a * (p' * t' - q' * r') = B * g.a * 1))
  have v1 : ∀ x y, fv f x y = fv g (p * x + q * y) (r * x + t * y) := fun x y => by
    have := hval x y
    rw [← Int.mul_assoc, ← Int.mul_assoc, hm] at this
    exact Int.eq_of_mul_eq_mul_left (by omega) this
  have v2 : ∀ x y, fv g x y = fv f (p' * x + q' * y) (r' * x + t' * y) := fun x y => by
    have := hval' x y
    rw [← Int.mul_assoc, ← Int.mul_assoc, ← hm] at this
    exact Int.eq_of_mul_eq_mul_left (by omega) this
  clear hval hval' hdet hdet' d1 d2 l1 l2 hpos1 hpos2 m1 m2 he hα hβ
  obtain ⟨⟨f1, f2⟩, f3⟩ := (isRed_iff _ _ _).1 rf
  obtain ⟨⟨g1, g2⟩, g3⟩ := (isRed_iff _ _ _).1 rg
  have hpr : ¬ (p = 0 ∧ r = 0) := by rintro ⟨rfl, rfl⟩; simp at hdet1
  have hpr' : ¬ (p' = 0 ∧ r' = 0) := by rintro ⟨rfl, rfl⟩; simp at hdet2
  have w1 : fv g p r = f.a := by have := v1 1 0; simp [fv] at this ⊢; omega
  have w2 : fv f p' r' = g.a := by have := v2 1 0; simp [fv] at this ⊢; omega
  have n1 := fv_min ga (by omega) (by omega) (by omega) hpr
  have n2 := fv_min fa (by omega) (by omega) (by omega) hpr'
  have haa : f.a = g.a := by omega
  have hb := n1.2 (by omega)
  clear n1 n2 w2 v2 hdet2 hpr' hm
  have w3 : f.c = fv g q t := by have := v1 0 1; simp [fv] at this ⊢; omega
  have w4 : f.a - f.b + f.c = fv g (p + q) (r + t) := by have := v1 1 1; simp [fv] at this ⊢; omega
  clear v1
  obtain ⟨a, b, c⟩ := f
  obtain ⟨a', b', c'⟩ := g
  unfold fv disc at *
  simp only at *
  subst haa
  have hcc : b = b' → c = c' := by
    rintro rfl
    have e1 : 4 * a * c = 4 * a * c' := by omega
    exact Int.eq_of_mul_eq_mul_left (by omega) e1
  have hfin : b = b' → (⟨a, b, c⟩ : Fm) = ⟨a, b', c'⟩ := fun e => by rw [hcc e, e]
  apply hfin
  have hbq : b = b' * (p * t + q * r) - 2 * (a * (p * q)) - 2 * (c' * (r * t)) := by grind
  clear w4 hfin hcc
  obtain ⟨hp1, hp2, hr1, hr2⟩ := hb
  have small : ∀ k : Int, -a < a * k → a * k < a → k = 0 := by
    intro k h1 h2
    have k1 : k < 1 := by
      apply Int.not_le.1; intro hl
      have := Int.mul_le_mul_of_nonneg_left hl (show 0 ≤ a by omega)
      omega
    have k2 : -1 < k := by
      apply Int.not_le.1; intro hl
      have := Int.mul_le_mul_of_nonneg_left hl (show 0 ≤ a by omega)
      omega
    omega
  by_cases hr0 : r = 0
  · subst hr0
    have hk : p * t = 1 := by simpa using hdet1
    have e : b = b' - 2 * (a * (p * q)) := by rw [hbq, hk]; simp
    have := small (p * q) (by omega) (by omega)
    rw [this] at e; omega
  · have hrr : r * r = 1 := by rcases (show r = 1 ∨ r = -1 by omega) with rfl | rfl <;> rfl
    by_cases hp0 : p = 0
    · subst hp0
      have hk : q * r = -1 := by simp at hdet1; omega
      have hc : c' = a := by rw [hrr] at w1; simp at w1; exact w1
      subst hc
      have e : b = -b' - 2 * (c' * (r * t)) := by rw [hbq]; simp; rw [hk]; simp; 
      have hb0 : 0 ≤ b' := by omega
      by_cases hk0 : r * t = 0
      · have ht : t = 0 := by
          rcases Int.mul_eq_zero.1 hk0 with h | h
          · exact absurd h hr0
          · exact h
        subst ht
        have hqq : q * q = 1 := by
          have : q * q * (r * r) = 1 := by
            have e1 : q * q * (r * r) = (q * r) * (q * r) := by grind
            rw [e1, hk]; rfl
          rw [hrr] at this; omega
        rw [hqq] at w3
        simp at w3 e
        omega
      · have h1 : r * t + 1 = 0 := by
          have e2 : c' * (r * t + 1) = c' * (r * t) + c' := by rw [Int.mul_add, Int.mul_one]
          rcases Int.lt_or_le (r * t) 0 with hl | hl
          · have h5 := Int.mul_le_mul_of_nonneg_left (show r * t ≤ -1 by omega) (show 0 ≤ c' by omega)
            exact small _ (by omega) (by omega)
          · have h5 := Int.mul_le_mul_of_nonneg_left (show 1 ≤ r * t by omega) (show 0 ≤ c' by omega)
            exact small _ (by omega) (by omega)
        have h2 : r * t = -1 := by omega
        rw [h2] at e
        omega
    · have hpp : p * p = 1 := by rcases (show p = 1 ∨ p = -1 by omega) with rfl | rfl <;> rfl
      by_cases he : p = r
      · subst he
        rw [hpp] at w1
        have hc : c' = b' := by omega
        have hb' : b' = a := by omega
        subst hc
        subst hb'
        have e1 : p * t = q * p + 1 := by omega
        have e2 : p * q = q * p := Int.mul_comm _ _
        rw [e1, e2] at hbq
        have e3 : b = -(c' * (2 * (q * p + 1))) + c' := by rw [hbq]; grind
        have e4 : c' * (2 * (q * p + 1)) = 2 * (c' * (q * p + 1)) := by grind
        have := small (q * p + 1) (by omega) (by omega)
        rw [this] at e3
        omega
      · have hpr1 : p * r = -1 := by
          rcases (show p = 1 ∨ p = -1 by omega) with rfl | rfl <;> rcases (show r = 1 ∨ r = -1 by omega) with rfl | rfl <;> first | rfl | exact absurd rfl he
        rw [hpp, hrr, hpr1] at w1
        omega
end Go.Proofs.Ytifkmjmhhklkjaa
