/- Plain facts: the matrix of the reduction. -/
import Derived.Test.YteehcjjhkphdnaaGreatCA
namespace Go.Proofs.YteehcjjhkphdnaaGreat

/-- A matrix. -/
structure M4 where
  p : Int
  q : Int
  r : Int
  s : Int
def M4.mul (m n : M4) : M4 := ⟨m.p * n.p + m.q * n.r, m.p * n.q + m.q * n.s, m.r * n.p + m.s * n.r, m.r * n.q + m.s * n.s⟩
def M4.one : M4 := ⟨1, 0, 0, 1⟩
def M4.det (m : M4) : Int := m.p * m.s - m.q * m.r
/-- The matrix of a step. -/
def stM (f : Fm) : M4 := ⟨if isNorm f.a f.b then 0 else 1, if isNorm f.a f.b then -1 else tr f.a f.b, if isNorm f.a f.b then 1 else 0, if isNorm f.a f.b then 0 else 1⟩
def actM (f : Fm) (m : M4) : Fm := ⟨atF f.a f.b f.c m.p m.r, polF f.a f.b f.c m.p m.r m.q m.s, atF f.a f.b f.c m.q m.s⟩
theorem act_mul (f : Fm) (m n : M4) : actM (actM f m) n = actM f (m.mul n) := by
  unfold actM atF polF M4.mul
  simp only [Fm.mk.injEq]
  refine ⟨?_, ?_, ?_⟩ <;> grind
theorem act_one (f : Fm) : actM f M4.one = f := by
  unfold actM atF polF M4.one
  obtain ⟨a, b, c⟩ := f
  simp
theorem det_mul (m n : M4) : (m.mul n).det = m.det * n.det := by
  unfold M4.mul M4.det
  grind
theorem det_st (f : Fm) : (stM f).det = 1 := by
  unfold stM M4.det
  split <;> simp
theorem act_st {f : Fm} (h : Def M0 f) : stepF f = actM f (stM f) := (step_sub h).2.2.2
def redMN : Nat → Fm → M4 → M4
  | 0, _, m => m
  | k + 1, f, m => if isRed f.a f.b f.c then m else redMN k (stepF f) (m.mul (stM f))
theorem redMN_more {M : Int} : ∀ (n : Nat) (f : Fm) (m : M4), Def M f → mu f < n → ∀ k, mu f < k → redMN k f m = redMN n f m := by
  intro n
  induction n with
  | zero => intro f _ _ h; omega
  | succ n ih =>
    intro f m h hm k hk
    match k with
    | 0 => omega
    | k + 1 =>
      cases hr : isRed f.a f.b f.c with
      | true => simp [redMN, hr]
      | false =>
        have hs := mu_step h hr
        have := ih (stepF f) (m.mul (stM f)) (def_step h) (by omega) k (by omega)
        simpa [redMN, hr] using this
/-- The matrix that the reduction of f makes, from m on. -/
def redM (f : Fm) (m : M4) : M4 := redMN (mu f + 1) f m
theorem redM_of {f : Fm} {m : M4} (hr : isRed f.a f.b f.c = true) : redM f m = m := by simp [redM, redMN, hr]
theorem redM_step {M : Int} {f : Fm} {m : M4} (h : Def M f) (hr : isRed f.a f.b f.c = false) : redM (stepF f) (m.mul (stM f)) = redM f m := by
  have hs := mu_step h hr
  have e : redM f m = redMN (mu f) (stepF f) (m.mul (stM f)) := by simp [redM, redMN, hr]
  rw [e]
  exact redMN_more (mu f) _ _ (def_step h) hs _ (by omega)
theorem def_mono {M N : Int} {f : Fm} (h : Def M f) (hM : M ≤ N) : Def N f := ⟨h.a0, by have := h.aM; omega, h.c0, by have := h.cM; omega, h.d⟩
theorem redM_ind {M : Int} (P : Fm → M4 → Prop) (hs : ∀ g m, Def M g → isRed g.a g.b g.c = false → P g m → P (stepF g) (m.mul (stM g))) : ∀ (n : Nat) (f : Fm) (m : M4), Def M f → mu f ≤ n → P f m → P (red f) (redM f m) := by
  intro n
  induction n with
  | zero =>
    intro f m h hn hp
    cases hr : isRed f.a f.b f.c with
    | true => rw [red_of hr, redM_of hr]; exact hp
    | false => have := mu_step h hr; omega
  | succ n ih =>
    intro f m h hn hp
    cases hr : isRed f.a f.b f.c with
    | true => rw [red_of hr, redM_of hr]; exact hp
    | false =>
      have := mu_step h hr
      rw [← red_step h hr, ← redM_step h hr]
      exact ih _ _ (def_step h) (by omega) (hs f m h hr hp)
/-- The reducing matrix makes the reduced form, and its determinant is 1. -/
theorem redM_act {f : Fm} (h : Def M0 f) : actM f (redM f M4.one) = red f ∧ (redM f M4.one).det = 1 :=
  redM_ind (fun g m => actM f m = g ∧ m.det = 1) (fun g m hg _ hp => ⟨by rw [← act_mul, hp.1, act_st hg], by rw [det_mul, hp.2, det_st]; rfl⟩) _ f M4.one h (Nat.le_refl _) ⟨act_one f, rfl⟩
/-- A bound of the entries, by the values that they give. -/
theorem ent_bd {f : Fm} {x y v : Int} (hv : atF f.a f.b f.c x y = v) : (4 * (f.a * f.c) - f.b * f.b) * (y * y) ≤ 4 * (f.a * v) ∧ (4 * (f.a * f.c) - f.b * f.b) * (x * x) ≤ 4 * (f.c * v) := by
  subst hv
  unfold atF
  have h1 : 0 ≤ (2 * f.a * x + f.b * y) * (2 * f.a * x + f.b * y) := by
    rcases Int.le_total 0 (2 * f.a * x + f.b * y) with h | h
    · exact Int.mul_nonneg h h
    · exact Int.mul_nonneg_of_nonpos_of_nonpos h h
  have h2 : 0 ≤ (2 * f.c * y + f.b * x) * (2 * f.c * y + f.b * x) := by
    rcases Int.le_total 0 (2 * f.c * y + f.b * x) with h | h
    · exact Int.mul_nonneg h h
    · exact Int.mul_nonneg_of_nonpos_of_nonpos h h
  have e1 : 4 * (f.a * (f.a * x * x + f.b * x * y + f.c * y * y)) = (2 * f.a * x + f.b * y) * (2 * f.a * x + f.b * y) + (4 * (f.a * f.c) - f.b * f.b) * (y * y) := by grind
  have e2 : 4 * (f.c * (f.a * x * x + f.b * x * y + f.c * y * y)) = (2 * f.c * y + f.b * x) * (2 * f.c * y + f.b * x) + (4 * (f.a * f.c) - f.b * f.b) * (x * x) := by grind
  exact ⟨by omega, by omega⟩
theorem sq_nn (x : Int) : 0 ≤ x * x := by
  rcases Int.le_total 0 x with h | h
  · exact Int.mul_nonneg h h
  · exact Int.mul_nonneg_of_nonpos_of_nonpos h h
theorem ent_le {f : Fm} (h : Def 1000000 f) {x y v : Int} (hv : atF f.a f.b f.c x y = v) (h0 : v ≤ 1000000) : (-2000000 ≤ x ∧ x ≤ 2000000) ∧ (-2000000 ≤ y ∧ y ≤ 2000000) := by
  obtain ⟨h1, h2⟩ := ent_bd hv
  have hd := h.d
  have hx := sq_nn x
  have hy := sq_nn y
  have a0 := h.a0; have aM := h.aM; have c0 := h.c0; have cM := h.cM
  have k1 : 1 * (y * y) ≤ (4 * (f.a * f.c) - f.b * f.b) * (y * y) := Int.mul_le_mul_of_nonneg_right (by omega) hy
  have k2 : 1 * (x * x) ≤ (4 * (f.a * f.c) - f.b * f.b) * (x * x) := Int.mul_le_mul_of_nonneg_right (by omega) hx
  have k3 : f.a * v ≤ f.a * 1000000 := Int.mul_le_mul_of_nonneg_left h0 (by omega)
  have k4 : f.c * v ≤ f.c * 1000000 := Int.mul_le_mul_of_nonneg_left h0 (by omega)
  exact ⟨abs_of_sq (by omega) (by omega), abs_of_sq (by omega) (by omega)⟩
theorem ent_all {f : Fm} (h : Def 1000000 f) {m : M4} (hd : Def 1000000 (actM f m)) : (-2000000 ≤ m.p ∧ m.p ≤ 2000000) ∧ (-2000000 ≤ m.q ∧ m.q ≤ 2000000) ∧ (-2000000 ≤ m.r ∧ m.r ≤ 2000000) ∧ (-2000000 ≤ m.s ∧ m.s ≤ 2000000) := by
  have h1 := ent_le h (x := m.p) (y := m.r) rfl hd.aM
  have h2 := ent_le h (x := m.q) (y := m.s) rfl hd.cM
  exact ⟨h1.1, h2.1, h1.2, h2.2⟩
/-- The entries of the reducing matrix are numbers of the program. -/
theorem redM_bd {f : Fm} (h : Def 1000000 f) : let m := redM f M4.one; (-1200 ≤ m.p ∧ m.p ≤ 1200) ∧ (-1200 ≤ m.q ∧ m.q ≤ 1200) ∧ (-1200 ≤ m.r ∧ m.r ≤ 1200) ∧ (-1200 ≤ m.s ∧ m.s ≤ 1200) := by
  intro m
  have h0 : Def M0 f := def_mono h (by decide)
  have hm := (redM_act h0).1
  have hg := red_def h
  have hr := (isRed_iff _ _ _).1 (red_isRed h)
  have hdc := red_disc h
  have e1 : atF f.a f.b f.c m.p m.r = (red f).a := congrArg Fm.a hm
  have e2 : atF f.a f.b f.c m.q m.s = (red f).c := congrArg Fm.c hm
  have d1 := h.d
  have D : 4 * (f.a * f.c) - f.b * f.b = 4 * ((red f).a * (red f).c) - (red f).b * (red f).b := by
    unfold disc at hdc
    have q1 : 4 * f.a * f.c = 4 * (f.a * f.c) := Int.mul_assoc _ _ _
    have q2 : 4 * (red f).a * (red f).c = 4 * ((red f).a * (red f).c) := Int.mul_assoc _ _ _
    omega
  obtain ⟨b1, b2⟩ := ent_bd e1
  obtain ⟨b3, b4⟩ := ent_bd e2
  generalize red f = g at *
  obtain ⟨hb, hac⟩ := hr
  have ga := hg.a0
  have gc := hg.c0
  have a0 := h.a0; have aM := h.aM; have c0 := h.c0; have cM := h.cM
  have k1 : g.b * g.b ≤ g.a * g.a := by
    have := mul_bd (a := g.b) (x := g.b) (A := g.a) (X := g.a) (by omega) (by omega) (by omega) (by omega)
    omega
  have k2 : g.a * g.a ≤ g.a * g.c := Int.mul_le_mul_of_nonneg_left (by omega) (by omega)
  have k3 : 1 * g.c ≤ g.a * g.c := Int.mul_le_mul_of_nonneg_right (by omega) (by omega)
  have k4 : 1 * g.a ≤ g.a * g.a := Int.mul_le_mul_of_nonneg_right (by omega) (by omega)
  generalize hDD : 4 * (f.a * f.c) - f.b * f.b = DD at *
  have k5 : 3 * (g.a * g.c) ≤ DD := by omega
  have k6 : 0 < DD := by omega
  have fin : ∀ (z t v : Int), 0 < t → t ≤ 1000000 → 3 * v ≤ DD → DD * (z * z) ≤ 4 * (t * v) → -1200 ≤ z ∧ z ≤ 1200 := by
    intro z t v t0 t1 hv hz
    refine abs_of_sq (by omega) ?_
    have m1 : t * (3 * v) ≤ t * DD := Int.mul_le_mul_of_nonneg_left hv (by omega)
    have m2 : t * DD ≤ 1000000 * DD := Int.mul_le_mul_of_nonneg_right t1 (by omega)
    have m3 : t * (3 * v) = 3 * (t * v) := Int.mul_left_comm _ _ _
    have m4 : DD * (3 * (z * z)) = 3 * (DD * (z * z)) := Int.mul_left_comm _ _ _
    have m5 : DD * (3 * (z * z)) ≤ DD * 4000000 := by omega
    have m6 := Int.le_of_mul_le_mul_left m5 k6
    omega
  exact ⟨fin _ _ _ c0 cM (by omega) b2, fin _ _ _ c0 cM (by omega) b4, fin _ _ _ a0 aM (by omega) b1, fin _ _ _ a0 aM (by omega) b3⟩
end Go.Proofs.YteehcjjhkphdnaaGreat
