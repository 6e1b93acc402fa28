/- Plain facts on integers and binary quadratic forms: the reduction step and the reduced form. No program in sight. -/
namespace Go.Proofs.Ytifkmjmhhklkjaa

/-- A binary quadratic form. -/
structure Fm where
  a : Int
  b : Int
  c : Int

theorem Fm.ex (f : Fm) : ∃ x y z, f = ⟨x, y, z⟩ := ⟨f.a, f.b, f.c, rfl⟩

def isNorm (a b : Int) : Bool := decide (-a < b) && decide (b ≤ a)
def isRed (a b c : Int) : Bool := isNorm a b && (decide (a < c) || (decide (a = c) && decide (0 ≤ b)))

/-- The translation that makes a form normal. -/
def tr (a b : Int) : Int := (a - b) / (2 * a)

/-- One step of the reduction. -/
def stepF (f : Fm) : Fm :=
  if isNorm f.a f.b then ⟨f.c, -f.b, f.a⟩
  else ⟨f.a, f.b + 2 * f.a * tr f.a f.b, f.a * tr f.a f.b * tr f.a f.b + f.b * tr f.a f.b + f.c⟩

def redN : Nat → Fm → Fm
  | 0, f => f
  | n + 1, f => if isRed f.a f.b f.c then f else redN n (stepF f)

/-- The reduced form. -/
def red (f : Fm) : Fm := redN (2 * f.a.toNat + 2) f

/-- A definite form within bounds. -/
structure Def (M : Int) (f : Fm) : Prop where
  a0 : 0 < f.a
  aM : f.a ≤ M
  c0 : 0 < f.c
  cM : f.c ≤ M
  d : f.b * f.b < 4 * (f.a * f.c)

theorem abs_of_sq {b m : Int} (hm : 0 ≤ m) (h : b * b ≤ m * m) : -m ≤ b ∧ b ≤ m := by
  constructor
  · apply Int.not_lt.1
    intro hlt
    have h1 : m + 1 ≤ -b := by omega
    have h2 : (m + 1) * (m + 1) ≤ (-b) * (-b) := Int.mul_le_mul h1 h1 (by omega) (by omega)
    rw [Int.neg_mul_neg] at h2
    have : (m + 1) * (m + 1) = m * m + 2 * m + 1 := by
      rw [Int.add_mul, Int.mul_add, Int.mul_one, Int.one_mul]; omega
    omega
  · apply Int.not_lt.1
    intro hlt
    have h1 : m + 1 ≤ b := by omega
    have h2 : (m + 1) * (m + 1) ≤ b * b := Int.mul_le_mul h1 h1 (by omega) (by omega)
    have : (m + 1) * (m + 1) = m * m + 2 * m + 1 := by
      rw [Int.add_mul, Int.mul_add, Int.mul_one, Int.one_mul]; omega
    omega

theorem mul_bd {a x A X : Int} (h1 : -A ≤ a) (h2 : a ≤ A) (h3 : -X ≤ x) (h4 : x ≤ X) : -(A * X) ≤ a * x ∧ a * x ≤ A * X := by
  have hA : 0 ≤ A := by omega
  have hX : 0 ≤ X := by omega
  have k1 : 0 ≤ (A + a) * (X + x) := Int.mul_nonneg (by omega) (by omega)
  have k2 : 0 ≤ (A - a) * (X - x) := Int.mul_nonneg (by omega) (by omega)
  have k3 : 0 ≤ (A + a) * (X - x) := Int.mul_nonneg (by omega) (by omega)
  have k4 : 0 ≤ (A - a) * (X + x) := Int.mul_nonneg (by omega) (by omega)
  simp only [Int.add_mul, Int.sub_mul, Int.mul_add, Int.mul_sub] at k1 k2 k3 k4
  constructor <;> omega

theorem Def.bB {M : Int} {f : Fm} (h : Def M f) : -(2 * M) ≤ f.b ∧ f.b ≤ 2 * M := by
  apply abs_of_sq (by have := h.a0; have := h.aM; omega)
  have h1 : f.a * f.c ≤ M * M := Int.mul_le_mul h.aM h.cM (by have := h.c0; omega) (by have := h.a0; have := h.aM; omega)
  have h2 := h.d
  have : 2 * M * (2 * M) = 4 * (M * M) := by rw [Int.mul_assoc, Int.mul_left_comm M 2 M]; omega
  omega

/-- The discriminant does not turn. -/
def disc (f : Fm) : Int := f.b * f.b - 4 * f.a * f.c

theorem isNorm_iff (a b : Int) : isNorm a b = true ↔ -a < b ∧ b ≤ a := by simp [isNorm]
theorem isNorm_false (a b : Int) : isNorm a b = false ↔ ¬ (-a < b ∧ b ≤ a) := by
  rw [← isNorm_iff]; simp

theorem tr_spec {a b : Int} (ha : 0 < a) : -a < b + 2 * a * tr a b ∧ b + 2 * a * tr a b ≤ a := by
  unfold tr
  have h1 := Int.emod_add_mul_ediv (a - b) (2 * a)
  have h2 := Int.emod_nonneg (a - b) (show 2 * a ≠ 0 by omega)
  have h3 := Int.emod_lt_of_pos (a - b) (show 0 < 2 * a by omega)
  omega

theorem tr_zero {a b : Int} (ha : 0 < a) : tr a b = 0 ↔ isNorm a b = true := by
  rw [isNorm_iff]
  have h := tr_spec (a := a) (b := b) ha
  constructor
  · intro h0; rw [h0] at h; simpa using h
  · rintro ⟨h1, h2⟩
    unfold tr
    exact Int.ediv_eq_zero_of_lt (by omega) (by omega)

/-- |t| is small. -/
theorem tr_bd {a b M : Int} (ha : 0 < a) (hM : a ≤ M) (hb : -(2 * M) ≤ b ∧ b ≤ 2 * M) : -(2 * M) ≤ tr a b ∧ tr a b ≤ 2 * M := by
  obtain ⟨h1, h2⟩ := hb
  unfold tr
  constructor
  · apply Int.le_ediv_of_mul_le (by omega)
    have : 2 * M * (2 * a) = 2 * a * (2 * M) := Int.mul_comm _ _
    have k : 2 * M ≤ 2 * M * a := by
      have := Int.mul_le_mul_of_nonneg_left (show (1 : Int) ≤ a by omega) (show 0 ≤ 2 * M by omega)
      omega
    have : 2 * M * (2 * a) = 2 * (2 * M * a) := by rw [Int.mul_left_comm]
    have : -(2 * M) * (2 * a) = -(2 * M * (2 * a)) := Int.neg_mul _ _
    omega
  · have : (a - b) / (2 * a) < 2 * M + 1 := by
      apply Int.ediv_lt_of_lt_mul (by omega)
      have k : 2 * M ≤ 2 * M * a := by
        have := Int.mul_le_mul_of_nonneg_left (show (1 : Int) ≤ a by omega) (show 0 ≤ 2 * M by omega)
        omega
      have : (2 * M + 1) * (2 * a) = 2 * (2 * M * a) + 2 * a := by
        rw [Int.add_mul, Int.mul_left_comm, Int.one_mul]
      omega
    omega

theorem disc_step (f : Fm) : disc (stepF f) = disc f := by
  unfold disc stepF
  split <;> grind

theorem c_of_disc {a b c : Int} (ha : 0 < a) (h : b * b < 4 * (a * c)) : 0 < c := by
  apply Int.not_le.1
  intro hc
  have : a * c ≤ 0 := Int.mul_nonpos_of_nonneg_of_nonpos (by omega) hc
  have : 0 ≤ b * b := by
    rcases Int.le_total 0 b with h | h
    · exact Int.mul_nonneg h h
    · exact Int.mul_nonneg_of_nonpos_of_nonpos h h
  omega

theorem def_disc {M : Int} {f : Fm} (h : Def M f) : disc f < 0 := by
  have := h.d
  unfold disc; rw [Int.mul_assoc]; omega

/-- A translation to normal does not raise the last coefficient. -/
theorem tr_low {a b c : Int} (ha : 0 < a) : a * tr a b * tr a b + b * tr a b + c ≤ c := by
  have h := tr_spec (a := a) (b := b) ha
  generalize tr a b = t at *
  suffices h : t * (a * t + b) ≤ 0 by
    have e : t * (a * t + b) = a * t * t + b * t := by rw [Int.mul_add, Int.mul_comm t (a * t), Int.mul_comm t b]
    omega
  have e2 : 2 * a * t = 2 * (a * t) := Int.mul_assoc _ _ _
  rcases Int.lt_trichotomy t 0 with h0 | h0 | h0
  · have h1 : a * t ≤ a * (-1) := Int.mul_le_mul_of_nonneg_left (by omega) (by omega)
    exact Int.mul_nonpos_of_nonpos_of_nonneg (by omega) (by omega)
  · subst h0; simp
  · have h1 : a * 1 ≤ a * t := Int.mul_le_mul_of_nonneg_left (by omega) (by omega)
    exact Int.mul_nonpos_of_nonneg_of_nonpos (by omega) (by omega)

theorem def_step {M : Int} {f : Fm} (h : Def M f) : Def M (stepF f) := by
  have hd := disc_step f
  have h0 := def_disc h
  have key : (stepF f).b * (stepF f).b < 4 * ((stepF f).a * (stepF f).c) := by
    rw [← hd] at h0
    unfold disc at h0; rw [Int.mul_assoc] at h0; omega
  cases hn : isNorm f.a f.b with
  | true =>
    have e : stepF f = ⟨f.c, -f.b, f.a⟩ := by simp [stepF, hn]
    rw [e] at key ⊢
    exact ⟨h.c0, h.cM, h.a0, h.aM, key⟩
  | false =>
    have e : stepF f = ⟨f.a, f.b + 2 * f.a * tr f.a f.b, f.a * tr f.a f.b * tr f.a f.b + f.b * tr f.a f.b + f.c⟩ := by simp [stepF, hn]
    have hlow := tr_low (b := f.b) (c := f.c) h.a0
    rw [e] at key ⊢
    refine ⟨h.a0, h.aM, c_of_disc h.a0 key, ?_, key⟩
    exact Int.le_trans hlow h.cM

/-- The measure of the reduction. -/
def mu (f : Fm) : Nat := if isRed f.a f.b f.c then 0 else 2 * f.a.toNat + (if isNorm f.a f.b then 0 else 1)

theorem isRed_iff (a b c : Int) : isRed a b c = true ↔ (-a < b ∧ b ≤ a) ∧ (a < c ∨ (a = c ∧ 0 ≤ b)) := by simp [isRed, isNorm]

theorem mu_step {M : Int} {f : Fm} (h : Def M f) (hr : isRed f.a f.b f.c = false) : mu (stepF f) < mu f := by
  obtain ⟨a, b, c⟩ := f
  have h0 := h.a0
  have h1 := h.c0
  simp only at h0 h1 hr
  have hr' : ¬ ((-a < b ∧ b ≤ a) ∧ (a < c ∨ (a = c ∧ 0 ≤ b))) := by rw [← isRed_iff, hr]; simp
  have hm : mu ⟨a, b, c⟩ = 2 * a.toNat + (if isNorm a b then 0 else 1) := by simp [mu, hr]
  rw [hm]
  cases hn : isNorm a b with
  | true =>
    have e : stepF ⟨a, b, c⟩ = ⟨c, -b, a⟩ := by simp [stepF, hn]
    rw [isNorm_iff] at hn
    rw [e]
    unfold mu
    by_cases hac : a = c
    · have : isRed c (-b) a = true := by rw [isRed_iff]; omega
      simp only [this, if_true]
      simp; omega
    · have hlt : c < a := by omega
      split
      · simp; omega
      · split <;> simp <;> omega
  | false =>
    have e : stepF ⟨a, b, c⟩ = ⟨a, b + 2 * a * tr a b, a * tr a b * tr a b + b * tr a b + c⟩ := by simp [stepF, hn]
    have ht := tr_spec (b := b) h0
    have hn2 : isNorm a (b + 2 * a * tr a b) = true := (isNorm_iff _ _).2 ht
    have h2 : mu ⟨a, b + 2 * a * tr a b, a * tr a b * tr a b + b * tr a b + c⟩ ≤ 2 * a.toNat := by
      unfold mu
      simp only [hn2, if_true]
      split <;> omega
    rw [e]
    simp only [Bool.false_eq_true, if_false]
    omega

theorem mu_le (f : Fm) : mu f ≤ 2 * f.a.toNat + 1 := by
  unfold mu; split
  · omega
  · split <;> omega

theorem redN_more {M : Int} : ∀ (n : Nat) (f : Fm), Def M f → mu f < n → isRed (redN n f).a (redN n f).b (redN n f).c = true ∧ ∀ m, mu f < m → redN m f = redN n f := by
  intro n
  induction n with
  | zero => intro f _ h; omega
  | succ n ih =>
    intro f h hm
    cases hr : isRed f.a f.b f.c with
    | true =>
      refine ⟨by simp [redN, hr], fun m hm' => ?_⟩
      match m with
      | 0 => omega
      | m + 1 => simp [redN, hr]
    | false =>
      have hs := mu_step h hr
      obtain ⟨i1, i2⟩ := ih (stepF f) (def_step h) (by omega)
      refine ⟨by simpa [redN, hr] using i1, fun m hm' => ?_⟩
      match m with
      | 0 => omega
      | m + 1 =>
        have := i2 m (by omega)
        simpa [redN, hr] using this

theorem red_isRed {M : Int} {f : Fm} (h : Def M f) : isRed (red f).a (red f).b (red f).c = true :=
  (redN_more _ f h (by have := mu_le f; omega)).1
theorem red_of {f : Fm} (hr : isRed f.a f.b f.c = true) : red f = f := by
  unfold red
  rw [show 2 * f.a.toNat + 2 = (2 * f.a.toNat + 1) + 1 from rfl]
  simp [redN, hr]
theorem red_step {M : Int} {f : Fm} (h : Def M f) (hr : isRed f.a f.b f.c = false) : red (stepF f) = red f := by
  have hs := mu_step h hr
  have h1 := mu_le f
  have h2 := mu_le (stepF f)
  have e : red f = redN (2 * f.a.toNat + 1) (stepF f) := by
    unfold red
    rw [show 2 * f.a.toNat + 2 = (2 * f.a.toNat + 1) + 1 from rfl]
    simp [redN, hr]
  rw [e]
  exact ((redN_more (2 * f.a.toNat + 1) (stepF f) (def_step h) (by omega)).2 _ (by omega))

/-- An induction along the reduction. -/
theorem red_ind {M : Int} {p : Fm → Prop} (f : Fm) (h : Def M f) (hp : p f) (hs : ∀ g, Def M g → isRed g.a g.b g.c = false → p g → p (stepF g)) : p (red f) := by
  have key : ∀ (n : Nat) (g : Fm), Def M g → p g → p (redN n g) := by
    intro n
    induction n with
    | zero => intro g _ hg; exact hg
    | succ n ih =>
      intro g hg hpg
      cases hr : isRed g.a g.b g.c with
      | true => simpa [redN, hr] using hpg
      | false => simpa [redN, hr] using ih (stepF g) (def_step hg) (hs g hg hr hpg)
  exact key _ f h hp
theorem red_def {M : Int} {f : Fm} (h : Def M f) : Def M (red f) := red_ind f h h fun _ hg _ _ => def_step hg
theorem red_disc {M : Int} {f : Fm} (h : Def M f) : disc (red f) = disc f := red_ind (p := fun g => disc g = disc f) f h rfl fun _ _ _ hp => (disc_step _).trans hp

end Go.Proofs.Ytifkmjmhhklkjaa
