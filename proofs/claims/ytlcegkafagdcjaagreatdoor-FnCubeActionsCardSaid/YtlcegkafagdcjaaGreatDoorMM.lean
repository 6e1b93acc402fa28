/- Parts M1 M2 M3 M4 M5 M6 M7 M8 M9 M10 M11 M12 M13 M14 M15 M16 M17 laid together by tp.py. -/
namespace Go.Proofs.YtlcegkafagdcjaaGreatDoor
section

/-- A binary quadratic form. -/
structure Fm where
  a : Int
  b : Int
  c : Int

theorem Fm.ex (f : Fm) : ∃ x y z, f = ⟨x, y, z⟩ := ⟨f.a, f.b, f.c, rfl⟩

def isNorm (a b : Int) : Bool := decide (-a < b) && decide (b ≤ a)
def isRed (a b c : Int) : Bool := isNorm a b && (decide (a < c) || (decide (a = c) && decide (0 ≤ b)))

/-- The translation that makes a form normal. -/
def tr (a b : Int) : Int := (a - b) / (2 * a)

/-- One step of the reduction. -/
def stepF (f : Fm) : Fm :=
  if isNorm f.a f.b then ⟨f.c, -f.b, f.a⟩
  else ⟨f.a, f.b + 2 * f.a * tr f.a f.b, f.a * tr f.a f.b * tr f.a f.b + f.b * tr f.a f.b + f.c⟩

def redN : Nat → Fm → Fm
  | 0, f => f
  | n + 1, f => if isRed f.a f.b f.c then f else redN n (stepF f)

/-- The reduced form. -/
def red (f : Fm) : Fm := redN (2 * f.a.toNat + 2) f

/-- A definite form within bounds. -/
structure Def (M : Int) (f : Fm) : Prop where
  a0 : 0 < f.a
  aM : f.a ≤ M
  c0 : 0 < f.c
  cM : f.c ≤ M
  d : f.b * f.b < 4 * (f.a * f.c)

theorem abs_of_sq {b m : Int} (hm : 0 ≤ m) (h : b * b ≤ m * m) : -m ≤ b ∧ b ≤ m := by
  constructor
  · apply Int.not_lt.1
    intro hlt
    have h1 : m + 1 ≤ -b := by omega
    have h2 : (m + 1) * (m + 1) ≤ (-b) * (-b) := Int.mul_le_mul h1 h1 (by omega) (by omega)
    rw [Int.neg_mul_neg] at h2
    have : (m + 1) * (m + 1) = m * m + 2 * m + 1 := by
      rw [Int.add_mul, Int.mul_add, Int.mul_one, Int.one_mul]; omega
    omega
  · apply Int.not_lt.1
    intro hlt
    have h1 : m + 1 ≤ b := by omega
    have h2 : (m + 1) * (m + 1) ≤ b * b := Int.mul_le_mul h1 h1 (by omega) (by omega)
    have : (m + 1) * (m + 1) = m * m + 2 * m + 1 := by
      rw [Int.add_mul, Int.mul_add, Int.mul_one, Int.one_mul]; omega
    omega

theorem mul_bd {a x A X : Int} (h1 : -A ≤ a) (h2 : a ≤ A) (h3 : -X ≤ x) (h4 : x ≤ X) : -(A * X) ≤ a * x ∧ a * x ≤ A * X := by
  have hA : 0 ≤ A := by omega
  have hX : 0 ≤ X := by omega
  have k1 : 0 ≤ (A + a) * (X + x) := Int.mul_nonneg (by omega) (by omega)
  have k2 : 0 ≤ (A - a) * (X - x) := Int.mul_nonneg (by omega) (by omega)
  have k3 : 0 ≤ (A + a) * (X - x) := Int.mul_nonneg (by omega) (by omega)
  have k4 : 0 ≤ (A - a) * (X + x) := Int.mul_nonneg (by omega) (by omega)
  simp only [Int.add_mul, Int.sub_mul, Int.mul_add, Int.mul_sub] at k1 k2 k3 k4
  constructor <;> omega

theorem Def.bB {M : Int} {f : Fm} (h : Def M f) : -(2 * M) ≤ f.b ∧ f.b ≤ 2 * M := by
  apply abs_of_sq (by have := h.a0; have := h.aM; omega)
  have h1 : f.a * f.c ≤ M * M := Int.mul_le_mul h.aM h.cM (by have := h.c0; omega) (by have := h.a0; have := h.aM; omega)
  have h2 := h.d
  have : 2 * M * (2 * M) = 4 * (M * M) := by rw [Int.mul_assoc, Int.mul_left_comm M 2 M]; omega
  omega

/-- The discriminant does not turn. -/
def disc (f : Fm) : Int := f.b * f.b - 4 * f.a * f.c

theorem isNorm_iff (a b : Int) : isNorm a b = true ↔ -a < b ∧ b ≤ a := by simp [isNorm]
theorem isNorm_false (a b : Int) : isNorm a b = false ↔ ¬ (-a < b ∧ b ≤ a) := by
  rw [← isNorm_iff]; simp

theorem tr_spec {a b : Int} (ha : 0 < a) : -a < b + 2 * a * tr a b ∧ b + 2 * a * tr a b ≤ a := by
  unfold tr
  have h1 := Int.emod_add_mul_ediv (a - b) (2 * a)
  have h2 := Int.emod_nonneg (a - b) (show 2 * a ≠ 0 by omega)
  have h3 := Int.emod_lt_of_pos (a - b) (show 0 < 2 * a by omega)
  omega

theorem tr_zero {a b : Int} (ha : 0 < a) : tr a b = 0 ↔ isNorm a b = true := by
  rw [isNorm_iff]
  have h := tr_spec (a := a) (b := b) ha
  constructor
  · intro h0; rw [h0] at h; simpa using h
  · rintro ⟨h1, h2⟩
    unfold tr
    exact Int.ediv_eq_zero_of_lt (by omega) (by omega)

/-- |t| is small. -/
theorem tr_bd {a b M : Int} (ha : 0 < a) (hM : a ≤ M) (hb : -(2 * M) ≤ b ∧ b ≤ 2 * M) : -(2 * M) ≤ tr a b ∧ tr a b ≤ 2 * M := by
  obtain ⟨h1, h2⟩ := hb
  unfold tr
  constructor
  · apply Int.le_ediv_of_mul_le (by omega)
    have : 2 * M * (2 * a) = 2 * a * (2 * M) := Int.mul_comm _ _
    have k : 2 * M ≤ 2 * M * a := by
      have := Int.mul_le_mul_of_nonneg_left (show (1 : Int) ≤ a by omega) (show 0 ≤ 2 * M by omega)
      omega
    have : 2 * M * (2 * a) = 2 * (2 * M * a) := by rw [Int.mul_left_comm]
    have : -(2 * M) * (2 * a) = -(2 * M * (2 * a)) := Int.neg_mul _ _
    omega
  · have : (a - b) / (2 * a) < 2 * M + 1 := by
      apply Int.ediv_lt_of_lt_mul (by omega)
      have k : 2 * M ≤ 2 * M * a := by
        have := Int.mul_le_mul_of_nonneg_left (show (1 : Int) ≤ a by omega) (show 0 ≤ 2 * M by omega)
        omega
      have : (2 * M + 1) * (2 * a) = 2 * (2 * M * a) + 2 * a := by
        rw [Int.add_mul, Int.mul_left_comm, Int.one_mul]
      omega
    omega

theorem disc_step (f : Fm) : disc (stepF f) = disc f := by
  unfold disc stepF
  split <;> grind

theorem c_of_disc {a b c : Int} (ha : 0 < a) (h : b * b < 4 * (a * c)) : 0 < c := by
  apply Int.not_le.1
  intro hc
  have : a * c ≤ 0 := Int.mul_nonpos_of_nonneg_of_nonpos (by omega) hc
  have : 0 ≤ b * b := by
    rcases Int.le_total 0 b with h | h
    · exact Int.mul_nonneg h h
    · exact Int.mul_nonneg_of_nonpos_of_nonpos h h
  omega

theorem def_disc {M : Int} {f : Fm} (h : Def M f) : disc f < 0 := by
  have := h.d
  unfold disc; rw [Int.mul_assoc]; omega

/-- A translation to normal does not raise the last coefficient. -/
theorem tr_low {a b c : Int} (ha : 0 < a) : a * tr a b * tr a b + b * tr a b + c ≤ c := by
  have h := tr_spec (a := a) (b := b) ha
  generalize tr a b = t at *
  suffices h : t * (a * t + b) ≤ 0 by
    have e : t * (a * t + b) = a * t * t + b * t := by rw [Int.mul_add, Int.mul_comm t (a * t), Int.mul_comm t b]
    omega
  have e2 : 2 * a * t = 2 * (a * t) := Int.mul_assoc _ _ _
  rcases Int.lt_trichotomy t 0 with h0 | h0 | h0
  · have h1 : a * t ≤ a * (-1) := Int.mul_le_mul_of_nonneg_left (by omega) (by omega)
    exact Int.mul_nonpos_of_nonpos_of_nonneg (by omega) (by omega)
  · subst h0; simp
  · have h1 : a * 1 ≤ a * t := Int.mul_le_mul_of_nonneg_left (by omega) (by omega)
    exact Int.mul_nonpos_of_nonneg_of_nonpos (by omega) (by omega)

theorem def_step {M : Int} {f : Fm} (h : Def M f) : Def M (stepF f) := by
  have hd := disc_step f
  have h0 := def_disc h
  have key : (stepF f).b * (stepF f).b < 4 * ((stepF f).a * (stepF f).c) := by
    rw [← hd] at h0
    unfold disc at h0; rw [Int.mul_assoc] at h0; omega
  cases hn : isNorm f.a f.b with
  | true =>
    have e : stepF f = ⟨f.c, -f.b, f.a⟩ := by simp [stepF, hn]
    rw [e] at key ⊢
    exact ⟨h.c0, h.cM, h.a0, h.aM, key⟩
  | false =>
    have e : stepF f = ⟨f.a, f.b + 2 * f.a * tr f.a f.b, f.a * tr f.a f.b * tr f.a f.b + f.b * tr f.a f.b + f.c⟩ := by simp [stepF, hn]
    have hlow := tr_low (b := f.b) (c := f.c) h.a0
    rw [e] at key ⊢
    refine ⟨h.a0, h.aM, c_of_disc h.a0 key, ?_, key⟩
    exact Int.le_trans hlow h.cM

/-- The measure of the reduction. -/
def mu (f : Fm) : Nat := if isRed f.a f.b f.c then 0 else 2 * f.a.toNat + (if isNorm f.a f.b then 0 else 1)

theorem isRed_iff (a b c : Int) : isRed a b c = true ↔ (-a < b ∧ b ≤ a) ∧ (a < c ∨ (a = c ∧ 0 ≤ b)) := by simp [isRed, isNorm]

theorem mu_step {M : Int} {f : Fm} (h : Def M f) (hr : isRed f.a f.b f.c = false) : mu (stepF f) < mu f := by
  obtain ⟨a, b, c⟩ := f
  have h0 := h.a0
  have h1 := h.c0
  simp only at h0 h1 hr
  have hr' : ¬ ((-a < b ∧ b ≤ a) ∧ (a < c ∨ (a = c ∧ 0 ≤ b))) := by rw [← isRed_iff, hr]; simp
  have hm : mu ⟨a, b, c⟩ = 2 * a.toNat + (if isNorm a b then 0 else 1) := by simp [mu, hr]
  rw [hm]
  cases hn : isNorm a b with
  | true =>
    have e : stepF ⟨a, b, c⟩ = ⟨c, -b, a⟩ := by simp [stepF, hn]
    rw [isNorm_iff] at hn
    rw [e]
    unfold mu
    by_cases hac : a = c
    · have : isRed c (-b) a = true := by rw [isRed_iff]; omega
      simp only [this, if_true]
      simp; omega
    · have hlt : c < a := by omega
      split
      · simp; omega
      · split <;> simp <;> omega
  | false =>
    have e : stepF ⟨a, b, c⟩ = ⟨a, b + 2 * a * tr a b, a * tr a b * tr a b + b * tr a b + c⟩ := by simp [stepF, hn]
    have ht := tr_spec (b := b) h0
    have hn2 : isNorm a (b + 2 * a * tr a b) = true := (isNorm_iff _ _).2 ht
    have h2 : mu ⟨a, b + 2 * a * tr a b, a * tr a b * tr a b + b * tr a b + c⟩ ≤ 2 * a.toNat := by
      unfold mu
      simp only [hn2, if_true]
      split <;> omega
    rw [e]
    simp only [Bool.false_eq_true, if_false]
    omega

theorem mu_le (f : Fm) : mu f ≤ 2 * f.a.toNat + 1 := by
  unfold mu; split
  · omega
  · split <;> omega

theorem redN_more {M : Int} : ∀ (n : Nat) (f : Fm), Def M f → mu f < n → isRed (redN n f).a (redN n f).b (redN n f).c = true ∧ ∀ m, mu f < m → redN m f = redN n f := by
  intro n
  induction n with
  | zero => intro f _ h; omega
  | succ n ih =>
    intro f h hm
    cases hr : isRed f.a f.b f.c with
    | true =>
      refine ⟨by simp [redN, hr], fun m hm' => ?_⟩
      match m with
      | 0 => omega
      | m + 1 => simp [redN, hr]
    | false =>
      have hs := mu_step h hr
      obtain ⟨i1, i2⟩ := ih (stepF f) (def_step h) (by omega)
      refine ⟨by simpa [redN, hr] using i1, fun m hm' => ?_⟩
      match m with
      | 0 => omega
      | m + 1 =>
        have := i2 m (by omega)
        simpa [redN, hr] using this

theorem red_isRed {M : Int} {f : Fm} (h : Def M f) : isRed (red f).a (red f).b (red f).c = true :=
  (redN_more _ f h (by have := mu_le f; omega)).1
theorem red_of {f : Fm} (hr : isRed f.a f.b f.c = true) : red f = f := by
  unfold red
  rw [show 2 * f.a.toNat + 2 = (2 * f.a.toNat + 1) + 1 from rfl]
  simp [redN, hr]
theorem red_step {M : Int} {f : Fm} (h : Def M f) (hr : isRed f.a f.b f.c = false) : red (stepF f) = red f := by
  have hs := mu_step h hr
  have h1 := mu_le f
  have h2 := mu_le (stepF f)
  have e : red f = redN (2 * f.a.toNat + 1) (stepF f) := by
    unfold red
    rw [show 2 * f.a.toNat + 2 = (2 * f.a.toNat + 1) + 1 from rfl]
    simp [redN, hr]
  rw [e]
  exact ((redN_more (2 * f.a.toNat + 1) (stepF f) (def_step h) (by omega)).2 _ (by omega))

/-- An induction along the reduction. -/
theorem red_ind {M : Int} {p : Fm → Prop} (f : Fm) (h : Def M f) (hp : p f) (hs : ∀ g, Def M g → isRed g.a g.b g.c = false → p g → p (stepF g)) : p (red f) := by
  have key : ∀ (n : Nat) (g : Fm), Def M g → p g → p (redN n g) := by
    intro n
    induction n with
    | zero => intro g _ hg; exact hg
    | succ n ih =>
      intro g hg hpg
      cases hr : isRed g.a g.b g.c with
      | true => simpa [redN, hr] using hpg
      | false => simpa [redN, hr] using ih (stepF g) (def_step hg) (hs g hg hr hpg)
  exact key _ f h hp
theorem red_def {M : Int} {f : Fm} (h : Def M f) : Def M (red f) := red_ind f h h fun _ hg _ _ => def_step hg
theorem red_disc {M : Int} {f : Fm} (h : Def M f) : disc (red f) = disc f := red_ind (p := fun g => disc g = disc f) f h rfl fun _ _ _ hp => (disc_step _).trans hp
end

section

/-- The reduced form with the first coefficients a and b, if there is one. -/
def cand (d a b : Int) : Option Fm :=
  if (b * b - d) % (4 * a) = 0 ∧ isRed a b ((b * b - d) / (4 * a)) = true then some ⟨a, b, (b * b - d) / (4 * a)⟩ else none
/-- Those with the first coefficient a, for the first j of the second coefficients. -/
def rowF (d a : Int) (j : Nat) : List Fm := (List.range j).filterMap fun i : Nat => cand d a (1 - a + i)
/-- Those with the first coefficients 1 .. k. -/
def allF (d : Int) (k : Nat) : List Fm := (List.range k).flatMap fun i : Nat => rowF d (i + 1) (2 * (i + 1))
/-- How many first coefficients there are. -/
def kOf (d : Int) : Nat := ((List.range 40).find? fun k : Nat => !decide (3 * ((k : Int) + 1) * (k + 1) ≤ -d)).getD 40
def allR (d : Int) : List Fm := allF d (kOf d)
/-- Those whose coefficients have no common divisor. -/
def primB (f : Fm) : Bool := decide (Int.gcd f.a (Int.gcd f.b f.c) = 1)
def clsL (d : Int) : List Fm := (allR d).filter primB

theorem rowF_succ (d a : Int) (j : Nat) : rowF d a (j + 1) = rowF d a j ++ (cand d a (1 - a + j)).toList := by
  unfold rowF
  rw [List.range_succ, List.filterMap_append]
  congr 1
theorem allF_succ (d : Int) (k : Nat) : allF d (k + 1) = allF d k ++ rowF d (k + 1) (2 * (k + 1)) := by
  unfold allF
  rw [List.range_succ, List.flatMap_append]
  simp

theorem mul_mono3 {i k : Int} (h0 : 0 ≤ i) (h : i ≤ k) : 3 * (i + 1) * (i + 1) ≤ 3 * (k + 1) * (k + 1) := by
  have h1 : (i + 1) * (i + 1) ≤ (k + 1) * (k + 1) := Int.mul_le_mul (by omega) (by omega) (by omega) (by omega)
  rw [Int.mul_assoc, Int.mul_assoc]; omega

theorem kOf_eq {d : Int} {k : Nat} (hk : k < 40) (h1 : k = 0 ∨ 3 * (k : Int) * k ≤ -d) (h2 : ¬ 3 * ((k : Int) + 1) * (k + 1) ≤ -d) : kOf d = k := by
  have : (List.range 40).find? (fun k : Nat => !decide (3 * ((k : Int) + 1) * (k + 1) ≤ -d)) = some k := by
    rw [List.find?_range_eq_some]
    refine ⟨by simpa using h2, by simpa using hk, fun j hj => ?_⟩
    rcases h1 with h1 | h1
    · omega
    · have := mul_mono3 (i := j) (k := (k : Int) - 1) (by omega) (by omega)
      have e : (k : Int) - 1 + 1 = k := by omega
      rw [e] at this
      simp; omega
  unfold kOf
  rw [this]; rfl

theorem cand_some {d a b : Int} {f : Fm} (h : cand d a b = some f) : f.a = a ∧ f.b = b ∧ disc f = d ∧ isRed f.a f.b f.c = true := by
  unfold cand at h
  split at h
  · rename_i hc
    injection h with h
    subst h
    refine ⟨rfl, rfl, ?_, hc.2⟩
    have := Int.emod_add_mul_ediv (b * b - d) (4 * a)
    rw [hc.1] at this
    show b * b - 4 * a * ((b * b - d) / (4 * a)) = d
    omega
  · cases h

theorem mem_allF {d : Int} {k : Nat} {f : Fm} (h : f ∈ allF d k) : 1 ≤ f.a ∧ f.a ≤ k ∧ disc f = d ∧ isRed f.a f.b f.c = true := by
  unfold allF at h
  obtain ⟨i, hi, hf⟩ := List.mem_flatMap.1 h
  unfold rowF at hf
  obtain ⟨j, hj, hc⟩ := List.mem_filterMap.1 hf
  obtain ⟨e1, _, e3, e4⟩ := cand_some hc
  have := List.mem_range.1 hi
  exact ⟨by omega, by omega, e3, e4⟩

theorem kOf_le (d : Int) : kOf d ≤ 40 := by
  unfold kOf
  cases h : (List.range 40).find? fun k : Nat => !decide (3 * ((k : Int) + 1) * (k + 1) ≤ -d) with
  | none => simp
  | some k =>
    have := List.mem_of_find?_eq_some h
    simp at this
    simp; omega

/-- A reduced form of a discriminant of the range is small. -/
theorem mem_allR {d : Int} {f : Fm} (hd : -2000 ≤ d) (h : f ∈ allR d) : 1 ≤ f.a ∧ f.a ≤ 40 ∧ disc f = d ∧ isRed f.a f.b f.c = true ∧ -40 ≤ f.b ∧ f.b ≤ 40 ∧ f.c ≤ 1000 := by
  obtain ⟨h1, h2, h3, h4⟩ := mem_allF h
  have hk := kOf_le d
  have h5 := (isRed_iff _ _ _).1 h4
  have hb := mul_bd (a := f.b) (x := f.b) (A := 40) (X := 40) (by omega) (by omega) (by omega) (by omega)
  have hc : f.c ≤ 1000 := by
    apply Int.not_lt.1
    intro hc
    unfold disc at h3
    have h6 : 1 * f.c ≤ f.a * f.c := Int.mul_le_mul_of_nonneg_right h1 (by omega)
    have e : 4 * f.a * f.c = 4 * (f.a * f.c) := Int.mul_assoc _ _ _
    omega
  exact ⟨h1, by omega, h3, h4, by omega, by omega, hc⟩

theorem mem_clsL {d : Int} {f : Fm} (hd : -2000 ≤ d) (h : f ∈ clsL d) : (1 ≤ f.a ∧ f.a ≤ 40 ∧ disc f = d ∧ isRed f.a f.b f.c = true ∧ -40 ≤ f.b ∧ f.b ≤ 40 ∧ f.c ≤ 1000) ∧ Int.gcd f.a (Int.gcd f.b f.c) = 1 := by
  unfold clsL at h
  rw [List.mem_filter] at h
  exact ⟨mem_allR hd h.1, by simpa [primB] using h.2⟩

theorem rowF_len (d a : Int) (j : Nat) : (rowF d a j).length ≤ j := by
  unfold rowF
  exact Nat.le_trans (List.length_filterMap_le _ _) (by simp)
theorem allF_len (d : Int) : ∀ k : Nat, (allF d k).length ≤ k * (k + 1)
  | 0 => by simp [allF]
  | k + 1 => by
    rw [allF_succ, List.length_append]
    have h1 := allF_len d k
    have h2 := rowF_len d (k + 1) (2 * (k + 1))
    have : (k + 1) * (k + 1 + 1) = k * (k + 1) + 2 * (k + 1) := by rw [Nat.mul_comm]; simp [Nat.add_mul]; omega
    omega
theorem allR_len (d : Int) : (allR d).length ≤ 1640 := by
  have h := allF_len d (kOf d)
  have h2 := Nat.mul_le_mul (kOf_le d) (Nat.succ_le_succ (kOf_le d))
  unfold allR; exact Nat.le_trans h h2
theorem clsL_len (d : Int) : (clsL d).length ≤ 1640 := Nat.le_trans (List.length_filter_le _ _) (allR_len d)
end

section

/-- The number u + v*w, where w*w = s*w - n. -/
structure El where
  u : Int
  v : Int
theorem El.eq {x y : El} (h1 : x.u = y.u) (h2 : x.v = y.v) : x = y := by
  cases x; cases y; simp at *; exact ⟨h1, h2⟩

section
variable {s n : Int}
def eadd (x y : El) : El := ⟨x.u + y.u, x.v + y.v⟩
def eneg (x : El) : El := ⟨-x.u, -x.v⟩
def emul (s n : Int) (x y : El) : El := ⟨x.u * y.u - n * x.v * y.v, x.u * y.v + x.v * y.u + s * x.v * y.v⟩
def eN (s n : Int) (x : El) : Int := x.u * x.u + s * x.u * x.v + n * x.v * x.v
def eD (x y : El) : Int := x.u * y.v - y.u * x.v

theorem emul_comm (x y : El) : emul s n x y = emul s n y x := by apply El.eq <;> simp only [emul] <;> grind
theorem emul_assoc (x y z : El) : emul s n (emul s n x y) z = emul s n x (emul s n y z) := by apply El.eq <;> simp only [emul] <;> grind
theorem emul_add (x y z : El) : emul s n x (eadd y z) = eadd (emul s n x y) (emul s n x z) := by apply El.eq <;> simp only [emul, eadd] <;> grind
theorem emul_neg (x y : El) : emul s n x (eneg y) = eneg (emul s n x y) := by apply El.eq <;> simp only [emul, eneg] <;> grind
theorem emul_zero (x : El) : emul s n x ⟨0, 0⟩ = ⟨0, 0⟩ := by apply El.eq <;> simp only [emul] <;> grind
theorem eN_mul (x y : El) : eN s n (emul s n x y) = eN s n x * eN s n y := by simp only [emul, eN]; grind
theorem eD_mul (x y z : El) : eD (emul s n x y) (emul s n x z) = eN s n x * eD y z := by simp only [emul, eN, eD]; grind
abbrev Ide := El → Prop
structure IsAdd (I : Ide) : Prop where
  zero : I ⟨0, 0⟩
  add : ∀ x y, I x → I y → I (eadd x y)
  neg : ∀ x, I x → I (eneg x)
theorem IsAdd.nsm {I : Ide} (h : IsAdd I) {x : El} (hx : I x) : ∀ k : Nat, I ⟨(k : Int) * x.u, (k : Int) * x.v⟩
  | 0 => by simpa using h.zero
  | k + 1 => by
    have := h.add _ _ (h.nsm hx k) hx
    have e : (⟨((k + 1 : Nat) : Int) * x.u, ((k + 1 : Nat) : Int) * x.v⟩ : El) = eadd ⟨(k : Int) * x.u, (k : Int) * x.v⟩ x := by
      apply El.eq <;> simp [eadd, Int.add_mul]
    rw [e]; exact this
theorem IsAdd.sm {I : Ide} (h : IsAdd I) {x : El} (hx : I x) (k : Int) : I ⟨k * x.u, k * x.v⟩ := by
  rcases Int.le_total 0 k with h0 | h0
  · obtain ⟨m, rfl⟩ := Int.eq_ofNat_of_zero_le h0
    exact h.nsm hx m
  · obtain ⟨m, hm⟩ := Int.eq_ofNat_of_zero_le (show 0 ≤ -k by omega)
    have := h.neg _ (h.nsm hx m)
    have e : (⟨k * x.u, k * x.v⟩ : El) = eneg ⟨(m : Int) * x.u, (m : Int) * x.v⟩ := by
      have : k = -(m : Int) := by omega
      subst this
      apply El.eq <;> simp [eneg, Int.neg_mul]
    rw [e]; exact this

/-- The product of two. -/
def Pr (s n : Int) (I J : Ide) : Ide := fun z => ∀ K : Ide, IsAdd K → (∀ x y, I x → J y → K (emul s n x y)) → K z
theorem Pr.isAdd (I J : Ide) : IsAdd (Pr s n I J) :=
  ⟨fun _ hK _ => hK.zero, fun _ _ hx hy K hK h => hK.add _ _ (hx K hK h) (hy K hK h), fun _ hx K hK h => hK.neg _ (hx K hK h)⟩
theorem Pr.mk {I J : Ide} {x y : El} (hx : I x) (hy : J y) : Pr s n I J (emul s n x y) := fun _ _ h => h _ _ hx hy
theorem Pr.comm_le {I J : Ide} {z : El} (h : Pr s n I J z) : Pr s n J I z := h _ (Pr.isAdd _ _) fun x y hx hy => by rw [emul_comm]; exact Pr.mk hy hx
theorem Pr.comm (I J : Ide) : Pr s n I J = Pr s n J I := funext fun _ => propext ⟨Pr.comm_le, Pr.comm_le⟩
theorem add_left {K : Ide} (hK : IsAdd K) (x : El) : IsAdd (fun z => K (emul s n x z)) :=
  ⟨by rw [emul_zero]; exact hK.zero, fun y z h1 h2 => by rw [emul_add]; exact hK.add _ _ h1 h2, fun y h1 => by rw [emul_neg]; exact hK.neg _ h1⟩
theorem add_right {K : Ide} (hK : IsAdd K) (x : El) : IsAdd (fun z => K (emul s n z x)) := by
  have h := add_left (s := s) (n := n) hK x
  have e : (fun z => K (emul s n z x)) = (fun z => K (emul s n x z)) := funext fun z => by rw [emul_comm]
  rw [e]; exact h
theorem Pr.assoc_le {I J L : Ide} {z : El} (h : Pr s n (Pr s n I J) L z) : Pr s n I (Pr s n J L) z :=
  h _ (Pr.isAdd _ _) fun x y hx hy => hx _ (add_right (Pr.isAdd _ _) y) fun i j hi hj => by rw [emul_assoc]; exact Pr.mk hi (Pr.mk hj hy)
theorem Pr.assoc (I J L : Ide) : Pr s n (Pr s n I J) L = Pr s n I (Pr s n J L) := funext fun _ => propext ⟨Pr.assoc_le, fun h => by
  rw [Pr.comm, Pr.comm I J]
  rw [Pr.comm, Pr.comm J L] at h
  exact Pr.assoc_le h⟩

/-- A multiple. -/
def Sc (s n : Int) (α : El) (I : Ide) : Ide := fun z => ∃ x, I x ∧ z = emul s n α x
theorem Sc.isAdd {α : El} {I : Ide} (h : IsAdd I) : IsAdd (Sc s n α I) :=
  ⟨⟨_, h.zero, (emul_zero _).symm⟩, fun _ _ ⟨x, hx, ex⟩ ⟨y, hy, ey⟩ => ⟨_, h.add _ _ hx hy, by rw [ex, ey, emul_add]⟩, fun _ ⟨x, hx, ex⟩ => ⟨_, h.neg _ hx, by rw [ex, emul_neg]⟩⟩
theorem Pr.sc (α : El) (I J : Ide) : Pr s n (Sc s n α I) J = Sc s n α (Pr s n I J) := funext fun z => propext ⟨fun h =>
    h _ (Sc.isAdd (Pr.isAdd _ _)) fun x y ⟨x', hx', ex⟩ hy => ⟨_, Pr.mk hx' hy, by rw [ex, emul_assoc]⟩,
  fun ⟨w, hw, ew⟩ => by
    rw [ew]
    exact hw _ (add_left (Pr.isAdd _ _) α) fun x y hx hy => by rw [← emul_assoc]; exact Pr.mk ⟨x, hx, rfl⟩ hy⟩
theorem Sc.sc (α β : El) (I : Ide) : Sc s n α (Sc s n β I) = Sc s n (emul s n α β) I := funext fun z => propext ⟨fun ⟨_, ⟨x, hx, ex⟩, ey⟩ => ⟨x, hx, by rw [ey, ex, emul_assoc]⟩, fun ⟨x, hx, ex⟩ => ⟨_, ⟨x, hx, rfl⟩, by rw [ex, emul_assoc]⟩⟩

/-- One class. -/
def Hom (s n : Int) (I J : Ide) : Prop := ∃ α β, eN s n α ≠ 0 ∧ eN s n β ≠ 0 ∧ Sc s n α I = Sc s n β J
theorem Hom.refl (I : Ide) : Hom s n I I := ⟨⟨1, 0⟩, ⟨1, 0⟩, by simp [eN], by simp [eN], rfl⟩
theorem Hom.of {I J : Ide} (h : I = J) : Hom s n I J := h ▸ Hom.refl I
theorem Hom.symm {I J : Ide} (h : Hom s n I J) : Hom s n J I := by
  obtain ⟨α, β, h1, h2, h3⟩ := h
  exact ⟨β, α, h2, h1, h3.symm⟩
theorem Hom.trans {I J K : Ide} (h : Hom s n I J) (k : Hom s n J K) : Hom s n I K := by
  obtain ⟨α, β, h1, h2, h3⟩ := h
  obtain ⟨γ, δ, k1, k2, k3⟩ := k
  refine ⟨emul s n γ α, emul s n β δ, ?_, ?_, ?_⟩
  · rw [eN_mul]; exact Int.mul_ne_zero k1 h1
  · rw [eN_mul]; exact Int.mul_ne_zero h2 k2
  · rw [← Sc.sc, h3, Sc.sc, emul_comm, ← Sc.sc, k3, Sc.sc]
theorem Hom.sc {I : Ide} {α : El} (h : eN s n α ≠ 0) : Hom s n (Sc s n α I) I := ⟨⟨1, 0⟩, α, by simp [eN], h, by
  rw [Sc.sc]
  congr 1
  apply El.eq <;> simp [emul]⟩
theorem Hom.pr {I I' : Ide} (h : Hom s n I I') (J : Ide) : Hom s n (Pr s n I J) (Pr s n I' J) := by
  obtain ⟨α, β, h1, h2, h3⟩ := h
  exact ⟨α, β, h1, h2, by rw [← Pr.sc, h3, Pr.sc]⟩
theorem Hom.pr2 {I I' J J' : Ide} (h : Hom s n I I') (k : Hom s n J J') : Hom s n (Pr s n I J) (Pr s n I' J') := by
  refine (h.pr J).trans ?_
  rw [Pr.comm I' J, Pr.comm I' J']
  exact k.pr I'

/-- The ideal of a and w - h. -/
def Id (a h : Int) : Ide := fun z => a ∣ z.u + h * z.v
theorem Id.isAdd (a h : Int) : IsAdd (Id a h) := by
  refine ⟨?_, ?_, ?_⟩
  · simp [Id]
  · rintro x y ⟨k, hk⟩ ⟨l, hl⟩
    exact ⟨k + l, by simp only [eadd]; grind⟩
  · rintro x ⟨k, hk⟩
    exact ⟨-k, by simp only [eneg]; grind⟩
theorem Id.shift (a h t : Int) : Id a (h + a * t) = Id a h := funext fun z => propext ⟨fun ⟨k, hk⟩ => ⟨k - t * z.v, by grind⟩, fun ⟨k, hk⟩ => ⟨k + t * z.v, by grind⟩⟩
theorem Id.swap {a h c : Int} (hc : c ≠ 0) (ha : a ≠ 0) (hn : h * h - s * h + n = a * c) : Hom s n (Id a h) (Id c (s - h)) := by
  refine ⟨⟨s - h, -1⟩, ⟨a, 0⟩, ?_, ?_, ?_⟩
  · have : eN s n ⟨s - h, -1⟩ = a * c := by simp only [eN]; grind
    rw [this]; exact Int.mul_ne_zero ha hc
  · have : eN s n ⟨a, 0⟩ = a * a := by simp only [eN]; grind
    rw [this]; exact Int.mul_ne_zero ha ha
  · funext z
    refine propext ⟨?_, ?_⟩
    · rintro ⟨x, ⟨k, hk⟩, rfl⟩
      refine ⟨⟨(s - h) * k + c * x.v, -k⟩, ⟨x.v, by grind⟩, ?_⟩
      apply El.eq <;> simp only [emul] <;> grind
    · rintro ⟨x, ⟨v, hv⟩, rfl⟩
      refine ⟨⟨a * (-x.v) - h * v, v⟩, ⟨-x.v, by grind⟩, ?_⟩
      apply El.eq <;> simp only [emul] <;> grind
/-- The product of an ideal by the whole order. -/
theorem Id.unit {a h c : Int} (hn : h * h - s * h + n = a * c) (h1 : Int) : Pr s n (Id a h) (Id 1 h1) = Id a h := funext fun z => propext ⟨fun hz =>
    hz _ (Id.isAdd a h) (by
      rintro x y ⟨k, hk⟩ _
      exact ⟨k * y.u + k * h * y.v - c * x.v * y.v + s * k * y.v - s * k * y.v, by simp only [emul]; grind⟩),
  fun hz => by
    have e : z = emul s n z ⟨1, 0⟩ := by apply El.eq <;> simp [emul]
    rw [e]
    exact Pr.mk hz ⟨1, by simp⟩⟩
/-- The product of united ideals. -/
theorem Id.comp {a e h c x y : Int} (hn : h * h - s * h + n = a * e * c) (hg : x * a + y * e = 1) : Pr s n (Id a h) (Id e h) = Id (a * e) h := funext fun z => propext ⟨fun hz =>
    hz _ (Id.isAdd _ _) (by
      rintro p q ⟨k, hk⟩ ⟨l, hl⟩
      exact ⟨k * l - c * p.v * q.v, by simp only [emul]; grind⟩),
  fun ⟨k, hk⟩ => by
    have hA := Pr.isAdd (s := s) (n := n) (Id a h) (Id e h)
    have m1 : Pr s n (Id a h) (Id e h) (emul s n ⟨a, 0⟩ ⟨e, 0⟩) := Pr.mk ⟨1, by simp⟩ ⟨1, by simp⟩
    have m2 : Pr s n (Id a h) (Id e h) (emul s n ⟨a, 0⟩ ⟨-h, 1⟩) := Pr.mk ⟨1, by simp⟩ ⟨0, by simp; omega⟩
    have m3 : Pr s n (Id a h) (Id e h) (emul s n ⟨-h, 1⟩ ⟨e, 0⟩) := Pr.mk ⟨0, by simp; omega⟩ ⟨1, by simp⟩
    have := hA.add _ _ (hA.sm m1 k) (hA.add _ _ (hA.sm m2 (z.v * x)) (hA.sm m3 (z.v * y)))
    have e : z = eadd ⟨k * (emul s n ⟨a, 0⟩ ⟨e, 0⟩).u, k * (emul s n ⟨a, 0⟩ ⟨e, 0⟩).v⟩ (eadd ⟨z.v * x * (emul s n ⟨a, 0⟩ ⟨-h, 1⟩).u, z.v * x * (emul s n ⟨a, 0⟩ ⟨-h, 1⟩).v⟩ ⟨z.v * y * (emul s n ⟨-h, 1⟩ ⟨e, 0⟩).u, z.v * y * (emul s n ⟨-h, 1⟩ ⟨e, 0⟩).v⟩) := by
      apply El.eq <;> simp only [emul, eadd] <;> grind
    rw [e]; exact this⟩
/-- The product of an ideal by its conjugate. -/
theorem Id.inv {a h c x y z : Int} (hn : h * h - s * h + n = a * c) (hg : x * a + y * (2 * h - s) + z * c = 1) : Pr s n (Id a h) (Id a (s - h)) = Sc s n ⟨a, 0⟩ (Id 1 0) := funext fun t => propext ⟨fun ht =>
    ht _ (Sc.isAdd (Id.isAdd _ _)) (by
      rintro p q ⟨k, hk⟩ ⟨l, hl⟩
      refine ⟨⟨a * k * l - (s - h) * k * q.v - h * l * p.v - c * p.v * q.v, k * q.v + l * p.v⟩, ⟨_, (Int.one_mul _).symm⟩, ?_⟩
      apply El.eq <;> simp only [emul] <;> grind),
  fun ⟨t', _, ht⟩ => by
    have hA := Pr.isAdd (s := s) (n := n) (Id a h) (Id a (s - h))
    have m1 : Pr s n (Id a h) (Id a (s - h)) (emul s n ⟨a, 0⟩ ⟨a, 0⟩) := Pr.mk ⟨1, by simp⟩ ⟨1, by simp⟩
    have m2 : Pr s n (Id a h) (Id a (s - h)) (emul s n ⟨a, 0⟩ ⟨-(s - h), 1⟩) := Pr.mk ⟨1, by simp⟩ ⟨0, by simp; omega⟩
    have m3 : Pr s n (Id a h) (Id a (s - h)) (emul s n ⟨-h, 1⟩ ⟨a, 0⟩) := Pr.mk ⟨0, by simp; omega⟩ ⟨1, by simp⟩
    have m4 : Pr s n (Id a h) (Id a (s - h)) (emul s n ⟨-h, 1⟩ ⟨-(s - h), 1⟩) := Pr.mk ⟨0, by simp; omega⟩ ⟨0, by simp; omega⟩
    have m5 := hA.add _ _ (hA.sm m1 x) (hA.add _ _ (hA.add _ _ (hA.sm m2 y) (hA.sm m3 (-y))) (hA.sm m4 (-z)))
    generalize hm : eadd _ (eadd _ _) = w at m5
    have ew : w = ⟨a, 0⟩ := by
      rw [← hm]
      apply El.eq <;> simp only [emul, eadd] <;> grind
    rw [ew] at m5
    have m6 := hA.add _ _ (hA.sm m5 (t'.u + h * t'.v)) (hA.sm m3 t'.v)
    have et : t = eadd ⟨(t'.u + h * t'.v) * a, (t'.u + h * t'.v) * 0⟩ ⟨t'.v * (emul s n ⟨-h, 1⟩ ⟨a, 0⟩).u, t'.v * (emul s n ⟨-h, 1⟩ ⟨a, 0⟩).v⟩ := by
      rw [ht]
      apply El.eq <;> simp only [emul, eadd] <;> grind
    rw [et]; exact m6⟩
end
end

section

def hF (s : Int) (f : Fm) : Int := (f.b + s) / 2
def IF (s : Int) (f : Fm) : Ide := Id f.a (hF s f)

theorem par {b s x : Int} (h : b * b - s * s = 4 * x) : (b + s) % 2 = 0 := by
  rcases Int.emod_two_eq b with hb | hb <;> rcases Int.emod_two_eq s with hs | hs
  · omega
  · exfalso
    obtain ⟨k, rfl⟩ : ∃ k, b = 2 * k := ⟨b / 2, by omega⟩
    obtain ⟨l, rfl⟩ : ∃ l, s = 2 * l + 1 := ⟨s / 2, by omega⟩
    have e : 2 * k * (2 * k) - (2 * l + 1) * (2 * l + 1) = 4 * (k * k) - 4 * (l * l) - 4 * l - 1 := by grind
    omega
  · exfalso
    obtain ⟨k, rfl⟩ : ∃ k, b = 2 * k + 1 := ⟨b / 2, by omega⟩
    obtain ⟨l, rfl⟩ : ∃ l, s = 2 * l := ⟨s / 2, by omega⟩
    have e : (2 * k + 1) * (2 * k + 1) - 2 * l * (2 * l) = 4 * (k * k) + 4 * k + 1 - 4 * (l * l) := by grind
    omega
  · omega
theorem hF_two {s n : Int} {f : Fm} (h : disc f = s * s - 4 * n) : 2 * hF s f = f.b + s := by
  have : (f.b + s) % 2 = 0 := par (x := f.a * f.c - n) (by
    unfold disc at h
    have e : 4 * f.a * f.c = 4 * (f.a * f.c) := Int.mul_assoc _ _ _
    omega)
  unfold hF; omega
theorem hF_norm {s n : Int} {f : Fm} (h : disc f = s * s - 4 * n) : hF s f * hF s f - s * hF s f + n = f.a * f.c := by
  have h2 := hF_two h
  generalize hF s f = k at *
  unfold disc at h
  have e : 4 * (k * k - s * k + n) = 4 * (f.a * f.c) := by
    have hb : f.b = 2 * k - s := by omega
    rw [hb] at h
    grind
  omega

theorem red_hom {s n M : Int} {f : Fm} (h : Def M f) (hd : disc f = s * s - 4 * n) : Hom s n (IF s f) (IF s (red f)) := by
  refine (red_ind (p := fun g => disc g = s * s - 4 * n ∧ Hom s n (IF s f) (IF s g)) f h ⟨hd, Hom.refl _⟩ ?_).2
  rintro g hg _ ⟨hdg, hh⟩
  refine ⟨(disc_step g).trans hdg, hh.trans ?_⟩
  have h2 := hF_two hdg
  have hn := hF_norm hdg
  unfold stepF
  split
  · have e : hF s ⟨g.c, -g.b, g.a⟩ = s - hF s g := by
      unfold hF at *; simp only; omega
    unfold IF
    rw [e]
    have hc := hg.c0
    have ha := hg.a0
    have k1 : g.c ≠ 0 := by omega
    have k2 : g.a ≠ 0 := by omega
    exact Id.swap k1 k2 hn
  · have e : ∀ t c, hF s ⟨g.a, g.b + 2 * g.a * t, c⟩ = hF s g + g.a * t := by
      intro t c
      have e2 : 2 * g.a * t = 2 * (g.a * t) := Int.mul_assoc _ _ _
      unfold hF at *; simp only; rw [e2]; omega
    unfold IF
    rw [e]
    exact Hom.of (Id.shift _ _ _).symm

/-- The values of a form (its opposite). -/
def fv (f : Fm) (x y : Int) : Int := f.a * (x * x) - f.b * (x * y) + f.c * (y * y)
theorem eN_fv {s n : Int} {f : Fm} (hd : disc f = s * s - 4 * n) (x y : Int) : eN s n ⟨f.a * x - hF s f * y, y⟩ = f.a * fv f x y := by
  have h2 := hF_two hd
  have hn := hF_norm hd
  generalize hF s f = k at *
  have hb : f.b = 2 * k - s := by omega
  simp only [eN, fv]
  rw [hb]
  grind
theorem eN_pos {s n : Int} (hD : s * s - 4 * n < 0) {x : El} (hx : eN s n x ≠ 0) : 0 < eN s n x := by
  have e : 4 * eN s n x = (2 * x.u + s * x.v) * (2 * x.u + s * x.v) + (4 * n - s * s) * (x.v * x.v) := by simp only [eN]; grind
  have h1 : 0 ≤ (2 * x.u + s * x.v) * (2 * x.u + s * x.v) := by
    rcases Int.le_total 0 (2 * x.u + s * x.v) with h | h
    · exact Int.mul_nonneg h h
    · exact Int.mul_nonneg_of_nonpos_of_nonpos h h
  have h2 : 0 ≤ x.v * x.v := by
    rcases Int.le_total 0 x.v with h | h
    · exact Int.mul_nonneg h h
    · exact Int.mul_nonneg_of_nonpos_of_nonpos h h
  have h3 : 0 ≤ (4 * n - s * s) * (x.v * x.v) := Int.mul_nonneg (by omega) h2
  omega

theorem emul_lin {s n : Int} (α z w : El) (x y : Int) : emul s n α ⟨x * z.u + y * w.u, x * z.v + y * w.v⟩ = ⟨x * (emul s n α z).u + y * (emul s n α w).u, x * (emul s n α z).v + y * (emul s n α w).v⟩ := by
  apply El.eq <;> simp only [emul] <;> grind
/-- One ideal's lattice in another's. -/
theorem lat {s n : Int} {f g : Fm} {α β : El} (hf : disc f = s * s - 4 * n) (hg : disc g = s * s - 4 * n) (h : Sc s n α (IF s f) = Sc s n β (IF s g)) :
    ∃ p q r t, eN s n α * f.a = eN s n β * (g.a * (p * t - q * r)) ∧ ∀ x y, eN s n α * (f.a * fv f x y) = eN s n β * (g.a * fv g (p * x + q * y) (r * x + t * y)) := by
  have m1 : Sc s n α (IF s f) (emul s n α ⟨f.a, 0⟩) := ⟨_, ⟨1, by simp⟩, rfl⟩
  have m2 : Sc s n α (IF s f) (emul s n α ⟨-hF s f, 1⟩) := ⟨_, ⟨0, by simp; omega⟩, rfl⟩
  rw [h] at m1 m2
  obtain ⟨⟨u1, r⟩, ⟨p, hp⟩, e1⟩ := m1
  obtain ⟨⟨u2, t⟩, ⟨q, hq⟩, e2⟩ := m2
  simp only at hp hq
  obtain rfl : u1 = g.a * p - hF s g * r := by omega
  obtain rfl : u2 = g.a * q - hF s g * t := by omega
  refine ⟨p, q, r, t, ?_, ?_⟩
  · have k1 := eD_mul (s := s) (n := n) α ⟨f.a, 0⟩ ⟨-hF s f, 1⟩
    rw [e1, e2, eD_mul] at k1
    simp only [eD] at k1
    have e : (g.a * p - hF s g * r) * t - (g.a * q - hF s g * t) * r = g.a * (p * t - q * r) := by grind
    rw [e] at k1
    rw [k1]; grind
  · intro x y
    have k : emul s n α ⟨f.a * x - hF s f * y, y⟩ = emul s n β ⟨g.a * (p * x + q * y) - hF s g * (r * x + t * y), r * x + t * y⟩ := by
      have l1 := emul_lin (s := s) (n := n) α ⟨f.a, 0⟩ ⟨-hF s f, 1⟩ x y
      have l2 := emul_lin (s := s) (n := n) β ⟨g.a * p - hF s g * r, r⟩ ⟨g.a * q - hF s g * t, t⟩ x y
      rw [e1, e2, ← l2] at l1
      have a1 : (⟨f.a * x - hF s f * y, y⟩ : El) = ⟨x * f.a + y * -hF s f, x * 0 + y * 1⟩ := by apply El.eq <;> simp only <;> grind
      have a2 : (⟨g.a * (p * x + q * y) - hF s g * (r * x + t * y), r * x + t * y⟩ : El) = ⟨x * (g.a * p - hF s g * r) + y * (g.a * q - hF s g * t), x * r + y * t⟩ := by apply El.eq <;> simp only <;> grind
      rw [a1, a2]
      exact l1
    have k2 := congrArg (eN s n) k
    rw [eN_mul, eN_mul, eN_fv hf, eN_fv hg] at k2
    exact k2

theorem sq_nonneg (x : Int) : 0 ≤ x * x := by
  rcases Int.le_total 0 x with h | h
  · exact Int.mul_nonneg h h
  · exact Int.mul_nonneg_of_nonpos_of_nonpos h h
/-- The values of a reduced form are no less than a*(p*p - |p*r| + r*r). -/
theorem fv_low {g : Fm} (h1 : -g.a ≤ g.b) (h2 : g.b ≤ g.a) (h3 : g.a ≤ g.c) (p r : Int) :
    g.a * (p * p - p * r + r * r) ≤ fv g p r ∨ g.a * (p * p + p * r + r * r) ≤ fv g p r := by
  have hr := sq_nonneg r
  have hc : 0 ≤ (g.c - g.a) * (r * r) := Int.mul_nonneg (by omega) hr
  rcases Int.le_total 0 (p * r) with h | h
  · left
    have hb : 0 ≤ (g.a - g.b) * (p * r) := Int.mul_nonneg (by omega) h
    have e : fv g p r = g.a * (p * p - p * r + r * r) + (g.a - g.b) * (p * r) + (g.c - g.a) * (r * r) := by unfold fv; grind
    omega
  · right
    have hb : 0 ≤ (g.a + g.b) * (-(p * r)) := Int.mul_nonneg (by omega) (by omega)
    have e : fv g p r = g.a * (p * p + p * r + r * r) + (g.a + g.b) * (-(p * r)) + (g.c - g.a) * (r * r) := by unfold fv; grind
    omega
theorem q_bd {p r : Int} (h : p * p - p * r + r * r ≤ 1) : -1 ≤ p ∧ p ≤ 1 ∧ -1 ≤ r ∧ r ≤ 1 := by
  have k1 : 4 * (p * p - p * r + r * r) = (2 * r - p) * (2 * r - p) + 3 * (p * p) := by grind
  have k2 : 4 * (p * p - p * r + r * r) = (2 * p - r) * (2 * p - r) + 3 * (r * r) := by grind
  have s1 := sq_nonneg (2 * r - p)
  have s2 := sq_nonneg (2 * p - r)
  have b1 := abs_of_sq (b := p) (m := 1) (by omega) (by omega)
  have b2 := abs_of_sq (b := r) (m := 1) (by omega) (by omega)
  omega
theorem q_pos {p r : Int} (h : p * p - p * r + r * r ≤ 0) : p = 0 ∧ r = 0 := by
  have k1 : 4 * (p * p - p * r + r * r) = (2 * r - p) * (2 * r - p) + 3 * (p * p) := by grind
  have k2 : 4 * (p * p - p * r + r * r) = (2 * p - r) * (2 * p - r) + 3 * (r * r) := by grind
  have s1 := sq_nonneg (2 * r - p)
  have s2 := sq_nonneg (2 * p - r)
  have b1 := abs_of_sq (b := p) (m := 0) (by omega) (by omega)
  have b2 := abs_of_sq (b := r) (m := 0) (by omega) (by omega)
  omega
/-- The first coefficient is the least value, and is reached near the axes alone. -/
theorem fv_min {g : Fm} (ha : 0 < g.a) (h1 : -g.a ≤ g.b) (h2 : g.b ≤ g.a) (h3 : g.a ≤ g.c) {p r : Int} (hpr : ¬ (p = 0 ∧ r = 0)) :
    g.a ≤ fv g p r ∧ (fv g p r ≤ g.a → -1 ≤ p ∧ p ≤ 1 ∧ -1 ≤ r ∧ r ≤ 1) := by
  rcases fv_low h1 h2 h3 p r with h | h
  · have hq : 1 ≤ p * p - p * r + r * r := by
      apply Int.not_lt.1; intro hl; exact hpr (q_pos (by omega))
    have hm : g.a * 1 ≤ g.a * (p * p - p * r + r * r) := Int.mul_le_mul_of_nonneg_left hq (by omega)
    refine ⟨by omega, fun hle => q_bd ?_⟩
    apply Int.not_lt.1; intro hl
    have hm2 : g.a * 2 ≤ g.a * (p * p - p * r + r * r) := Int.mul_le_mul_of_nonneg_left (by omega) (by omega)
    omega
  · have e : p * p + p * r + r * r = p * p - p * (-r) + (-r) * (-r) := by grind
    rw [e] at h
    have hq : 1 ≤ p * p - p * (-r) + (-r) * (-r) := by
      apply Int.not_lt.1; intro hl
      have := q_pos (p := p) (r := -r) (by omega)
      exact hpr ⟨this.1, by omega⟩
    have hm : g.a * 1 ≤ g.a * (p * p - p * (-r) + (-r) * (-r)) := Int.mul_le_mul_of_nonneg_left hq (by omega)
    refine ⟨by omega, fun hle => ?_⟩
    have := q_bd (p := p) (r := -r) (by
      apply Int.not_lt.1; intro hl
      have hm2 : g.a * 2 ≤ g.a * (p * p - p * (-r) + (-r) * (-r)) := Int.mul_le_mul_of_nonneg_left (by omega) (by omega)
      omega)
    omega

/-- A class has one reduced form. -/
theorem hom_red {s n : Int} {f g : Fm} (hD : s * s - 4 * n < 0) (hf : disc f = s * s - 4 * n) (hg : disc g = s * s - 4 * n) (fa : 0 < f.a) (ga : 0 < g.a) (rf : isRed f.a f.b f.c = true) (rg : isRed g.a g.b g.c = true)
    (h : Hom s n (IF s f) (IF s g)) : f = g := by
  obtain ⟨α, β, hα, hβ, he⟩ := h
  obtain ⟨p, q, r, t, hdet, hval⟩ := lat hf hg he
  obtain ⟨p', q', r', t', hdet', hval'⟩ := lat hg hf he.symm
  have pα := eN_pos hD hα
  have pβ := eN_pos hD hβ
  generalize eN s n α = A at *
  generalize eN s n β = B at *
  have m1 : 0 < A * f.a := Int.mul_pos pα fa
  have m2 : 0 < B * g.a := Int.mul_pos pβ ga
  have d1 : A * f.a = B * g.a * (p * t - q * r) := by rw [hdet, Int.mul_assoc]
  have d2 : B * g.a = A * f.a * (p' * t' - q' * r') := by rw [hdet', Int.mul_assoc]
  have hpos1 : 0 < p * t - q * r := by
    apply Int.not_le.1; intro hl
    have := Int.mul_nonneg (show 0 ≤ B * g.a by omega) (show 0 ≤ -(p * t - q * r) by omega)
    rw [Int.mul_neg] at this; omega
  have hpos2 : 0 < p' * t' - q' * r' := by
    apply Int.not_le.1; intro hl
    have := Int.mul_nonneg (show 0 ≤ A * f.a by omega) (show 0 ≤ -(p' * t' - q' * r') by omega)
    rw [Int.mul_neg] at this; omega
  have l1 : B * g.a * 1 ≤ B * g.a * (p * t - q * r) := Int.mul_le_mul_of_nonneg_left hpos1 (by omega)
  have l2 : A * f.a * 1 ≤ A * f.a * (p' * t' - q' * r') := Int.mul_le_mul_of_nonneg_left hpos2 (by omega)
  have hm : A * f.a = B * g.a := by omega
  have hdet1 : p * t - q * r = 1 := by
    rw [hm] at d1
    exact (Int.eq_of_mul_eq_mul_left (show B * g.a ≠ 0 by omega) (by omega : B * g.a * (p * t - q * r) = B * g.a * 1))
  have hdet2 : p' * t' - q' * r' = 1 := by
    rw [hm] at d2
    exact (Int.eq_of_mul_eq_mul_left (show B * g.a ≠ 0 by omega) (by omega : B * g.a * (p' * t' - q' * r') = B * g.a * 1))
  have v1 : ∀ x y, fv f x y = fv g (p * x + q * y) (r * x + t * y) := fun x y => by
    have := hval x y
    rw [← Int.mul_assoc, ← Int.mul_assoc, hm] at this
    exact Int.eq_of_mul_eq_mul_left (by omega) this
  have v2 : ∀ x y, fv g x y = fv f (p' * x + q' * y) (r' * x + t' * y) := fun x y => by
    have := hval' x y
    rw [← Int.mul_assoc, ← Int.mul_assoc, ← hm] at this
    exact Int.eq_of_mul_eq_mul_left (by omega) this
  clear hval hval' hdet hdet' d1 d2 l1 l2 hpos1 hpos2 m1 m2 he hα hβ
  obtain ⟨⟨f1, f2⟩, f3⟩ := (isRed_iff _ _ _).1 rf
  obtain ⟨⟨g1, g2⟩, g3⟩ := (isRed_iff _ _ _).1 rg
  have hpr : ¬ (p = 0 ∧ r = 0) := by rintro ⟨rfl, rfl⟩; simp at hdet1
  have hpr' : ¬ (p' = 0 ∧ r' = 0) := by rintro ⟨rfl, rfl⟩; simp at hdet2
  have w1 : fv g p r = f.a := by have := v1 1 0; simp [fv] at this ⊢; omega
  have w2 : fv f p' r' = g.a := by have := v2 1 0; simp [fv] at this ⊢; omega
  have n1 := fv_min ga (by omega) (by omega) (by omega) hpr
  have n2 := fv_min fa (by omega) (by omega) (by omega) hpr'
  have haa : f.a = g.a := by omega
  have hb := n1.2 (by omega)
  clear n1 n2 w2 v2 hdet2 hpr' hm
  have w3 : f.c = fv g q t := by have := v1 0 1; simp [fv] at this ⊢; omega
  have w4 : f.a - f.b + f.c = fv g (p + q) (r + t) := by have := v1 1 1; simp [fv] at this ⊢; omega
  clear v1
  obtain ⟨a, b, c⟩ := f
  obtain ⟨a', b', c'⟩ := g
  unfold fv disc at *
  simp only at *
  subst haa
  have hcc : b = b' → c = c' := by
    rintro rfl
    have e1 : 4 * a * c = 4 * a * c' := by omega
    exact Int.eq_of_mul_eq_mul_left (by omega) e1
  have hfin : b = b' → (⟨a, b, c⟩ : Fm) = ⟨a, b', c'⟩ := fun e => by rw [hcc e, e]
  apply hfin
  have hbq : b = b' * (p * t + q * r) - 2 * (a * (p * q)) - 2 * (c' * (r * t)) := by grind
  clear w4 hfin hcc
  obtain ⟨hp1, hp2, hr1, hr2⟩ := hb
  have small : ∀ k : Int, -a < a * k → a * k < a → k = 0 := by
    intro k h1 h2
    have k1 : k < 1 := by
      apply Int.not_le.1; intro hl
      have := Int.mul_le_mul_of_nonneg_left hl (show 0 ≤ a by omega)
      omega
    have k2 : -1 < k := by
      apply Int.not_le.1; intro hl
      have := Int.mul_le_mul_of_nonneg_left hl (show 0 ≤ a by omega)
      omega
    omega
  by_cases hr0 : r = 0
  · subst hr0
    have hk : p * t = 1 := by simpa using hdet1
    have e : b = b' - 2 * (a * (p * q)) := by rw [hbq, hk]; simp
    have := small (p * q) (by omega) (by omega)
    rw [this] at e; omega
  · have hrr : r * r = 1 := by rcases (show r = 1 ∨ r = -1 by omega) with rfl | rfl <;> rfl
    by_cases hp0 : p = 0
    · subst hp0
      have hk : q * r = -1 := by simp at hdet1; omega
      have hc : c' = a := by rw [hrr] at w1; simp at w1; exact w1
      subst hc
      have e : b = -b' - 2 * (c' * (r * t)) := by rw [hbq]; simp; rw [hk]; simp; 
      have hb0 : 0 ≤ b' := by omega
      by_cases hk0 : r * t = 0
      · have ht : t = 0 := by
          rcases Int.mul_eq_zero.1 hk0 with h | h
          · exact absurd h hr0
          · exact h
        subst ht
        have hqq : q * q = 1 := by
          have : q * q * (r * r) = 1 := by
            have e1 : q * q * (r * r) = (q * r) * (q * r) := by grind
            rw [e1, hk]; rfl
          rw [hrr] at this; omega
        rw [hqq] at w3
        simp at w3 e
        omega
      · have h1 : r * t + 1 = 0 := by
          have e2 : c' * (r * t + 1) = c' * (r * t) + c' := by rw [Int.mul_add, Int.mul_one]
          rcases Int.lt_or_le (r * t) 0 with hl | hl
          · have h5 := Int.mul_le_mul_of_nonneg_left (show r * t ≤ -1 by omega) (show 0 ≤ c' by omega)
            exact small _ (by omega) (by omega)
          · have h5 := Int.mul_le_mul_of_nonneg_left (show 1 ≤ r * t by omega) (show 0 ≤ c' by omega)
            exact small _ (by omega) (by omega)
        have h2 : r * t = -1 := by omega
        rw [h2] at e
        omega
    · have hpp : p * p = 1 := by rcases (show p = 1 ∨ p = -1 by omega) with rfl | rfl <;> rfl
      by_cases he : p = r
      · subst he
        rw [hpp] at w1
        have hc : c' = b' := by omega
        have hb' : b' = a := by omega
        subst hc
        subst hb'
        have e1 : p * t = q * p + 1 := by omega
        have e2 : p * q = q * p := Int.mul_comm _ _
        rw [e1, e2] at hbq
        have e3 : b = -(c' * (2 * (q * p + 1))) + c' := by rw [hbq]; grind
        have e4 : c' * (2 * (q * p + 1)) = 2 * (c' * (q * p + 1)) := by grind
        have := small (q * p + 1) (by omega) (by omega)
        rw [this] at e3
        omega
      · have hpr1 : p * r = -1 := by
          rcases (show p = 1 ∨ p = -1 by omega) with rfl | rfl <;> rcases (show r = 1 ∨ r = -1 by omega) with rfl | rfl <;> first | rfl | exact absurd rfl he
        rw [hpp, hrr, hpr1] at w1
        omega
end

section

/-- A substitution of determinant 1 stays in the class. -/
theorem Id.subst {s n a h c x y q t e h' : Int} (hn : h * h - s * h + n = a * c) (hdet : x * t - q * y = 1) (ha : a ≠ 0) (he : e = a * (x * x) + (2 * h - s) * (x * y) + c * (y * y)) (he0 : e ≠ 0)
    (hh : h' = a * (x * q) + h * (x * t + q * y) + c * (y * t) - s * (q * y)) : Hom s n (Id a h) (Id e h') := by
  have n1 : emul s n ⟨a * x + h * y - s * y, y⟩ ⟨a * x + h * y, -y⟩ = ⟨a * e, 0⟩ := by
    have hnn : n = a * c - h * h + s * h := by omega
    rw [hnn]
    apply El.eq <;> simp only [emul]
    · rw [he]; grind
    · grind
  have n2 : emul s n ⟨a * x + h * y - s * y, y⟩ ⟨a * q + h * t, -t⟩ = ⟨a * h', -a⟩ := by
    have hnn : n = a * c - h * h + s * h := by omega
    rw [hnn]
    have hd : x * t = 1 + q * y := by omega
    apply El.eq <;> simp only [emul]
    · rw [hh, hd]; grind
    · grind
  refine ⟨⟨a * x + h * y - s * y, y⟩, ⟨a, 0⟩, ?_, ?_, ?_⟩
  · have e1 := congrArg (eN s n) n1
    rw [eN_mul] at e1
    intro h0
    rw [h0, Int.zero_mul] at e1
    have e2 : eN s n ⟨a * e, 0⟩ = (a * e) * (a * e) := by simp only [eN]; grind
    rw [e2] at e1
    exact Int.mul_ne_zero (Int.mul_ne_zero ha he0) (Int.mul_ne_zero ha he0) e1.symm
  · have e2 : eN s n ⟨a, 0⟩ = a * a := by simp only [eN]; grind
    rw [e2]; exact Int.mul_ne_zero ha ha
  · have key : ∀ k v : Int, emul s n ⟨a * x + h * y - s * y, y⟩ ⟨a * k - h * v, v⟩ = emul s n ⟨a, 0⟩ ⟨(k * t + v * q) * e - (k * y + v * x) * h', k * y + v * x⟩ := by
      intro k v
      have l := emul_lin (s := s) (n := n) ⟨a * x + h * y - s * y, y⟩ ⟨a * x + h * y, -y⟩ ⟨a * q + h * t, -t⟩ (k * t + v * q) (-(k * y + v * x))
      rw [n1, n2] at l
      have e1 : (⟨a * k - h * v, v⟩ : El) = ⟨(k * t + v * q) * (a * x + h * y) + -(k * y + v * x) * (a * q + h * t), (k * t + v * q) * -y + -(k * y + v * x) * -t⟩ := by
        have hd : x * t = 1 + q * y := by omega
        apply El.eq <;> simp only <;> grind
      rw [e1, l]
      apply El.eq <;> simp only [emul] <;> grind
    funext z
    refine propext ⟨?_, ?_⟩
    · rintro ⟨⟨u, v⟩, ⟨k, hk⟩, rfl⟩
      simp only at hk
      obtain rfl : u = a * k - h * v := by omega
      exact ⟨_, ⟨k * t + v * q, by simp only; grind⟩, key k v⟩
    · rintro ⟨⟨U, V⟩, ⟨m, hm⟩, rfl⟩
      simp only at hm
      have hd : x * t = 1 + q * y := by omega
      refine ⟨⟨a * (x * m - q * V) - h * (t * V - y * m), t * V - y * m⟩, ⟨x * m - q * V, by simp only; omega⟩, ?_⟩
      rw [key]
      have e1 : (x * m - q * V) * t + (t * V - y * m) * q = m := by grind
      have e2 : (x * m - q * V) * y + (t * V - y * m) * x = V := by grind
      rw [e1, e2]
      congr 1
      apply El.eq <;> simp only
      rw [Int.mul_comm m e, ← hm, Int.mul_comm V h']; omega

/-- The class of a composite. -/
theorem comp_class {s n : Int} {f g : Fm} {x y q t e b c t1 t2 k l hb : Int} (hf : disc f = s * s - 4 * n) (hg : disc g = s * s - 4 * n) (ga : g.a ≠ 0) (he0 : e ≠ 0) (hdet : x * t - q * y = 1)
    (he : e = g.a * (x * x) + g.b * (x * y) + g.c * (y * y)) (hhb : hb = 2 * (g.a * (x * q)) + g.b * (x * t + q * y) + 2 * (g.c * (y * t)))
    (h1 : b = f.b + 2 * (f.a * t1)) (h2 : b = hb + 2 * (e * t2)) (hc : disc ⟨f.a * e, b, c⟩ = s * s - 4 * n) (hgcd : k * f.a + l * e = 1) :
    Hom s n (Pr s n (IF s f) (IF s g)) (IF s ⟨f.a * e, b, c⟩) := by
  have f2 := hF_two hf
  have g2 := hF_two hg
  have c2 := hF_two hc
  have gn := hF_norm hg
  have cn := hF_norm hc
  simp only at c2 cn
  have hs1 : hF s ⟨f.a * e, b, c⟩ = hF s f + f.a * t1 := by omega
  have hgb : g.b = 2 * hF s g - s := by omega
  have hh' : hF s ⟨f.a * e, b, c⟩ = (g.a * (x * q) + hF s g * (x * t + q * y) + g.c * (y * t) - s * (q * y)) + e * t2 := by
    have e1 : hb + s = 2 * (g.a * (x * q) + hF s g * (x * t + q * y) + g.c * (y * t) - s * (q * y)) := by
      rw [hhb, hgb]
      have hd : x * t = 1 + q * y := by omega
      rw [hd]; grind
    omega
  have S := Id.subst (s := s) (n := n) (h' := g.a * (x * q) + hF s g * (x * t + q * y) + g.c * (y * t) - s * (q * y)) gn hdet ga (by rw [he, hgb]) he0 rfl
  have I1 : IF s f = Id f.a (hF s ⟨f.a * e, b, c⟩) := by rw [hs1]; exact (Id.shift _ _ _).symm
  have I2 : Hom s n (IF s g) (Id e (hF s ⟨f.a * e, b, c⟩)) := S.trans (Hom.of (by rw [hh']; exact (Id.shift _ _ _).symm))
  have P := Hom.pr2 (Hom.of I1) I2
  rw [Id.comp (c := c) cn hgcd] at P
  exact P

/-- Composition by a primitive form can be undone. -/
theorem comp_cancel {s n : Int} {p p' f : Fm} {x y z : Int} (hp : disc p = s * s - 4 * n) (hp' : disc p' = s * s - 4 * n) (hf : disc f = s * s - 4 * n) (fa : f.a ≠ 0) (hprim : x * f.a + y * f.b + z * f.c = 1)
    (h : Hom s n (Pr s n (IF s p) (IF s f)) (Pr s n (IF s p') (IF s f))) : Hom s n (IF s p) (IF s p') := by
  have f2 := hF_two hf
  have fn := hF_norm hf
  have e : Pr s n (IF s f) (Id f.a (s - hF s f)) = Sc s n ⟨f.a, 0⟩ (Id 1 0) := Id.inv (x := x) (y := y) (z := z) fn (by rw [f2]; simpa using hprim)
  have und : ∀ r : Fm, disc r = s * s - 4 * n → Hom s n (Pr s n (Pr s n (IF s r) (IF s f)) (Id f.a (s - hF s f))) (IF s r) := by
    intro r hr
    rw [Pr.assoc, e, Pr.comm, Pr.sc, Pr.comm]
    have u : Pr s n (IF s r) (Id 1 0) = IF s r := Id.unit (hF_norm hr) 0
    rw [u]
    exact Hom.sc (by simp only [eN]; intro h0; simp at h0; exact Int.mul_ne_zero fa fa h0)
  exact (und p hp).symm.trans ((h.pr _).trans (und p' hp'))
end

section

def pts : List (Nat × Nat) := [(0, 1), (1, 0), (1, 1), (1, 2), (2, 1), (1, 3), (3, 1), (2, 3), (3, 2)]
def ptOk (m A B C : Nat) : Bool := pts.any fun p => Nat.gcd (A * (p.1 * p.1) + B * (p.1 * p.2) + C * (p.2 * p.2)) m == 1
def ptAll (m : Nat) : Bool := (List.range m).all fun A => Nat.gcd A m == 1 || (List.range m).all fun C => Nat.gcd C m == 1 || (List.range m).all fun B => Nat.gcd (Nat.gcd A B) (Nat.gcd C m) != 1 || ptOk m A B C
theorem pt_all : (List.range 27).all ptAll = true := by decide +kernel
/-- Every form without a divisor common with m has a small point whose value has none. -/
theorem pt_nat {m A B C : Nat} (hm : m < 27) (hA : A < m) (hB : B < m) (hC : C < m) (h : Nat.gcd (Nat.gcd A B) (Nat.gcd C m) = 1) : ptOk m A B C = true := by
  have h1 := List.all_eq_true.1 pt_all m (List.mem_range.2 hm)
  have h2 := List.all_eq_true.1 h1 A (List.mem_range.2 hA)
  rw [Bool.or_eq_true] at h2
  rcases h2 with h2 | h2
  · unfold ptOk
    rw [List.any_eq_true]
    exact ⟨(1, 0), by simp [pts], by simpa using h2⟩
  have h3 := List.all_eq_true.1 h2 C (List.mem_range.2 hC)
  rw [Bool.or_eq_true] at h3
  rcases h3 with h3 | h3
  · unfold ptOk
    rw [List.any_eq_true]
    exact ⟨(0, 1), by simp [pts], by simpa using h3⟩
  have h4 := List.all_eq_true.1 h3 B (List.mem_range.2 hB)
  rw [Bool.or_eq_true] at h4
  rcases h4 with h4 | h4
  · simp [h] at h4
  · exact h4
end

section

/-- A primitive form has a small coprime point whose value is coprime to a. -/
theorem pt_int {a A B C : Int} (h0 : 0 < a) (h1 : a ≤ 26) (hp : Int.gcd A (Int.gcd B C) = 1) :
    ∃ x y : Int, (0 ≤ x ∧ x ≤ 3) ∧ (0 ≤ y ∧ y ≤ 3) ∧ Int.gcd x y = 1 ∧ Int.gcd (A * (x * x) + B * (x * y) + C * (y * y)) a = 1 := by
  have e : ∀ Z : Int, ((Z % a).toNat : Int) = Z % a := fun Z => Int.toNat_of_nonneg (Int.emod_nonneg _ (by omega))
  have l : ∀ Z : Int, (Z % a).toNat < a.toNat := fun Z => by
    have := Int.emod_lt_of_pos Z h0
    have := e Z
    omega
  have ea : (a.toNat : Int) = a := Int.toNat_of_nonneg (by omega)
  have dv : ∀ (k : Nat) (Z : Int), k ∣ (Z % a).toNat → k ∣ a.toNat → (k : Int) ∣ Z := by
    intro k Z hk ha
    have k1 : (k : Int) ∣ Z % a := by rw [← e]; exact Int.ofNat_dvd.2 hk
    have k2 : (k : Int) ∣ a := by rw [← ea]; exact Int.ofNat_dvd.2 ha
    have := Int.emod_add_mul_ediv Z a
    rw [← this]
    exact Int.dvd_add k1 (Int.dvd_trans k2 (Int.dvd_mul_right _ _))
  have hg : Nat.gcd (Nat.gcd (A % a).toNat (B % a).toNat) (Nat.gcd (C % a).toNat a.toNat) = 1 := by
    generalize hk : Nat.gcd (Nat.gcd (A % a).toNat (B % a).toNat) (Nat.gcd (C % a).toNat a.toNat) = k
    have k1 : k ∣ Nat.gcd (A % a).toNat (B % a).toNat := hk ▸ Nat.gcd_dvd_left _ _
    have k2 : k ∣ Nat.gcd (C % a).toNat a.toNat := hk ▸ Nat.gcd_dvd_right _ _
    have k3 := Nat.dvd_trans k2 (Nat.gcd_dvd_right _ _)
    have d1 := dv k A (Nat.dvd_trans k1 (Nat.gcd_dvd_left _ _)) k3
    have d2 := dv k B (Nat.dvd_trans k1 (Nat.gcd_dvd_right _ _)) k3
    have d3 := dv k C (Nat.dvd_trans k2 (Nat.gcd_dvd_left _ _)) k3
    have d4 : (k : Int) ∣ (Int.gcd A (Int.gcd B C) : Int) := Int.dvd_coe_gcd d1 (Int.dvd_coe_gcd d2 d3)
    rw [hp] at d4
    exact Nat.dvd_one.1 (Int.ofNat_dvd.1 d4)
  have hk := pt_nat (show a.toNat < 27 by omega) (l A) (l B) (l C) hg
  unfold ptOk at hk
  rw [List.any_eq_true] at hk
  obtain ⟨⟨x, y⟩, hm, hv⟩ := hk
  simp only at hv
  have hv1 := eq_of_beq hv
  have hxy : x ≤ 3 ∧ y ≤ 3 ∧ Nat.gcd x y = 1 := by
    simp only [pts, List.mem_cons, Prod.mk.injEq, List.not_mem_nil, or_false] at hm
    rcases hm with h | h | h | h | h | h | h | h | h <;> obtain ⟨rfl, rfl⟩ := h <;> decide
  refine ⟨x, y, ⟨by omega, by omega⟩, ⟨by omega, by omega⟩, hxy.2.2, ?_⟩
  generalize hk : Int.gcd (A * ((x : Int) * x) + B * ((x : Int) * y) + C * ((y : Int) * y)) a = k
  have k1 : (k : Int) ∣ A * ((x : Int) * x) + B * ((x : Int) * y) + C * ((y : Int) * y) := hk ▸ Int.gcd_dvd_left _ _
  have k2 : (k : Int) ∣ a := hk ▸ Int.gcd_dvd_right _ _
  have k3 : (k : Int) ∣ ((A % a).toNat * (x * x) + (B % a).toNat * (x * y) + (C % a).toNat * (y * y) : Nat) := by
    have e1 : (((A % a).toNat * (x * x) + (B % a).toNat * (x * y) + (C % a).toNat * (y * y) : Nat) : Int) = A * ((x : Int) * x) + B * ((x : Int) * y) + C * ((y : Int) * y) - a * (A / a * (x * x) + B / a * (x * y) + C / a * (y * y)) := by
      push_cast
      rw [e, e, e]
      have m1 := Int.emod_add_mul_ediv A a
      have m2 := Int.emod_add_mul_ediv B a
      have m3 := Int.emod_add_mul_ediv C a
      have n1 : A % a = A - a * (A / a) := by omega
      have n2 : B % a = B - a * (B / a) := by omega
      have n3 : C % a = C - a * (C / a) := by omega
      rw [n1, n2, n3]
      generalize A / a = u
      generalize B / a = v
      generalize C / a = w
      clear m1 m2 m3 n1 n2 n3
      grind
    rw [e1]
    exact Int.dvd_sub k1 (Int.dvd_trans k2 (Int.dvd_mul_right _ _))
  have k4 : k ∣ Nat.gcd ((A % a).toNat * (x * x) + (B % a).toNat * (x * y) + (C % a).toNat * (y * y)) a.toNat :=
    Nat.dvd_gcd (Int.ofNat_dvd.1 k3) (Int.ofNat_dvd.1 (by rw [ea]; exact k2))
  rw [hv1] at k4
  exact Nat.dvd_one.1 k4
end

section

theorem cand_of {f : Fm} (ha : 0 < f.a) (hr : isRed f.a f.b f.c = true) : cand (disc f) f.a f.b = some f := by
  have e : f.b * f.b - disc f = 4 * f.a * f.c := by unfold disc; omega
  have h1 : (f.b * f.b - disc f) % (4 * f.a) = 0 := by rw [e]; exact Int.mul_emod_right _ _
  have h2 : (f.b * f.b - disc f) / (4 * f.a) = f.c := by rw [e]; exact Int.mul_ediv_cancel_left _ (by omega)
  unfold cand
  rw [h2, if_pos ⟨h1, hr⟩]
theorem kOf_ge {d a : Int} (hd : -2000 ≤ d) (ha : 0 ≤ a) (h : 3 * (a * a) ≤ -d) : a ≤ kOf d := by
  have h40 : a ≤ 26 := by
    apply Int.not_lt.1; intro hl
    have := Int.mul_le_mul (show (27 : Int) ≤ a by omega) (show (27 : Int) ≤ a by omega) (by omega) (by omega)
    omega
  apply Int.not_lt.1
  intro hl
  unfold kOf at hl
  cases hf : (List.range 40).find? fun k : Nat => !decide (3 * ((k : Int) + 1) * (k + 1) ≤ -d) with
  | none => rw [hf] at hl; simp at hl; omega
  | some k =>
    rw [hf] at hl
    simp only [Option.getD_some] at hl
    have hp := List.find?_some hf
    simp only [Bool.not_eq_true', decide_eq_false_iff_not] at hp
    apply hp
    have h1 : ((k : Int) + 1) * ((k : Int) + 1) ≤ a * a := Int.mul_le_mul (by omega) (by omega) (by omega) (by omega)
    rw [Int.mul_assoc]; omega
theorem mem_allR_of {d : Int} {f : Fm} (hd : -2000 ≤ d) (ha : 0 < f.a) (hdd : disc f = d) (hr : isRed f.a f.b f.c = true) : f ∈ allR d := by
  obtain ⟨⟨b1, b2⟩, b3⟩ := (isRed_iff _ _ _).1 hr
  have h3 : 3 * (f.a * f.a) ≤ -d := by
    have k1 : f.b * f.b ≤ f.a * f.a := (by
      have := mul_bd (a := f.b) (x := f.b) (A := f.a) (X := f.a) (by omega) (by omega) (by omega) (by omega)
      exact this.2)
    have k2 : f.a * f.a ≤ f.a * f.c := Int.mul_le_mul_of_nonneg_left (by omega) (by omega)
    have e : 4 * f.a * f.c = 4 * (f.a * f.c) := Int.mul_assoc _ _ _
    unfold disc at hdd
    omega
  have hk := kOf_ge hd (by omega) h3
  unfold allR allF
  refine List.mem_flatMap.2 ⟨(f.a - 1).toNat, List.mem_range.2 (by omega), ?_⟩
  have ea : (((f.a - 1).toNat : Int) + 1) = f.a := by omega
  rw [ea]
  unfold rowF
  refine List.mem_filterMap.2 ⟨(f.b - 1 + f.a).toNat, List.mem_range.2 (by omega), ?_⟩
  have eb : 1 - f.a + (((f.b - 1 + f.a).toNat : Nat) : Int) = f.b := by omega
  rw [eb, ← hdd]
  exact cand_of ha hr
theorem mem_clsL_of {d : Int} {f : Fm} (hd : -2000 ≤ d) (ha : 0 < f.a) (hdd : disc f = d) (hr : isRed f.a f.b f.c = true) (hp : Int.gcd f.a (Int.gcd f.b f.c) = 1) : f ∈ clsL d := by
  unfold clsL
  exact List.mem_filter.2 ⟨mem_allR_of hd ha hdd hr, by simpa [primB] using hp⟩
end

section

/-- What the composition of two forms is made from: a point (x, y), its completion (q, t), the value e, the middle hb and the last coefficient hc there, and the b that fits both. -/
structure Uni (f g : Fm) (x y q t e hb hc b t1 t2 k l : Int) : Prop where
  hdet : x * t - q * y = 1
  he : e = g.a * (x * x) + g.b * (x * y) + g.c * (y * y)
  hhb : hb = 2 * (g.a * (x * q)) + g.b * (x * t + q * y) + 2 * (g.c * (y * t))
  hhc : hc = g.a * (q * q) + g.b * (q * t) + g.c * (t * t)
  hb1 : b = f.b + 2 * (f.a * t1)
  hb2 : b = hb + 2 * (e * t2)
  hgcd : k * f.a + l * e = 1

theorem Uni.disc_h {f g : Fm} {x y q t e hb hc b t1 t2 k l : Int} (h : Uni f g x y q t e hb hc b t1 t2 k l) : disc ⟨e, hb, hc⟩ = disc g := by
  have hd := h.hdet
  have e1 := h.he
  have e2 := h.hhb
  have e3 := h.hhc
  have key : disc ⟨e, hb, hc⟩ = disc g * ((x * t - q * y) * (x * t - q * y)) := by
    simp only [disc]; rw [e1, e2, e3]; grind
  rw [key, hd]; simp

theorem Uni.c {f g : Fm} {x y q t e hb hc b t1 t2 k l : Int} (h : Uni f g x y q t e hb hc b t1 t2 k l) (hD : disc f = disc g) :
    ∃ c, b * b - disc f = 4 * (f.a * e) * c ∧ e * c = f.a * (t1 * t1) + f.b * t1 + f.c ∧ f.a * c = e * (t2 * t2) + hb * t2 + hc := by
  have hh := h.disc_h
  have h1 : b * b - disc f = 4 * (f.a * (f.a * (t1 * t1) + f.b * t1 + f.c)) := by
    rw [h.hb1]; simp only [disc]; grind
  have h2 : b * b - disc f = 4 * (e * (e * (t2 * t2) + hb * t2 + hc)) := by
    rw [hD, ← hh, h.hb2]; simp only [disc]; grind
  have hg := h.hgcd
  generalize hu : f.a * (t1 * t1) + f.b * t1 + f.c = u at *
  generalize hv : e * (t2 * t2) + hb * t2 + hc = v at *
  have huv : f.a * u = e * v := by omega
  have hu1 : u = e * (k * v + l * u) := by
    have : u = (k * f.a + l * e) * u := by rw [hg, Int.one_mul]
    rw [this]; grind
  have hv1 : v = f.a * (k * v + l * u) := by
    have : v = (k * f.a + l * e) * v := by rw [hg, Int.one_mul]
    rw [this]; grind
  refine ⟨k * v + l * u, ?_, hu1.symm, hv1.symm⟩
  rw [h1]
  rw (occs := .pos [1]) [hu1]
  grind

/-- The composite has no common divisor. -/
theorem Uni.prim {f g : Fm} {x y q t e hb hc b t1 t2 k l c : Int} (h : Uni f g x y q t e hb hc b t1 t2 k l) (hf : Int.gcd f.a (Int.gcd f.b f.c) = 1) (hg : Int.gcd g.a (Int.gcd g.b g.c) = 1)
    (h1 : e * c = f.a * (t1 * t1) + f.b * t1 + f.c) (h2 : f.a * c = e * (t2 * t2) + hb * t2 + hc) : Int.gcd (f.a * e) (Int.gcd b c) = 1 := by
  have A : ∀ m : Int, m ∣ f.a → m ∣ b → m ∣ c → m ∣ 1 := by
    rintro m ⟨u, hu⟩ ⟨v, hv⟩ ⟨w, hw⟩
    have d1 : m ∣ f.a := ⟨u, hu⟩
    have d2 : m ∣ f.b := ⟨v - 2 * (u * t1), by have := h.hb1; rw [hu, hv] at this; grind⟩
    obtain ⟨v', hv'⟩ := d2
    have d3 : m ∣ f.c := ⟨e * w - u * (t1 * t1) - v' * t1, by rw [hu, hv', hw] at h1; grind⟩
    have := Int.dvd_coe_gcd d1 (Int.dvd_coe_gcd ⟨v', hv'⟩ d3)
    rw [hf] at this; exact this
  have E : ∀ m : Int, m ∣ e → m ∣ b → m ∣ c → m ∣ 1 := by
    rintro m ⟨u, hu⟩ ⟨v, hv⟩ ⟨w, hw⟩
    obtain ⟨v', hv'⟩ : m ∣ hb := ⟨v - 2 * (u * t2), by have := h.hb2; rw [hu, hv] at this; grind⟩
    obtain ⟨w', hw'⟩ : m ∣ hc := ⟨f.a * w - u * (t2 * t2) - v' * t2, by rw [hu, hv', hw] at h2; grind⟩
    have hd : x * t = 1 + q * y := by have := h.hdet; omega
    have i1 : g.a = e * (t * t) - hb * (t * y) + hc * (y * y) := by rw [h.he, h.hhb, h.hhc]; grind
    have i2 : g.b = -(2 * (e * (t * q))) + hb * (x * t + q * y) - 2 * (hc * (x * y)) := by rw [h.he, h.hhb, h.hhc]; grind
    have i3 : g.c = e * (q * q) - hb * (q * x) + hc * (x * x) := by
      have key : e * (q * q) - hb * (q * x) + hc * (x * x) = g.c * ((x * t - q * y) * (x * t - q * y)) := by
        rw [h.he, h.hhb, h.hhc]
        clear i1 i2 hd hw' hv' hu hv hw A h1 h2 hf hg
        grind
      rw [key, h.hdet]; simp
    have d1 : m ∣ g.a := ⟨u * (t * t) - v' * (t * y) + w' * (y * y), by rw [i1, hu, hv', hw']; grind⟩
    have d2 : m ∣ g.b := ⟨-(2 * (u * (t * q))) + v' * (x * t + q * y) - 2 * (w' * (x * y)), by rw [i2, hu, hv', hw']; grind⟩
    have d3 : m ∣ g.c := ⟨u * (q * q) - v' * (q * x) + w' * (x * x), by rw [i3, hu, hv', hw']; grind⟩
    have := Int.dvd_coe_gcd d1 (Int.dvd_coe_gcd d2 d3)
    rw [hg] at this; exact this
  generalize hm : Int.gcd (f.a * e) (Int.gcd b c) = m
  have m1 : (m : Int) ∣ f.a * e := hm ▸ Int.gcd_dvd_left _ _
  have m2 : (m : Int) ∣ (Int.gcd b c : Int) := hm ▸ Int.gcd_dvd_right _ _
  have m3 : (m : Int) ∣ b := Int.dvd_trans m2 (Int.gcd_dvd_left _ _)
  have m4 : (m : Int) ∣ c := Int.dvd_trans m2 (Int.gcd_dvd_right _ _)
  have g1 : Int.gcd m f.a = 1 := by
    have k1 : (Int.gcd m f.a : Int) ∣ m := Int.gcd_dvd_left _ _
    have := A _ (Int.gcd_dvd_right _ _) (Int.dvd_trans k1 m3) (Int.dvd_trans k1 m4)
    exact Nat.dvd_one.1 (Int.ofNat_dvd.1 this)
  have m5 : (m : Int) ∣ e := by
    have n1 : m ∣ f.a.natAbs * e.natAbs := by
      rw [← Int.natAbs_mul]; exact Int.ofNat_dvd_left.1 m1
    have n2 : Nat.Coprime m f.a.natAbs := g1
    exact Int.ofNat_dvd_left.2 (n2.dvd_of_dvd_mul_left n1)
  exact Nat.dvd_one.1 (Int.ofNat_dvd.1 (E _ m5 m3 m4))
end

section

theorem bez_nat : ∀ (a b : Nat), ∃ x y : Int, x * a + y * b = (Nat.gcd a b : Int) := by
  intro a
  induction a using Nat.strongRecOn with
  | ind a ih =>
    intro b
    by_cases h0 : a = 0
    · subst h0; exact ⟨0, 1, by simp⟩
    · obtain ⟨x, y, h⟩ := ih (b % a) (Nat.mod_lt _ (by omega)) a
      refine ⟨y - x * (b / a : Nat), x, ?_⟩
      rw [Nat.gcd_rec a b, ← h]
      have e : (b : Int) = ((b % a : Nat) : Int) + (a : Int) * ((b / a : Nat) : Int) := by
        have := Nat.mod_add_div b a
        rw [← Int.natCast_mul, ← Int.natCast_add, this]
      generalize ((b % a : Nat) : Int) = r at *
      generalize ((b / a : Nat) : Int) = q at *
      rw [e]; grind
theorem bez (a b : Int) : ∃ x y : Int, x * a + y * b = (Int.gcd a b : Int) := by
  obtain ⟨x, y, h⟩ := bez_nat a.natAbs b.natAbs
  rcases Int.natAbs_eq a with ha | ha <;> rcases Int.natAbs_eq b with hb | hb
  · exact ⟨x, y, by rw [ha, hb]; simpa [Int.gcd, Int.neg_mul_neg] using h⟩
  · exact ⟨x, -y, by rw [ha, hb]; simpa [Int.gcd, Int.neg_mul_neg] using h⟩
  · exact ⟨-x, y, by rw [ha, hb]; simpa [Int.gcd, Int.neg_mul_neg] using h⟩
  · exact ⟨-x, -y, by rw [ha, hb]; simpa [Int.gcd, Int.neg_mul_neg] using h⟩
theorem bez3 {a b c : Int} (h : Int.gcd a (Int.gcd b c) = 1) : ∃ x y z : Int, x * a + y * b + z * c = 1 := by
  obtain ⟨x, y, h1⟩ := bez a (Int.gcd b c)
  obtain ⟨u, v, h2⟩ := bez b c
  refine ⟨x, y * u, y * v, ?_⟩
  rw [h] at h1
  rw [← h2] at h1
  simp at h1
  rw [← h1]; grind

/-- The discriminant's order: w*w = s*w - n. -/
def sD (d : Int) : Int := d % 2
def nD (d : Int) : Int := (d % 2 - d) / 4
theorem sn {d : Int} (h : d % 4 < 2) : sD d * sD d - 4 * nD d = d := by
  unfold sD nD
  have h0 : 0 ≤ d % 4 := Int.emod_nonneg _ (by omega)
  rcases Int.emod_two_eq d with h1 | h1 <;> rw [h1] <;> omega
/-- r is the reduced form of the composite of f and g. -/
def IsCmp (d : Int) (f g r : Fm) : Prop := r ∈ clsL d ∧ Hom (sD d) (nD d) (Pr (sD d) (nD d) (IF (sD d) f) (IF (sD d) g)) (IF (sD d) r)
theorem cls_eq {d : Int} {f g : Fm} (h1 : -2000 ≤ d) (h2 : d ≤ -3) (h4 : d % 4 < 2) (hf : f ∈ clsL d) (hg : g ∈ clsL d) (h : Hom (sD d) (nD d) (IF (sD d) f) (IF (sD d) g)) : f = g := by
  obtain ⟨⟨f1, _, f3, f4, _⟩, _⟩ := mem_clsL h1 hf
  obtain ⟨⟨g1, _, g3, g4, _⟩, _⟩ := mem_clsL h1 hg
  have e := sn h4
  exact hom_red (by omega) (by omega) (by omega) (by omega) (by omega) f4 g4 h
theorem IsCmp.uniq {d : Int} {f g r r' : Fm} (h1 : -2000 ≤ d) (h2 : d ≤ -3) (h4 : d % 4 < 2) (h : IsCmp d f g r) (h' : IsCmp d f g r') : r = r' :=
  cls_eq h1 h2 h4 h.1 h'.1 (h.2.symm.trans h'.2)
theorem IsCmp.inj {d : Int} {p p' f r : Fm} (h1 : -2000 ≤ d) (h2 : d ≤ -3) (h4 : d % 4 < 2) (hp : p ∈ clsL d) (hp' : p' ∈ clsL d) (hf : f ∈ clsL d) (h : IsCmp d p f r) (h' : IsCmp d p' f r) : p = p' := by
  obtain ⟨⟨f1, _, f3, f4, _⟩, f5⟩ := mem_clsL h1 hf
  obtain ⟨⟨_, _, p3, _, _⟩, _⟩ := mem_clsL h1 hp
  obtain ⟨⟨_, _, p3', _, _⟩, _⟩ := mem_clsL h1 hp'
  have e := sn h4
  obtain ⟨x, y, z, hb⟩ := bez3 f5
  exact cls_eq h1 h2 h4 hp hp' (comp_cancel (by omega) (by omega) (by omega) (by omega) hb (h.2.trans h'.2.symm))
theorem IsCmp.comm {d : Int} {f g r : Fm} (h : IsCmp d f g r) : IsCmp d g f r := ⟨h.1, by rw [Pr.comm]; exact h.2⟩
theorem IsCmp.assoc {d : Int} {f g k r s t : Fm} (h1 : IsCmp d f g r) (h2 : IsCmp d r k s) (h3 : IsCmp d g k t) : IsCmp d f t s := by
  refine ⟨h2.1, (Hom.pr2 (Hom.refl _) h3.2.symm).trans ?_⟩
  rw [← Pr.assoc]
  exact (Hom.pr h1.2 _).trans h2.2
end

section

theorem prm_iff (f : Fm) : Int.gcd f.a (Int.gcd f.b f.c) = 1 ↔ ∀ m : Int, m ∣ f.a → m ∣ f.b → m ∣ f.c → m ∣ 1 := by
  constructor
  · intro h m h1 h2 h3
    have := Int.dvd_coe_gcd h1 (Int.dvd_coe_gcd h2 h3)
    rw [h] at this; exact this
  · intro h
    have k1 : (Int.gcd f.a (Int.gcd f.b f.c) : Int) ∣ (Int.gcd f.b f.c : Int) := Int.gcd_dvd_right _ _
    have := h _ (Int.gcd_dvd_left _ _) (Int.dvd_trans k1 (Int.gcd_dvd_left _ _)) (Int.dvd_trans k1 (Int.gcd_dvd_right _ _))
    exact Nat.dvd_one.1 (Int.ofNat_dvd.1 this)
theorem prm_step {f : Fm} (h : Int.gcd f.a (Int.gcd f.b f.c) = 1) : Int.gcd (stepF f).a (Int.gcd (stepF f).b (stepF f).c) = 1 := by
  rw [prm_iff] at *
  unfold stepF
  split
  · intro m h1 h2 h3
    exact h m h3 (Int.dvd_neg.1 h2) h1
  · generalize tr f.a f.b = t
    rintro m ⟨u, hu⟩ ⟨v, hv⟩ ⟨w, hw⟩
    simp only at hu hv hw
    have e2 : f.b = m * (v - 2 * u * t) := by rw [hu] at hv; grind
    exact h m ⟨u, hu⟩ ⟨_, e2⟩ ⟨w - u * t * t - (v - 2 * u * t) * t, by rw [e2, hu] at hw; grind⟩
theorem red_prm {M : Int} {f : Fm} (h : Def M f) (hp : Int.gcd f.a (Int.gcd f.b f.c) = 1) : Int.gcd (red f).a (Int.gcd (red f).b (red f).c) = 1 :=
  red_ind (p := fun g => Int.gcd g.a (Int.gcd g.b g.c) = 1) f h hp fun _ _ _ hg => prm_step hg

/-- The reduced form of a composite is the composite's. -/
theorem Uni.cmp {d : Int} {f g : Fm} {x y q t e hb hc b t1 t2 k l c : Int} (h1 : -2000 ≤ d) (h4 : d % 4 < 2) (hf : f ∈ clsL d) (hg : g ∈ clsL d)
    (h : Uni f g x y q t e hb hc b t1 t2 k l) (he : 0 < e) (hc : b * b - d = 4 * (f.a * e) * c) {M : Int} (hM : Def M ⟨f.a * e, b, c⟩) : IsCmp d f g (red ⟨f.a * e, b, c⟩) := by
  obtain ⟨⟨f1, _, f3, f4, _⟩, f5⟩ := mem_clsL h1 hf
  obtain ⟨⟨g1, _, g3, g4, _⟩, g5⟩ := mem_clsL h1 hg
  have es := sn h4
  obtain ⟨c', hc1, hc2, hc3⟩ := h.c (f3.trans g3.symm)
  have ecc : c = c' := by
    rw [f3, hc] at hc1
    refine Int.eq_of_mul_eq_mul_left (a := 4 * (f.a * e)) ?_ hc1
    have := Int.mul_pos (show 0 < f.a by omega) he
    omega
  subst ecc
  have hd : disc ⟨f.a * e, b, c⟩ = d := by
    simp only [disc]
    have : 4 * (f.a * e) * c = 4 * (f.a * e) * c := rfl
    omega
  have P := comp_class (s := sD d) (n := nD d) (f := f) (g := g) (b := b) (c := c) (by omega) (by omega) (by omega) (by omega) h.hdet h.he h.hhb h.hb1 h.hb2 (by omega) h.hgcd
  have R := red_hom (s := sD d) (n := nD d) hM (by omega)
  have prim := h.prim f5 g5 hc2 hc3
  refine ⟨mem_clsL_of h1 (red_def hM).a0 ((red_disc hM).trans hd) (red_isRed hM) (red_prm hM prim), P.trans R⟩
end

section

theorem cls_a {d : Int} {f : Fm} (h1 : -2000 ≤ d) (hf : f ∈ clsL d) : f.a ≤ 26 := by
  obtain ⟨⟨f1, _, f3, f4, _⟩, _⟩ := mem_clsL h1 hf
  obtain ⟨⟨b1, b2⟩, b3⟩ := (isRed_iff _ _ _).1 f4
  apply Int.not_lt.1; intro hl
  have k1 := (mul_bd (a := f.b) (x := f.b) (A := f.a) (X := f.a) (by omega) (by omega) (by omega) (by omega)).2
  have k2 : f.a * f.a ≤ f.a * f.c := Int.mul_le_mul_of_nonneg_left (by omega) (by omega)
  have k3 := Int.mul_le_mul (show (27 : Int) ≤ f.a by omega) (show (27 : Int) ≤ f.a by omega) (by omega) (by omega)
  have e : 4 * f.a * f.c = 4 * (f.a * f.c) := Int.mul_assoc _ _ _
  unfold disc at f3
  omega
theorem cmp_ex {d : Int} {f g : Fm} (h1 : -2000 ≤ d) (h2 : d ≤ -3) (h4 : d % 4 < 2) (hf : f ∈ clsL d) (hg : g ∈ clsL d) : ∃ r, IsCmp d f g r := by
  have fa := cls_a h1 hf
  obtain ⟨⟨f1, _, f3, f4, _⟩, f5⟩ := mem_clsL h1 hf
  obtain ⟨⟨g1, _, g3, g4, _⟩, g5⟩ := mem_clsL h1 hg
  obtain ⟨⟨b1, b2⟩, b3⟩ := (isRed_iff _ _ _).1 g4
  have es := sn h4
  obtain ⟨x, y, hx, hy, hxy, hv⟩ := pt_int (a := f.a) (by omega) fa g5
  obtain ⟨u, v, huv⟩ := bez x y
  rw [hxy] at huv
  generalize he : g.a * (x * x) + g.b * (x * y) + g.c * (y * y) = e at hv
  obtain ⟨l, k, hlk⟩ := bez e f.a
  rw [hv] at hlk
  have he0 : 0 < e := by
    have := (fv_min (g := g) (p := x) (r := -y) (by omega) (by omega) (by omega) (by omega) (by
      rintro ⟨rfl, h⟩
      have : y = 0 := by omega
      subst this; simp at hxy)).1
    have e2 : fv g x (-y) = e := by rw [← he]; unfold fv; grind
    omega
  have hdet : x * u - (-v) * y = 1 := by simp at huv; grind
  have U0 : ∀ b t1 t2, b = f.b + 2 * (f.a * t1) → b = (2 * (g.a * (x * (-v))) + g.b * (x * u + (-v) * y) + 2 * (g.c * (y * u))) + 2 * (e * t2) → Uni f g x y (-v) u e (2 * (g.a * (x * (-v))) + g.b * (x * u + (-v) * y) + 2 * (g.c * (y * u))) (g.a * ((-v) * (-v)) + g.b * ((-v) * u) + g.c * (u * u)) b t1 t2 k l :=
    fun b t1 t2 e1 e2 => ⟨hdet, he.symm, rfl, rfl, e1, e2, by simp at hlk; omega⟩
  generalize hhb : 2 * (g.a * (x * (-v))) + g.b * (x * u + (-v) * y) + 2 * (g.c * (y * u)) = hb at U0
  generalize hhc : g.a * ((-v) * (-v)) + g.b * ((-v) * u) + g.c * (u * u) = hc at U0
  have dh : disc ⟨e, hb, hc⟩ = d := by
    have key : disc ⟨e, hb, hc⟩ = disc g * ((x * u - (-v) * y) * (x * u - (-v) * y)) := by
      simp only [disc]; rw [← he, ← hhb, ← hhc]; grind
    rw [key, hdet, g3]; simp
  have p1 := hF_two (s := sD d) (n := nD d) (f := f) (by omega)
  have p2 := hF_two (s := sD d) (n := nD d) (f := ⟨e, hb, hc⟩) (by omega)
  simp only at p2
  generalize hm : hF (sD d) ⟨e, hb, hc⟩ - hF (sD d) f = m
  have hbm : hb = f.b + 2 * m := by omega
  have hlk1 : k * f.a = 1 - l * e := by simp at hlk; omega
  have U := U0 (f.b + 2 * (f.a * (k * m))) (k * m) (-(l * m)) rfl (by
    have e1 : f.a * (k * m) = k * f.a * m := by grind
    rw [e1, hlk1, hbm]; grind)
  obtain ⟨c, hc1, _, _⟩ := U.c (f3.trans g3.symm)
  generalize f.b + 2 * (f.a * (k * m)) = b at U hc1
  rw [f3] at hc1
  have hA : 0 < f.a * e := Int.mul_pos (by omega) he0
  have hb2 : b * b < 4 * (f.a * e * c) := by
    have := Int.mul_assoc 4 (f.a * e) c
    omega
  have hc0 : 0 < c := c_of_disc hA hb2
  exact ⟨_, U.cmp h1 h4 hf hg he0 hc1 (M := f.a * e + c) ⟨hA, by simp only; omega, hc0, by simp only; omega, hb2⟩⟩
end

section

open Classical in
/-- The composite. -/
noncomputable def cmp (d : Int) (f g : Fm) : Fm := if h : ∃ r, IsCmp d f g r then h.choose else f
theorem cmp_is {d : Int} {f g : Fm} (h1 : -2000 ≤ d) (h2 : d ≤ -3) (h4 : d % 4 < 2) (hf : f ∈ clsL d) (hg : g ∈ clsL d) : IsCmp d f g (cmp d f g) := by
  have h := cmp_ex h1 h2 h4 hf hg
  unfold cmp
  rw [dif_pos h]
  exact h.choose_spec
theorem cmp_of {d : Int} {f g r : Fm} (h1 : -2000 ≤ d) (h2 : d ≤ -3) (h4 : d % 4 < 2) (h : IsCmp d f g r) : cmp d f g = r := by
  have hx : ∃ r, IsCmp d f g r := ⟨r, h⟩
  unfold cmp
  rw [dif_pos hx]
  exact hx.choose_spec.uniq h1 h2 h4 h
/-- An identity form: its first coefficient is 1. -/
theorem cmp_one {d : Int} {f o : Fm} (h1 : -2000 ≤ d) (h4 : d % 4 < 2) (hf : f ∈ clsL d) (ho : o.a = 1) : IsCmp d f o f := by
  obtain ⟨⟨_, _, f3, _, _⟩, _⟩ := mem_clsL h1 hf
  have e := sn h4
  refine ⟨hf, Hom.of ?_⟩
  have u : Pr (sD d) (nD d) (IF (sD d) f) (Id 1 (hF (sD d) o)) = IF (sD d) f := Id.unit (hF_norm (by omega)) _
  unfold IF at *
  rw [ho]; exact u
end

section

/-- No good point lies before (x, y), in the order of the greater coordinate, then of x, then of y. -/
def NoB (G : Int → Int → Prop) (i x y : Int) : Prop := ∀ x' y' : Int, 0 ≤ x' → 0 ≤ y' → (max x' y' < i ∨ (max x' y' = i ∧ (x' < x ∨ (x' = x ∧ y' < y)))) → ¬ G x' y'
/-- The first good point. -/
def MinPt (G : Int → Int → Prop) (x y : Int) : Prop := 0 ≤ x ∧ 0 ≤ y ∧ G x y ∧ NoB G (max x y) x y
theorem NoB.zero (G : Int → Int → Prop) : NoB G 0 0 0 := by intro x' y' h1 h2 h3; omega
theorem NoB.one {G : Int → Int → Prop} (h0 : ¬ G 0 0) : NoB G 1 0 0 := by
  intro x' y' h1 h2 h3
  have e1 : x' = 0 := by omega
  have e2 : y' = 0 := by omega
  rw [e1, e2]; exact h0
theorem NoB.y {G : Int → Int → Prop} {i x y : Int} (h : NoB G i x y) (hn : max x y = i → ¬ G x y) : NoB G i x (y + 1) := by
  intro x' y' h1 h2 h3
  by_cases he : x' = x ∧ y' = y ∧ max x y = i
  · obtain ⟨rfl, rfl, h4⟩ := he; exact hn h4
  · exact h x' y' h1 h2 (by omega)
theorem NoB.x {G : Int → Int → Prop} {i x y : Int} (h : NoB G i x y) (hy : i < y) : NoB G i (x + 1) 0 := by
  intro x' y' h1 h2 h3
  exact h x' y' h1 h2 (by omega)
theorem NoB.i {G : Int → Int → Prop} {i x : Int} (h : NoB G i x 0) (hx : i < x) : NoB G (i + 1) 0 0 := by
  intro x' y' h1 h2 h3
  exact h x' y' h1 h2 (by omega)
theorem NoB.le {G : Int → Int → Prop} {i x y X Y : Int} (h : NoB G i x y) (hX : 0 ≤ X) (hY : 0 ≤ Y) (hg : G X Y) : i ≤ max X Y ∧ (max X Y = i → x ≤ X) := by
  have : ¬ (max X Y < i ∨ (max X Y = i ∧ (X < x ∨ (X = x ∧ Y < y)))) := fun h3 => h X Y hX hY h3 hg
  constructor
  · omega
  · intro h4; omega
theorem MinPt.uniq {G : Int → Int → Prop} {x y x' y' : Int} (h : MinPt G x y) (h' : MinPt G x' y') : x = x' ∧ y = y' := by
  obtain ⟨h1, h2, h3, h4⟩ := h
  obtain ⟨k1, k2, k3, k4⟩ := h'
  have a : ¬ (max x' y' < max x y ∨ (max x' y' = max x y ∧ (x' < x ∨ (x' = x ∧ y' < y)))) := fun h5 => h4 x' y' k1 k2 h5 k3
  have b : ¬ (max x y < max x' y' ∨ (max x y = max x' y' ∧ (x < x' ∨ (x = x' ∧ y < y')))) := fun h5 => k4 x y h1 h2 h5 h3
  omega
end

section

/-- The identity form. -/
def oneF (d : Int) : Fm := ⟨1, d % 2, (d % 2 - d) / 4⟩
theorem one_disc {d : Int} (h4 : d % 4 < 2) : disc (oneF d) = d := by
  have h0 : 0 ≤ d % 4 := Int.emod_nonneg _ (by omega)
  unfold disc oneF
  simp only
  rcases Int.emod_two_eq d with h1 | h1 <;> rw [h1] <;> omega
theorem one_red {d : Int} (h2 : d ≤ -3) (h4 : d % 4 < 2) : isRed (oneF d).a (oneF d).b (oneF d).c = true := by
  have h0 : 0 ≤ d % 4 := Int.emod_nonneg _ (by omega)
  rw [isRed_iff]
  unfold oneF
  simp only
  rcases Int.emod_two_eq d with h1 | h1 <;> rw [h1] <;> omega
theorem one_mem {d : Int} (h1 : -2000 ≤ d) (h2 : d ≤ -3) (h4 : d % 4 < 2) : oneF d ∈ clsL d :=
  mem_clsL_of h1 (by unfold oneF; simp) (one_disc h4) (one_red h2 h4) (by unfold oneF; simp)

/-- The context: a discriminant of the range. -/
structure Dsc (d : Int) : Prop where
  lo : -2000 ≤ d
  hi : d ≤ -3
  md : d % 4 < 2

variable {d : Int}
theorem Dsc.cmpm (h : Dsc d) {f g : Fm} (hf : f ∈ clsL d) (hg : g ∈ clsL d) : cmp d f g ∈ clsL d := (cmp_is h.lo h.hi h.md hf hg).1
theorem Dsc.is (h : Dsc d) {f g : Fm} (hf : f ∈ clsL d) (hg : g ∈ clsL d) : IsCmp d f g (cmp d f g) := cmp_is h.lo h.hi h.md hf hg
theorem Dsc.of (h : Dsc d) {f g r : Fm} (hr : IsCmp d f g r) : cmp d f g = r := cmp_of h.lo h.hi h.md hr
theorem Dsc.one (h : Dsc d) : oneF d ∈ clsL d := one_mem h.lo h.hi h.md
theorem Dsc.comm (h : Dsc d) {f g : Fm} (hf : f ∈ clsL d) (hg : g ∈ clsL d) : cmp d f g = cmp d g f := (h.of (h.is hf hg).comm).symm
theorem Dsc.assoc (h : Dsc d) {f g k : Fm} (hf : f ∈ clsL d) (hg : g ∈ clsL d) (hk : k ∈ clsL d) : cmp d (cmp d f g) k = cmp d f (cmp d g k) :=
  (h.of ((h.is hf hg).assoc (h.is (h.cmpm hf hg) hk) (h.is hg hk))).symm
theorem Dsc.mul_one (h : Dsc d) {f : Fm} (hf : f ∈ clsL d) : cmp d f (oneF d) = f := h.of (cmp_one h.lo h.md hf rfl)
theorem Dsc.one_mul (h : Dsc d) {f : Fm} (hf : f ∈ clsL d) : cmp d (oneF d) f = f := by rw [h.comm h.one hf, h.mul_one hf]
theorem Dsc.cancel (h : Dsc d) {f p q : Fm} (hp : p ∈ clsL d) (hq : q ∈ clsL d) (hf : f ∈ clsL d) (he : cmp d p f = cmp d q f) : p = q := by
  have k1 := h.is hp hf
  have k2 := h.is hq hf
  rw [← he] at k2
  exact k1.inj h.lo h.hi h.md hp hq hf k2

/-- The power of a class. -/
noncomputable def pw (d : Int) (f : Fm) : Nat → Fm
  | 0 => oneF d
  | n + 1 => cmp d (pw d f n) f
theorem Dsc.pwm (h : Dsc d) {f : Fm} (hf : f ∈ clsL d) : ∀ n, pw d f n ∈ clsL d
  | 0 => h.one
  | n + 1 => h.cmpm (h.pwm hf n) hf
theorem Dsc.pw_one (h : Dsc d) {f : Fm} (hf : f ∈ clsL d) : pw d f 1 = f := h.one_mul hf
theorem Dsc.pw_add (h : Dsc d) {f : Fm} (hf : f ∈ clsL d) (m : Nat) : ∀ n, pw d f (m + n) = cmp d (pw d f m) (pw d f n)
  | 0 => (h.mul_one (h.pwm hf m)).symm
  | n + 1 => by
    show cmp d (pw d f (m + n)) f = cmp d _ (cmp d _ f)
    rw [h.pw_add hf m n, h.assoc (h.pwm hf m) (h.pwm hf n) hf]
/-- n is the order of the class f. -/
def IsOrd (d : Int) (f : Fm) (n : Nat) : Prop := 1 ≤ n ∧ pw d f n = oneF d ∧ ∀ k, 1 ≤ k → k < n → pw d f k ≠ oneF d
theorem IsOrd.uniq {d : Int} {f : Fm} {n m : Nat} (h : IsOrd d f n) (h' : IsOrd d f m) : n = m := by
  obtain ⟨a, b, c⟩ := h
  obtain ⟨a', b', c'⟩ := h'
  rcases Nat.lt_trichotomy n m with k | k | k
  · exact absurd b (c' n a k)
  · exact k
  · exact absurd b' (c m a' k)
end

section

structure InvSt (a m r s x y : Int) : Prop where
  r0 : 0 ≤ r
  rm : r ≤ m
  s0 : 0 ≤ s
  sm : s ≤ m
  g : Int.gcd r s = Int.gcd a m
  d1 : m ∣ r - a * x
  d2 : m ∣ s - a * y
  xb : -m ≤ x ∧ x ≤ m
  yb : -m ≤ y ∧ y ≤ m
  sg : (0 ≤ x ∧ y ≤ 0 ∧ x * s - y * r = m) ∨ (x ≤ 0 ∧ 0 ≤ y ∧ y * r - x * s = m)

theorem gcd_emod_l (a m : Int) : Int.gcd (a % m) m = Int.gcd a m := by
  rw [Int.gcd_comm (a % m), Int.gcd_comm a]
  have h := Int.gcd_self_sub_left
  apply Nat.dvd_antisymm
  · apply Int.ofNat_dvd.1
    refine Int.dvd_coe_gcd (Int.gcd_dvd_left _ _) ?_
    have h1 : ((Int.gcd m (a % m) : Nat) : Int) ∣ m := Int.gcd_dvd_left _ _
    have h2 : ((Int.gcd m (a % m) : Nat) : Int) ∣ a % m := Int.gcd_dvd_right _ _
    have := Int.dvd_add h2 (Int.dvd_trans h1 (Int.dvd_mul_right m (a / m)))
    rwa [Int.emod_add_mul_ediv] at this
  · apply Int.ofNat_dvd.1
    refine Int.dvd_coe_gcd (Int.gcd_dvd_left _ _) ?_
    have h1 : ((Int.gcd m a : Nat) : Int) ∣ m := Int.gcd_dvd_left _ _
    have h2 : ((Int.gcd m a : Nat) : Int) ∣ a := Int.gcd_dvd_right _ _
    have := Int.dvd_sub h2 (Int.dvd_trans h1 (Int.dvd_mul_right m (a / m)))
    have e : a - m * (a / m) = a % m := by have := Int.emod_add_mul_ediv a m; omega
    rwa [e] at this
theorem dvd_emod_sub (a m : Int) : m ∣ a % m - a := ⟨-(a / m), by have := Int.emod_add_mul_ediv a m; rw [Int.mul_neg]; omega⟩

theorem InvSt.start1 {a m : Int} (hm : 0 < m) : InvSt a m (a % m) m 1 0 := by
  have h1 := Int.emod_nonneg a (show m ≠ 0 by omega)
  have h2 := Int.emod_lt_of_pos a hm
  exact ⟨h1, by omega, by omega, by omega, gcd_emod_l a m, by simpa using dvd_emod_sub a m, by simp, by omega, by omega, .inl ⟨by omega, by omega, by simp⟩⟩
theorem InvSt.start2 {a m : Int} (hm : 0 < m) : InvSt a m m (a % m) 0 1 := by
  have h1 := Int.emod_nonneg a (show m ≠ 0 by omega)
  have h2 := Int.emod_lt_of_pos a hm
  exact ⟨by omega, by omega, h1, by omega, by rw [Int.gcd_comm]; exact gcd_emod_l a m, by simp, by simpa using dvd_emod_sub a m, by omega, by omega, .inr ⟨by omega, by omega, by simp⟩⟩

theorem le_of_mul_pos {y s m : Int} (hy : 0 ≤ y) (hs : 1 ≤ s) (h : y * s ≤ m) : y ≤ m := by
  have := Int.mul_le_mul_of_nonneg_left hs hy
  omega

theorem InvSt.step {a m r s x y : Int} (h : InvSt a m r s x y) (hs : 0 < s) : InvSt a m s (r - r / s * s) y (x - r / s * y) := by
  obtain ⟨r0, rm, s0, sm, g, d1, d2, xb, yb, sg⟩ := h
  have e : r - r / s * s = r % s := by have := Int.emod_add_mul_ediv r s; rw [Int.mul_comm s] at this; omega
  have h1 := Int.emod_nonneg r (show s ≠ 0 by omega)
  have h2 := Int.emod_lt_of_pos r hs
  have hq : 0 ≤ r / s := Int.ediv_nonneg r0 (by omega)
  have hg : Int.gcd s (r - r / s * s) = Int.gcd a m := by
    rw [e, ← g, Int.gcd_comm, gcd_emod_l]
  generalize r / s = q at *
  obtain ⟨u, hu⟩ := d1
  obtain ⟨v, hv⟩ := d2
  have d3 : m ∣ r - q * s - a * (x - q * y) := ⟨u - q * v, by
    have e1 : r - q * s - a * (x - q * y) = (r - a * x) - q * (s - a * y) := by grind
    rw [e1, hu, hv]; grind⟩
  rcases sg with ⟨s1, s2, s3⟩ | ⟨s1, s2, s3⟩
  · have hqy : 0 ≤ q * -y := Int.mul_nonneg hq (by omega)
    have hqy2 : q * -y = -(q * y) := Int.mul_neg _ _
    have k : (x - q * y) * s - y * (r - q * s) = m := by rw [← s3]; grind
    have k1 : 0 ≤ -y * (r - q * s) := Int.mul_nonneg (by omega) (by omega)
    have k2 : -y * (r - q * s) = -(y * (r - q * s)) := Int.neg_mul _ _
    have k3 : x - q * y ≤ m := le_of_mul_pos (by omega) (show 1 ≤ s by omega) (by omega)
    exact ⟨s0, sm, by omega, by omega, hg, ⟨v, hv⟩, d3, yb, by omega, .inr ⟨s2, by omega, k⟩⟩
  · have hqy : 0 ≤ q * y := Int.mul_nonneg hq (by omega)
    have k : y * (r - q * s) - (x - q * y) * s = m := by rw [← s3]; grind
    have k1 : 0 ≤ y * (r - q * s) := Int.mul_nonneg (by omega) (by omega)
    have k2 : -(x - q * y) * s = -((x - q * y) * s) := Int.neg_mul _ _
    have k3 : -(x - q * y) ≤ m := le_of_mul_pos (by omega) (show 1 ≤ s by omega) (by omega)
    exact ⟨s0, sm, by omega, by omega, hg, ⟨v, hv⟩, d3, yb, by omega, .inl ⟨s2, by omega, k⟩⟩
theorem InvSt.done {a m r x y : Int} (h : InvSt a m r 0 x y) : m ∣ Int.gcd a m - a * (x % m) := by
  have hg : r = Int.gcd a m := by
    rw [← h.g]; simp; have := h.r0; omega
  obtain ⟨u, hu⟩ := h.d1
  have e := Int.emod_add_mul_ediv x m
  rw [← hg]
  refine ⟨u + a * (x / m), ?_⟩
  have e2 : x % m = x - m * (x / m) := by omega
  rw [e2]; grind
end

section

def oppF (f : Fm) : Fm := ⟨f.a, -f.b, f.c⟩
theorem opp_disc (f : Fm) : disc (oppF f) = disc f := by unfold disc oppF; simp only; grind
theorem opp_prm {f : Fm} (h : Int.gcd f.a (Int.gcd f.b f.c) = 1) : Int.gcd (oppF f).a (Int.gcd (oppF f).b (oppF f).c) = 1 := by
  rw [prm_iff] at *
  intro m h1 h2 h3
  exact h m h1 (Int.dvd_neg.1 h2) h3
theorem opp_def {M : Int} {f : Fm} (h : Def M f) : Def M (oppF f) := ⟨h.a0, h.aM, h.c0, h.cM, by have := h.d; simp only [oppF]; rw [Int.neg_mul_neg]; exact this⟩
theorem opp_hF {s n : Int} {f : Fm} (h : disc f = s * s - 4 * n) : hF s (oppF f) = s - hF s f := by
  have h1 := hF_two h
  have h2 := hF_two (f := oppF f) (by rw [opp_disc]; exact h)
  have e : (oppF f).b = -f.b := rfl
  omega
variable {d : Int}
theorem Dsc.opp_mem (D : Dsc d) {M : Int} {f : Fm} (hf : f ∈ clsL d) (hd : Def M f) : red (oppF f) ∈ clsL d := by
  obtain ⟨⟨f1, _, f3, f4, _⟩, f5⟩ := mem_clsL D.lo hf
  have hd2 := opp_def hd
  exact mem_clsL_of D.lo (red_def hd2).a0 ((red_disc hd2).trans ((opp_disc f).trans f3)) (red_isRed hd2) (red_prm hd2 (opp_prm f5))
theorem Dsc.inv (D : Dsc d) {M : Int} {f : Fm} (hf : f ∈ clsL d) (hd : Def M f) : cmp d f (red (oppF f)) = oneF d := by
  apply D.of
  obtain ⟨⟨f1, _, f3, f4, _⟩, f5⟩ := mem_clsL D.lo hf
  have es := sn D.md
  have hfd : disc f = sD d * sD d - 4 * nD d := by omega
  obtain ⟨x, y, z, hxyz⟩ := bez3 f5
  have f2 := hF_two hfd
  have fn := hF_norm hfd
  have e : Pr (sD d) (nD d) (IF (sD d) f) (Id f.a (sD d - hF (sD d) f)) = Sc (sD d) (nD d) ⟨f.a, 0⟩ (Id 1 0) := Id.inv (x := x) (y := y) (z := z) fn (by rw [f2]; simpa using hxyz)
  have e2 : IF (sD d) (oppF f) = Id f.a (sD d - hF (sD d) f) := by unfold IF; rw [opp_hF hfd]; rfl
  have R := red_hom (s := sD d) (n := nD d) (opp_def hd) (by rw [opp_disc]; exact hfd)
  have o : IF (sD d) (oneF d) = Id 1 0 := by
    unfold IF oneF
    funext w
    exact propext ⟨fun _ => ⟨_, (Int.one_mul _).symm⟩, fun _ => ⟨_, (Int.one_mul _).symm⟩⟩
  refine ⟨D.one, ?_⟩
  refine (Hom.pr2 (Hom.refl _) R.symm).trans ?_
  rw [e2, e, o]
  exact Hom.sc (by simp only [eN]; intro h0; simp at h0; exact Int.mul_ne_zero (show f.a ≠ 0 by omega) (show f.a ≠ 0 by omega) h0)
end
end Go.Proofs.YtlcegkafagdcjaaGreatDoor
