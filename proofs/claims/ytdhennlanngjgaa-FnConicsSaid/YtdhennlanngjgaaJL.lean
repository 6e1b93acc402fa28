/- Plain facts: Legendre's theorem, by a lattice and the pigeonhole; roots modulo a square-free number by roots modulo its primes. No program in sight. -/
import Derived.Test.YtdhennlanngjgaaJK
namespace Go.Proofs.Ytdhennlanngjgaa

theorem pigeon : ∀ (N M : Nat) (f : Nat → Nat), N < M → (∀ i, i < M → f i < N) → ∃ i j, i < j ∧ j < M ∧ f i = f j
  | 0, M, f, h, hf => absurd (hf 0 h) (by omega)
  | N + 1, M, f, h, hf => by
    obtain ⟨m, rfl⟩ : ∃ m, M = m + 1 := ⟨M - 1, by omega⟩
    by_cases hc : ∃ i, i < m ∧ f i = f m
    · obtain ⟨i, h1, h2⟩ := hc; exact ⟨i, m, h1, by omega, h2⟩
    · obtain ⟨i, j, h1, h2, h3⟩ := pigeon N m (fun i => if f i = N then f m else f i) (by omega) (fun i hi => by
        show (if f i = N then f m else f i) < N
        have h4 := hf i (by omega)
        have h5 := hf m (by omega)
        split
        · rename_i h6
          rcases Nat.lt_or_ge (f m) N with h7 | h7
          · exact h7
          · exact absurd ⟨i, hi, by omega⟩ hc
        · omega)
      refine ⟨i, j, h1, by omega, ?_⟩
      split at h3 <;> split at h3
      · omega
      · exact absurd ⟨j, by omega, h3.symm⟩ hc
      · exact absurd ⟨i, by omega, h3⟩ hc
      · exact h3
theorem ceil_sq (n : Int) (hn : 0 < n) : ∃ X : Int, 0 < X ∧ n ≤ X * X ∧ ∀ i, 0 ≤ i → i < X → i * i < n := by
  have key : ∀ k : Nat, (∃ X : Int, 0 < X ∧ n ≤ X * X ∧ ∀ i, 0 ≤ i → i < X → i * i < n) ∨ ∀ i : Int, 0 ≤ i → i < k → i * i < n := by
    intro k
    induction k with
    | zero => exact .inr fun i h1 h2 => by omega
    | succ k ih =>
      rcases ih with h | h
      · exact .inl h
      · by_cases hk : (k : Int) * k < n
        · right
          intro i h1 h2
          by_cases e : i = k
          · rw [e]; exact hk
          · exact h i h1 (by omega)
        · left
          refine ⟨k, ?_, by omega, h⟩
          apply Int.not_le.1; intro h0
          have : (k : Int) = 0 := by omega
          rw [this] at hk
          omega
  rcases key (n.toNat + 1) with h | h
  · exact h
  · exfalso
    have h1 := h n (by omega) (by omega)
    have := Int.mul_le_mul_of_nonneg_left (show 1 ≤ n by omega) (show 0 ≤ n by omega)
    omega
theorem sq_cop_one {b c X : Int} (hb : 0 < b) (hc : Cp b c) (hs : Sqf b) (h : X * X = b * c) : b = 1 := by
  obtain ⟨g, k, l, g0, hX, hbb, hkl⟩ := gcd_split (a := X) (b := b) (.inr (by omega))
  have e1 : g * (g * (k * k)) = g * (l * c) := by rw [hX, hbb] at h; grind
  have e2 : g * (k * k) = l * c := Int.eq_of_mul_eq_mul_left (by omega) e1
  have h1 : Cp l (k * k) := (hkl.mul hkl).symm
  have h2 : l ∣ g := h1.dvd ⟨c, by rw [← e2, Int.mul_comm]⟩
  obtain ⟨m, rfl⟩ := h2
  have h3 : l = 1 ∨ l = -1 := hs.one ⟨m, by rw [hbb]; grind⟩ (by omega)
  have h4 : b ∣ X := by
    rcases h3 with rfl | rfl
    · exact ⟨k, by rw [hX, hbb]; grind⟩
    · exact ⟨-k, by rw [hX, hbb]; grind⟩
  obtain ⟨t, ht⟩ := h4
  have e3 : b * (b * (t * t)) = b * c := by rw [ht] at h; grind
  have e4 := Int.eq_of_mul_eq_mul_left (by omega) e3
  obtain ⟨u, v, e⟩ := hc
  have h5 : b ∣ 1 := ⟨u + v * (t * t), by rw [← e, ← e4]; grind⟩
  exact Int.eq_one_of_dvd_one (by omega) h5
theorem leg_ab {a b c r s t x y z : Int} (h : Lg a b c) (hr : a ∣ r * r - b * c) (hs : b ∣ s * s - a * c) (ht : c ∣ t * t + a * b)
    (da : a ∣ b * y - r * z) (db : b ∣ a * x - s * z) (dc : c ∣ a * x - t * y) : a * b * c ∣ a * (x * x) + b * (y * y) - c * (z * z) := by
  obtain ⟨k1, e1⟩ := hr
  obtain ⟨k2, e2⟩ := hs
  obtain ⟨k3, e3⟩ := ht
  obtain ⟨l1, f1⟩ := da
  obtain ⟨l2, f2⟩ := db
  obtain ⟨l3, f3⟩ := dc
  have ha : a ∣ a * (x * x) + b * (y * y) - c * (z * z) := by
    apply h.ab.dvd
    refine ⟨b * (x * x) + l1 * (b * y + r * z) + k1 * (z * z), ?_⟩
    have g1 : (b * y - r * z) * (b * y + r * z) = a * l1 * (b * y + r * z) := by rw [f1]
    have g2 : (r * r - b * c) * (z * z) = a * k1 * (z * z) := by rw [e1]
    grind
  have hb : b ∣ a * (x * x) + b * (y * y) - c * (z * z) := by
    apply h.ab.symm.dvd
    refine ⟨a * (y * y) + l2 * (a * x + s * z) + k2 * (z * z), ?_⟩
    have g1 : (a * x - s * z) * (a * x + s * z) = b * l2 * (a * x + s * z) := by rw [f2]
    have g2 : (s * s - a * c) * (z * z) = b * k2 * (z * z) := by rw [e2]
    grind
  have hc : c ∣ a * (x * x) + b * (y * y) - c * (z * z) := by
    apply h.ac.symm.dvd
    refine ⟨-(a * (z * z)) + l3 * (a * x + t * y) + k3 * (y * y), ?_⟩
    have g1 : (a * x - t * y) * (a * x + t * y) = c * l3 * (a * x + t * y) := by rw [f3]
    have g2 : (t * t + a * b) * (y * y) = c * k3 * (y * y) := by rw [e3]
    grind
  exact (h.ac.mul h.bc).two (h.ab.two ha hb) hc
theorem prod_gt {p q r P Q R : Int} (p0 : 0 < p) (q0 : 0 < q) (r0 : 0 < r) (h1 : p ≤ P) (h2 : q ≤ Q) (h3 : r ≤ R) (hne : p ≠ P ∨ q ≠ Q ∨ r ≠ R) : p * q * r < P * Q * R := by
  have a1 : p * q ≤ P * q := Int.mul_le_mul_of_nonneg_right h1 (by omega)
  have a2 : P * q ≤ P * Q := Int.mul_le_mul_of_nonneg_left h2 (by omega)
  have a3 : p * q * r ≤ P * Q * r := Int.mul_le_mul_of_nonneg_right (by omega) (by omega)
  have pq := Int.mul_pos p0 q0
  have a4 : P * Q * r ≤ P * Q * R := Int.mul_le_mul_of_nonneg_left h3 (by omega)
  rcases hne with h | h | h
  · have b1 : p * q < P * q := Int.mul_lt_mul_of_pos_right (by omega) q0
    have b2 : p * q * r < P * Q * r := Int.mul_lt_mul_of_pos_right (by omega) r0
    omega
  · have b1 : P * q < P * Q := Int.mul_lt_mul_of_pos_left (by omega) (by omega)
    have b2 : p * q * r < P * Q * r := Int.mul_lt_mul_of_pos_right (by omega) r0
    omega
  · have b2 : P * Q * r < P * Q * R := Int.mul_lt_mul_of_pos_left (by omega) (by omega)
    omega
theorem sq_lt_of {x y : Int} (hx : 0 ≤ x) (hy : 0 ≤ y) (h : x * x < y * y) : x < y := by
  apply Int.not_le.1; intro hn
  have := Int.mul_le_mul hn hn hy hx
  omega
theorem dif_sq {i j X n : Int} (hX : ∀ i, 0 ≤ i → i < X → i * i < n) (h1 : 0 ≤ i) (h2 : i < X) (h3 : 0 ≤ j) (h4 : j < X) : (i - j) * (i - j) < n := by
  rcases Int.le_total j i with h | h
  · exact hX (i - j) (by omega) (by omega)
  · have := hX (j - i) (by omega) (by omega)
    have e : (i - j) * (i - j) = (j - i) * (j - i) := by grind
    omega
theorem emod_same {m x y : Int} (h : x % m = y % m) : m ∣ x - y := Int.dvd_of_emod_eq_zero (Int.emod_eq_emod_iff_emod_sub_eq_zero.1 h)
theorem digits {a b p q r p' q' r' : Int} (ha : 0 < a) (hb : 0 < b) (h1 : 0 ≤ p) (h2 : p < a) (h3 : 0 ≤ q) (h4 : q < b) (h1' : 0 ≤ p') (h2' : p' < a) (h3' : 0 ≤ q') (h4' : q' < b)
    (e : p + a * (q + b * r) = p' + a * (q' + b * r')) : p = p' ∧ q = q' ∧ r = r' := by
  have e1 : p = p' := by
    have := congrArg (· % a) e
    simp only [Int.add_mul_emod_self_left] at this
    rwa [Int.emod_eq_of_lt h1 h2, Int.emod_eq_of_lt h1' h2'] at this
  subst e1
  have e2 : q + b * r = q' + b * r' := Int.eq_of_mul_eq_mul_left (by omega : a ≠ 0) (by omega)
  have e3 : q = q' := by
    have := congrArg (· % b) e2
    simp only [Int.add_mul_emod_self_left] at this
    rwa [Int.emod_eq_of_lt h3 h4, Int.emod_eq_of_lt h3' h4'] at this
  subst e3
  exact ⟨rfl, rfl, Int.eq_of_mul_eq_mul_left (by omega : b ≠ 0) (by omega)⟩
theorem legendre {a b c r s t : Int} (h : Lg a b c) (hr : a ∣ r * r - b * c) (hs : b ∣ s * s - a * c) (ht : c ∣ t * t + a * b) :
    ∃ x y z, Sol a b c x y z ∧ 0 < z := by
  have a0 := h.a0; have b0 := h.b0; have c0 := h.c0
  have hbc := Int.mul_pos b0 c0
  have hac := Int.mul_pos a0 c0
  have hab := Int.mul_pos a0 b0
  obtain ⟨X, X0, X1, X2⟩ := ceil_sq (b * c) hbc
  obtain ⟨Y, Y0, Y1, Y2⟩ := ceil_sq (a * c) hac
  obtain ⟨Z, Z0, Z1, Z2⟩ := ceil_sq (a * b) hab
  by_cases hone : a = 1 ∧ b = 1 ∧ c = 1
  · obtain ⟨rfl, rfl, rfl⟩ := hone
    exact ⟨1, 0, 1, rfl, by omega⟩
  have hgt : a * b * c < X * Y * Z := by
    have hXYZ : 0 ≤ X * Y * Z := Int.mul_nonneg (Int.mul_nonneg (by omega) (by omega)) (by omega)
    apply sq_lt_of (Int.mul_nonneg (by omega) (by omega)) hXYZ
    have := prod_gt hbc hac hab X1 Y1 Z1 (by
      apply Classical.byContradiction; intro hn
      have h1 : b * c = X * X := Classical.byContradiction fun hq => hn (.inl hq)
      have h2 : a * c = Y * Y := Classical.byContradiction fun hq => hn (.inr (.inl hq))
      refine hone ⟨sq_cop_one a0 h.ac h.sa h2.symm, sq_cop_one b0 h.bc h.sb h1.symm, sq_cop_one c0 h.bc.symm h.sc (X := X) (by rw [← h1]; grind)⟩)
    have e1 : b * c * (a * c) * (a * b) = a * b * c * (a * b * c) := by grind
    have e2 : X * X * (Y * Y) * (Z * Z) = X * Y * Z * (X * Y * Z) := by grind
    omega
  -- two points with the same residues
  let I : Nat → Int := fun n => (n : Int) % X
  let J : Nat → Int := fun n => (n : Int) / X % Y
  let K : Nat → Int := fun n => (n : Int) / X / Y
  let F : Nat → Int := fun n => (b * J n - r * K n) % a + a * ((a * I n - s * K n) % b + b * ((a * I n - t * J n) % c))
  have hF : ∀ n, 0 ≤ F n ∧ F n < a * b * c := fun n => by
    have p1 := Int.emod_nonneg (b * J n - r * K n) (show a ≠ 0 by omega)
    have p2 := Int.emod_lt_of_pos (b * J n - r * K n) a0
    have p3 := Int.emod_nonneg (a * I n - s * K n) (show b ≠ 0 by omega)
    have p4 := Int.emod_lt_of_pos (a * I n - s * K n) b0
    have p5 := Int.emod_nonneg (a * I n - t * J n) (show c ≠ 0 by omega)
    have p6 := Int.emod_lt_of_pos (a * I n - t * J n) c0
    show 0 ≤ (b * J n - r * K n) % a + a * ((a * I n - s * K n) % b + b * ((a * I n - t * J n) % c)) ∧ (b * J n - r * K n) % a + a * ((a * I n - s * K n) % b + b * ((a * I n - t * J n) % c)) < a * b * c
    generalize (b * J n - r * K n) % a = p at *
    generalize (a * I n - s * K n) % b = q at *
    generalize (a * I n - t * J n) % c = w at *
    have q1 : b * w ≤ b * (c - 1) := Int.mul_le_mul_of_nonneg_left (by omega) (by omega)
    have q2 : 0 ≤ b * w := Int.mul_nonneg (by omega) p5
    have q3 : a * (q + b * w) ≤ a * (b - 1 + b * (c - 1)) := Int.mul_le_mul_of_nonneg_left (by omega) (by omega)
    have q4 : 0 ≤ a * (q + b * w) := Int.mul_nonneg (by omega) (by omega)
    have e : a * (b - 1 + b * (c - 1)) = a * b * c - a := by grind
    omega
  have abc0 := Int.mul_pos hab c0
  obtain ⟨i, j, hij, hj, hfe⟩ := pigeon (a * b * c).toNat (X * Y * Z).toNat (fun n => (F n).toNat) (by omega) (fun n _ => by
    obtain ⟨h1, h2⟩ := hF n
    show (F n).toNat < (a * b * c).toNat
    omega)
  have hFe : F i = F j := by
    obtain ⟨h1, _⟩ := hF i
    obtain ⟨h2, _⟩ := hF j
    have hfe : (F i).toNat = (F j).toNat := hfe
    omega
  have bd : ∀ n : Nat, (n : Int) < X * Y * Z → (0 ≤ I n ∧ I n < X) ∧ (0 ≤ J n ∧ J n < Y) ∧ (0 ≤ K n ∧ K n < Z) ∧ (n : Int) = I n + X * (J n + Y * K n) := fun n hn => by
    have e1 := Int.emod_add_mul_ediv (n : Int) X
    have e2 := Int.emod_add_mul_ediv ((n : Int) / X) Y
    refine ⟨⟨Int.emod_nonneg _ (by omega), Int.emod_lt_of_pos _ X0⟩, ⟨Int.emod_nonneg _ (by omega), Int.emod_lt_of_pos _ Y0⟩, ⟨?_, ?_⟩, ?_⟩
    · exact Int.ediv_nonneg (Int.ediv_nonneg (by omega) (by omega)) (by omega)
    · show (n : Int) / X / Y < Z
      rw [Int.ediv_ediv_of_nonneg (by omega)]
      apply Int.ediv_lt_of_lt_mul (Int.mul_pos X0 Y0)
      rw [Int.mul_comm]; exact hn
    · show (n : Int) = (n : Int) % X + X * ((n : Int) / X % Y + Y * ((n : Int) / X / Y))
      rw [e2, e1]
  obtain ⟨⟨i1, i2⟩, ⟨i3, i4⟩, ⟨i5, i6⟩, ie⟩ := bd i (by omega)
  obtain ⟨⟨j1, j2⟩, ⟨j3, j4⟩, ⟨j5, j6⟩, je⟩ := bd j (by omega)
  obtain ⟨d1, d2, d3⟩ := digits a0 b0 (Int.emod_nonneg _ (by omega)) (Int.emod_lt_of_pos _ a0) (Int.emod_nonneg _ (by omega)) (Int.emod_lt_of_pos _ b0) (Int.emod_nonneg _ (by omega)) (Int.emod_lt_of_pos _ a0) (Int.emod_nonneg _ (by omega)) (Int.emod_lt_of_pos _ b0) hFe
  have f1 := emod_same d1
  have f2 := emod_same d2
  have f3 := emod_same d3
  have x2 := dif_sq X2 i1 i2 j1 j2
  have y2 := dif_sq Y2 i3 i4 j3 j4
  have z2 := dif_sq Z2 i5 i6 j5 j6
  have hne : ¬ (I i - I j = 0 ∧ J i - J j = 0 ∧ K i - K j = 0) := by
    rintro ⟨h1, h2, h3⟩
    have e1 : I i = I j := by omega
    have e2 : J i = J j := by omega
    have e3 : K i = K j := by omega
    rw [e1, e2, e3] at ie
    omega
  generalize hx : I i - I j = x at *
  generalize hy : J i - J j = y at *
  generalize hz : K i - K j = z at *
  have g1 : a ∣ b * y - r * z := by rw [← hy, ← hz]; have e : b * J i - r * K i - (b * J j - r * K j) = b * (J i - J j) - r * (K i - K j) := by grind
                                    rw [← e]; exact f1
  have g2 : b ∣ a * x - s * z := by rw [← hx, ← hz]; have e : a * I i - s * K i - (a * I j - s * K j) = a * (I i - I j) - s * (K i - K j) := by grind
                                    rw [← e]; exact f2
  have g3 : c ∣ a * x - t * y := by rw [← hx, ← hy]; have e : a * I i - t * J i - (a * I j - t * J j) = a * (I i - I j) - t * (J i - J j) := by grind
                                    rw [← e]; exact f3
  obtain ⟨V, hV⟩ := leg_ab h hr hs ht g1 g2 g3
  have abc := Int.mul_pos hab c0
  have sx := sq_nn x
  have sy := sq_nn y
  have sz := sq_nn z
  have u1 : a * (x * x) < a * (b * c) := Int.mul_lt_mul_of_pos_left x2 a0
  have u2 : b * (y * y) < b * (a * c) := Int.mul_lt_mul_of_pos_left y2 b0
  have u3 : c * (z * z) < c * (a * b) := Int.mul_lt_mul_of_pos_left z2 c0
  have v1 := Int.mul_nonneg (show 0 ≤ a by omega) sx
  have v2 := Int.mul_nonneg (show 0 ≤ b by omega) sy
  have v3 := Int.mul_nonneg (show 0 ≤ c by omega) sz
  have w1 : a * (b * c) = a * b * c := by grind
  have w2 : b * (a * c) = a * b * c := by grind
  have w3 : c * (a * b) = a * b * c := by grind
  rw [w1] at u1
  rw [w2] at u2
  rw [w3] at u3
  have hVr : V = 0 ∨ V = 1 := by
    have h1 : -1 < V := by
      apply Int.not_le.1; intro hn
      have := Int.mul_le_mul_of_nonneg_left hn (show 0 ≤ a * b * c by omega)
      omega
    have h2 : V < 2 := by
      apply Int.not_le.1; intro hn
      have := Int.mul_le_mul_of_nonneg_left hn (show 0 ≤ a * b * c by omega)
      omega
    omega
  rcases hVr with rfl | rfl
  · have hz0 : z ≠ 0 := by
      rintro rfl
      have e1 : a * (x * x) = 0 := by omega
      have e2 : b * (y * y) = 0 := by omega
      have e3 : x = 0 := by
        rcases Int.mul_eq_zero.1 e1 with e | e
        · omega
        · rcases Int.mul_eq_zero.1 e with e | e <;> exact e
      have e4 : y = 0 := by
        rcases Int.mul_eq_zero.1 e2 with e | e
        · omega
        · rcases Int.mul_eq_zero.1 e with e | e <;> exact e
      exact hne ⟨e3, e4, rfl⟩
    refine ⟨x, y, (z.natAbs : Int), ?_, by omega⟩
    unfold Sol
    rw [show (z.natAbs : Int) * (z.natAbs : Int) = z * z by rcases Int.natAbs_eq z with e | e <;> grind]
    omega
  · refine ⟨x * z + b * y, y * z - a * x, z * z + a * b, ?_, by omega⟩
    unfold Sol
    have e1 : a * (x * x) + b * (y * y) = c * (z * z + a * b) := by grind
    have e2 : a * ((x * z + b * y) * (x * z + b * y)) + b * ((y * z - a * x) * (y * z - a * x)) = (a * (x * x) + b * (y * y)) * (z * z + a * b) := by grind
    rw [e2, e1]; grind
/-- Roots modulo a square-free number. -/
theorem root_sqf (k : Int) : ∀ (m : Nat) (n : Int), n.toNat = m → 0 < n → Sqf n → (∀ p, 2 < p → NoDiv p p → p ∣ n → ∃ r, p ∣ r * r + k) → ∃ r, n ∣ r * r + k := by
  intro m
  induction m using Nat.strongRecOn with
  | ind m ih =>
  intro n hm hn hs hp
  by_cases h1 : n = 1
  · subst h1; exact ⟨0, Int.one_dvd _⟩
  obtain ⟨p, p2, pd, pn⟩ : ∃ p, 2 ≤ p ∧ p ∣ n ∧ NoDiv p p := by
    have key : ∀ j : Nat, (∃ p : Int, 2 ≤ p ∧ p ∣ n ∧ NoDiv p p) ∨ ∀ q : Int, 2 ≤ q → q < j → ¬ q ∣ n := by
      intro j
      induction j with
      | zero => exact .inr fun q h1 h2 => by omega
      | succ j ihj =>
        rcases ihj with h | h
        · exact .inl h
        · by_cases hd : 2 ≤ (j : Int) ∧ (j : Int) ∣ n
          · exact .inl ⟨j, hd.1, hd.2, fun q h2 h3 h4 => h q h2 h3 (Int.dvd_trans h4 hd.2)⟩
          · refine .inr fun q h2 h3 h4 => ?_
            by_cases e : q = j
            · exact hd ⟨by omega, by rw [← e]; exact h4⟩
            · exact h q h2 (by omega) h4
    rcases key (n.toNat + 1) with h | h
    · exact h
    · exact absurd (Int.dvd_refl n) (h n (by omega) (by omega))
  obtain ⟨l, rfl⟩ := pd
  have l0 : 0 < l := by
    apply Int.not_le.1; intro h0
    have := Int.mul_le_mul_of_nonneg_left h0 (show 0 ≤ p by omega)
    omega
  have hlt : l < p * l := by
    have := Int.mul_le_mul_of_nonneg_right p2 (show 0 ≤ l by omega)
    omega
  obtain ⟨r1, hr1⟩ := ih l.toNat (by omega) l rfl l0 (fun q h2 h3 => hs q h2 (Int.dvd_trans h3 (Int.dvd_mul_left _ _))) (fun q h2 h3 h4 => hp q h2 h3 (Int.dvd_trans h4 (Int.dvd_mul_left _ _)))
  obtain ⟨r2, hr2⟩ : ∃ r, p ∣ r * r + k := by
    by_cases h2 : p = 2
    · subst h2
      refine ⟨k, ?_⟩
      rcases two_or k with h3 | h3
      · obtain ⟨j, rfl⟩ := Int.dvd_of_emod_eq_zero h3; exact ⟨2 * j * j + j, by grind⟩
      · obtain ⟨j, rfl⟩ : ∃ j, k = 2 * j + 1 := ⟨k / 2, by omega⟩; exact ⟨2 * j * j + 3 * j + 1, by grind⟩
    · exact hp p (by omega) pn (Int.dvd_mul_right _ _)
  have hc : Cp p l := by
    apply Cp.of
    have g1 := Int.gcd_dvd_left p l
    have g2 := Int.gcd_dvd_right p l
    generalize Int.gcd p l = g at *
    have hg : (g : Int) ≠ 0 := fun e => by rw [e] at g1; have := Int.zero_dvd.1 g1; omega
    by_cases h1 : g = 1
    · exact h1
    · exfalso
      have h2 : ¬ (g : Int) < p := fun h3 => pn g (by omega) h3 g1
      have h3 : (g : Int) = p := by have := Int.le_of_dvd (by omega) g1; omega
      rw [h3] at g2
      obtain ⟨j, hj⟩ := g2
      exact hs p p2 ⟨j, by rw [hj]; grind⟩
  obtain ⟨u, v, e⟩ := hc
  obtain ⟨s1, t1⟩ := hr1
  obtain ⟨s2, t2⟩ := hr2
  refine ⟨r2 * (v * l) + r1 * (u * p), Cp.two ⟨u, v, e⟩ ⟨s2 + u * (r1 - r2) * (2 * r2 + p * u * (r1 - r2)), ?_⟩ ⟨s1 + v * (r2 - r1) * (2 * r1 + l * v * (r2 - r1)), ?_⟩⟩
  · have e1 : r2 * (v * l) + r1 * (u * p) = r2 + p * (u * (r1 - r2)) := by
      have : r2 * (u * p + v * l) = r2 := by rw [e]; omega
      grind
    rw [e1]
    have : p * s2 = r2 * r2 + k := t2.symm
    grind
  · have e1 : r2 * (v * l) + r1 * (u * p) = r1 + l * (v * (r2 - r1)) := by
      have : r1 * (u * p + v * l) = r1 := by rw [e]; omega
      grind
    rw [e1]
    have : l * s1 = r1 * r1 + k := t1.symm
    grind
/-- The least solution of a solvable triple, within Holzer's bounds. -/
theorem leg_holz {a b c r s t : Int} (h : Lg a b c) (hr : a ∣ r * r - b * c) (hs : b ∣ s * s - a * c) (ht : c ∣ t * t + a * b) :
    ∃ x y z, a * (x * x) + b * (y * y) = c * (z * z) ∧ 0 ≤ x ∧ 0 ≤ y ∧ 0 ≤ z ∧ x * x ≤ b * c ∧ y * y ≤ a * c ∧ z * z ≤ a * b ∧ Int.gcd x y = 1 := by
  obtain ⟨x, y, z, hx, hz⟩ := legendre h hr hs ht
  obtain ⟨x, y, z, hx, hz, hb, hc⟩ := holzer h _ x y z rfl hz hx
  have a0 := h.a0; have b0 := h.b0; have c0 := h.c0
  unfold Sol at hx
  have sx := sq_nn x
  have sy := sq_nn y
  have v1 := Int.mul_nonneg (show 0 ≤ a by omega) sx
  have v2 := Int.mul_nonneg (show 0 ≤ b by omega) sy
  have v3 := Int.mul_le_mul_of_nonneg_left hb (show 0 ≤ c by omega)
  have k1 : x * x ≤ b * c := by
    apply Int.not_lt.1; intro hn
    have := Int.mul_lt_mul_of_pos_left hn a0
    have e : a * (b * c) = c * (a * b) := by grind
    omega
  have k2 : y * y ≤ a * c := by
    apply Int.not_lt.1; intro hn
    have := Int.mul_lt_mul_of_pos_left hn b0
    have e : b * (a * c) = c * (a * b) := by grind
    omega
  have ex : (x.natAbs : Int) * (x.natAbs : Int) = x * x := by rcases Int.natAbs_eq x with e | e <;> grind
  have ey : (y.natAbs : Int) * (y.natAbs : Int) = y * y := by rcases Int.natAbs_eq y with e | e <;> grind
  refine ⟨(x.natAbs : Int), (y.natAbs : Int), z, by rw [ex, ey]; exact hx, by omega, by omega, by omega, by rw [ex]; exact k1, by rw [ey]; exact k2, hb, ?_⟩
  have hg := hc.gcd
  rw [Int.gcd_eq_natAbs_gcd_natAbs] at hg ⊢
  rw [Int.natAbs_natCast, Int.natAbs_natCast]; exact hg
end Go.Proofs.Ytdhennlanngjgaa
