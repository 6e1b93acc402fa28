/- Plain facts: a primitive form has a coprime point whose value is coprime to n; the first such point in an order of the points. No program in sight. -/
import Derived.Test.YtifkmjmhhklkjaaM13
namespace Go.Proofs.Ytifkmjmhhklkjaa

/-- The part of n that is coprime to a. -/
theorem cop_ex : ∀ n : Nat, 0 < n → ∀ a : Nat, ∃ c, c ∣ n ∧ Nat.gcd c a = 1 ∧ ∀ m, m ∣ n → Nat.gcd m a = 1 → m ∣ c := by
  intro n
  induction n using Nat.strongRecOn with
  | ind n ih =>
    intro hn a
    by_cases hg : Nat.gcd n a = 1
    · exact ⟨n, Nat.dvd_refl _, hg, fun m hm _ => hm⟩
    · have hg0 : 0 < Nat.gcd n a := Nat.gcd_pos_of_pos_left _ hn
      obtain ⟨q, hq⟩ := Nat.gcd_dvd_left n a
      have hq0 : 0 < q := by
        apply Nat.pos_of_ne_zero; rintro rfl; rw [Nat.mul_zero] at hq; omega
      have hqn : q < n := by
        have h2 : 2 * q ≤ Nat.gcd n a * q := Nat.mul_le_mul_right q (by omega)
        rw [← hq] at h2; omega
      obtain ⟨c, h1, h2, h3⟩ := ih q hqn hq0 a
      refine ⟨c, Nat.dvd_trans h1 ⟨Nat.gcd n a, by rw [Nat.mul_comm]; exact hq⟩, h2, fun m hm hma => h3 m ?_ hma⟩
      have hc : Nat.Coprime m (Nat.gcd n a) := Nat.Coprime.coprime_dvd_right (Nat.gcd_dvd_right n a) hma
      refine hc.dvd_of_dvd_mul_left ?_
      rw [← hq]; exact hm

/-- A primitive form has a coprime point whose value is coprime to n. -/
theorem pt_any {n A B C : Int} (hn : n ≠ 0) (hp : Int.gcd A (Int.gcd B C) = 1) :
    ∃ x y : Int, (0 ≤ x ∧ x ≤ n.natAbs) ∧ (0 ≤ y ∧ y ≤ n.natAbs) ∧ Int.gcd x y = 1 ∧ Int.gcd (A * x * x + B * x * y + C * y * y) n = 1 := by
  obtain ⟨y, y1, y2, y3⟩ := cop_ex n.natAbs (by omega) A.natAbs
  obtain ⟨n1, hn1⟩ := y1
  have hn10 : 0 < n1 := by
    apply Nat.pos_of_ne_zero; rintro rfl; rw [Nat.mul_zero] at hn1; omega
  have hy0 : 0 < y := by
    apply Nat.pos_of_ne_zero; rintro rfl; rw [Nat.zero_mul] at hn1; omega
  obtain ⟨x, x1, x2, x3⟩ := cop_ex n1 hn10 C.natAbs
  have hx0 : 0 < x := Nat.pos_of_dvd_of_pos x1 hn10
  have x1n : x ∣ n.natAbs := Nat.dvd_trans x1 ⟨y, by rw [Nat.mul_comm]; exact hn1⟩
  have y1n : y ∣ n.natAbs := ⟨n1, hn1⟩
  have hxn := Nat.le_of_dvd (show 0 < n.natAbs by omega) x1n
  have hyn := Nat.le_of_dvd (show 0 < n.natAbs by omega) y1n
  -- the coprime part of n1 to A is 1
  have hA1 : ∀ m, m ∣ n1 → Nat.gcd m A.natAbs = 1 → m = 1 := by
    intro m hm hma
    -- m * y divides n and is coprime to A
    have h1 : m * y ∣ n.natAbs := by rw [hn1, Nat.mul_comm]; exact Nat.mul_dvd_mul_left y hm
    have h2 : Nat.gcd (m * y) A.natAbs = 1 := Nat.Coprime.mul_left hma y2
    have h3 := Nat.le_of_dvd hy0 (y3 _ h1 h2)
    have hm0 : 0 < m := Nat.pos_of_dvd_of_pos hm hn10
    have h4 : m * y ≤ 1 * y := by omega
    have := Nat.le_of_mul_le_mul_right h4 hy0
    omega
  have hxy : Nat.gcd x y = 1 := by
    apply hA1 _ (Nat.dvd_trans (Nat.gcd_dvd_left x y) x1)
    exact Nat.Coprime.coprime_dvd_left (Nat.gcd_dvd_right x y) y2
  refine ⟨x, y, ⟨by omega, by omega⟩, ⟨by omega, by omega⟩, hxy, ?_⟩
  generalize hk : Int.gcd (A * x * x + B * x * y + C * y * y) n = k
  have k1 : (k : Int) ∣ A * x * x + B * x * y + C * y * y := hk ▸ Int.gcd_dvd_left _ _
  have k2 : k ∣ n.natAbs := by
    have h : (k : Int) ∣ n := hk ▸ Int.gcd_dvd_right _ _
    exact Int.ofNat_dvd_left.1 h
  have cpr : ∀ (m p : Nat) (Z : Int), Nat.gcd m p = 1 → (m : Int) ∣ Z * p → (m : Int) ∣ Z := by
    intro m p Z h1 h2
    rw [Int.ofNat_dvd_left] at h2 ⊢
    rw [Int.natAbs_mul] at h2
    exact Nat.Coprime.dvd_of_dvd_mul_right h1 h2
  have one : ∀ m : Nat, (m : Int) ∣ 1 → m = 1 := fun m h => Nat.dvd_one.1 (Int.ofNat_dvd.1 h)
  have aone : ∀ (m : Nat) (Z : Int), Nat.gcd m Z.natAbs = 1 → (m : Int) ∣ Z → m = 1 := by
    intro m Z h1 h2
    rw [Int.ofNat_dvd_left] at h2
    have := Nat.gcd_eq_left h2
    omega
  -- coprime to y
  have ky : Nat.gcd k y = 1 := by
    have h1 : ((Nat.gcd k y : Nat) : Int) ∣ A * x * x + B * x * y + C * y * y := Int.dvd_trans (Int.ofNat_dvd.2 (Nat.gcd_dvd_left k y)) k1
    have h2 : ((Nat.gcd k y : Nat) : Int) ∣ (y : Int) := Int.ofNat_dvd.2 (Nat.gcd_dvd_right k y)
    have h3 : Nat.gcd (Nat.gcd k y) x = 1 := Nat.Coprime.coprime_dvd_left (Nat.gcd_dvd_right k y) (by rw [Nat.Coprime, Nat.gcd_comm]; exact hxy)
    have h4 : Nat.gcd (Nat.gcd k y) A.natAbs = 1 := Nat.Coprime.coprime_dvd_left (Nat.gcd_dvd_right k y) y2
    generalize Nat.gcd k y = m at *
    obtain ⟨u, hu⟩ := h1
    obtain ⟨v, hv⟩ := h2
    have h5 : (m : Int) ∣ A * x * x := ⟨u - B * x * v - C * y * v, by rw [Int.mul_sub, Int.mul_sub, ← hu]; grind⟩
    exact aone m A h4 (cpr m x A h3 (cpr m x (A * x) h3 h5))
  have kx : Nat.gcd k x = 1 := by
    have h1 : ((Nat.gcd k x : Nat) : Int) ∣ A * x * x + B * x * y + C * y * y := Int.dvd_trans (Int.ofNat_dvd.2 (Nat.gcd_dvd_left k x)) k1
    have h2 : ((Nat.gcd k x : Nat) : Int) ∣ (x : Int) := Int.ofNat_dvd.2 (Nat.gcd_dvd_right k x)
    have h3 : Nat.gcd (Nat.gcd k x) y = 1 := Nat.Coprime.coprime_dvd_left (Nat.gcd_dvd_right k x) hxy
    have h4 : Nat.gcd (Nat.gcd k x) C.natAbs = 1 := Nat.Coprime.coprime_dvd_left (Nat.gcd_dvd_right k x) x2
    generalize Nat.gcd k x = m at *
    obtain ⟨u, hu⟩ := h1
    obtain ⟨v, hv⟩ := h2
    have h5 : (m : Int) ∣ C * y * y := ⟨u - A * x * v - B * y * v, by rw [Int.mul_sub, Int.mul_sub, ← hu]; grind⟩
    exact aone m C h4 (cpr m y C h3 (cpr m y (C * y) h3 h5))
  have kn1 : k ∣ n1 := by
    rw [hn1] at k2
    exact Nat.Coprime.dvd_of_dvd_mul_left (show Nat.Coprime k y from ky) k2
  -- a divisor of k that is coprime to A or to C is 1
  have kA : ∀ m, m ∣ k → Nat.gcd m A.natAbs = 1 → m = 1 := fun m hm h => hA1 m (Nat.dvd_trans hm kn1) h
  have kC : ∀ m, m ∣ k → Nat.gcd m C.natAbs = 1 → m = 1 := by
    intro m hm h
    have h1 := x3 m (Nat.dvd_trans hm kn1) h
    have h2 : m ∣ Nat.gcd k x := Nat.dvd_gcd hm h1
    rw [kx] at h2
    exact Nat.dvd_one.1 h2
  have h2 : Nat.gcd (Nat.gcd k A.natAbs) C.natAbs = 1 := by
    have d1 := Nat.gcd_dvd_left (Nat.gcd k A.natAbs) C.natAbs
    have d2 := Nat.gcd_dvd_right (Nat.gcd k A.natAbs) C.natAbs
    have d3 := Nat.dvd_trans d1 (Nat.gcd_dvd_left k A.natAbs)
    have d4 := Nat.dvd_trans d1 (Nat.gcd_dvd_right k A.natAbs)
    generalize Nat.gcd (Nat.gcd k A.natAbs) C.natAbs = m at *
    have e1 : (m : Int) ∣ A := Int.ofNat_dvd_left.2 d4
    have e2 : (m : Int) ∣ C := Int.ofNat_dvd_left.2 d2
    have e3 : (m : Int) ∣ A * x * x + B * x * y + C * y * y := Int.dvd_trans (Int.ofNat_dvd.2 d3) k1
    have e4 : (m : Int) ∣ B * x * y := by
      obtain ⟨u, hu⟩ := e1; obtain ⟨v, hv⟩ := e2; obtain ⟨t, ht⟩ := e3
      exact ⟨t - u * x * x - v * y * y, by rw [Int.mul_sub, Int.mul_sub, ← ht, hu, hv]; grind⟩
    have e5 := cpr m x B (Nat.Coprime.coprime_dvd_left d3 kx) (cpr m y (B * x) (Nat.Coprime.coprime_dvd_left d3 ky) e4)
    have e6 : (m : Int) ∣ (Int.gcd A (Int.gcd B C) : Int) := Int.dvd_coe_gcd e1 (Int.dvd_coe_gcd e5 e2)
    rw [hp] at e6
    exact one m e6
  exact kA k (Nat.dvd_refl k) (kC _ (Nat.gcd_dvd_left k A.natAbs) h2)

/-- No good point lies before (x, y), in the order of the greater coordinate, then of x, then of y. -/
def NoB (G : Int → Int → Prop) (i x y : Int) : Prop := ∀ x' y' : Int, 0 ≤ x' → 0 ≤ y' → (max x' y' < i ∨ (max x' y' = i ∧ (x' < x ∨ (x' = x ∧ y' < y)))) → ¬ G x' y'
/-- The first good point. -/
def MinPt (G : Int → Int → Prop) (x y : Int) : Prop := 0 ≤ x ∧ 0 ≤ y ∧ G x y ∧ NoB G (max x y) x y
theorem NoB.zero (G : Int → Int → Prop) : NoB G 0 0 0 := by intro x' y' h1 h2 h3; omega
theorem NoB.one {G : Int → Int → Prop} (h0 : ¬ G 0 0) : NoB G 1 0 0 := by
  intro x' y' h1 h2 h3
  have e1 : x' = 0 := by omega
  have e2 : y' = 0 := by omega
  rw [e1, e2]; exact h0
theorem NoB.y {G : Int → Int → Prop} {i x y : Int} (h : NoB G i x y) (hn : max x y = i → ¬ G x y) : NoB G i x (y + 1) := by
  intro x' y' h1 h2 h3
  by_cases he : x' = x ∧ y' = y ∧ max x y = i
  · obtain ⟨rfl, rfl, h4⟩ := he; exact hn h4
  · exact h x' y' h1 h2 (by omega)
theorem NoB.x {G : Int → Int → Prop} {i x y : Int} (h : NoB G i x y) (hy : i < y) : NoB G i (x + 1) 0 := by
  intro x' y' h1 h2 h3
  exact h x' y' h1 h2 (by omega)
theorem NoB.i {G : Int → Int → Prop} {i x : Int} (h : NoB G i x 0) (hx : i < x) : NoB G (i + 1) 0 0 := by
  intro x' y' h1 h2 h3
  exact h x' y' h1 h2 (by omega)
theorem NoB.le {G : Int → Int → Prop} {i x y X Y : Int} (h : NoB G i x y) (hX : 0 ≤ X) (hY : 0 ≤ Y) (hg : G X Y) : i ≤ max X Y ∧ (max X Y = i → x ≤ X) := by
  have : ¬ (max X Y < i ∨ (max X Y = i ∧ (X < x ∨ (X = x ∧ Y < y)))) := fun h3 => h X Y hX hY h3 hg
  constructor
  · omega
  · intro h4; omega
theorem MinPt.uniq {G : Int → Int → Prop} {x y x' y' : Int} (h : MinPt G x y) (h' : MinPt G x' y') : x = x' ∧ y = y' := by
  obtain ⟨h1, h2, h3, h4⟩ := h
  obtain ⟨k1, k2, k3, k4⟩ := h'
  have a : ¬ (max x' y' < max x y ∨ (max x' y' = max x y ∧ (x' < x ∨ (x' = x ∧ y' < y)))) := fun h5 => h4 x' y' k1 k2 h5 k3
  have b : ¬ (max x y < max x' y' ∨ (max x y = max x' y' ∧ (x < x' ∨ (x = x' ∧ y < y')))) := fun h5 => k4 x y h1 h2 h5 h3
  omega
end Go.Proofs.Ytifkmjmhhklkjaa
