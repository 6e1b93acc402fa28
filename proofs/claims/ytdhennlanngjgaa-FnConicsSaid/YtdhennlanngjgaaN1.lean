/- Plain facts: factors, primes, the Jacobi symbol, characters. No program in sight. -/
import Derived.Test.YtdhennlanngjgaaMM
namespace Go.Proofs.Ytdhennlanngjgaa

/-- The prime factors, as the program finds them: 'b' says that the inner loop is at its head. -/
def fac : Nat → Bool → Int → Int → List Int
  | 0, _, _, _ => []
  | k + 1, false, p, n => if p * p ≤ n then fac k true p n else if 1 < n then [n] else []
  | k + 1, true, p, n => if n % p = 0 then p :: fac k true p (n / p) else fac k false (p + 1) n
theorem fac_len : ∀ (k : Nat) (b : Bool) (p n : Int), (fac k b p n).length ≤ k
  | 0, _, _, _ => by simp [fac]
  | k + 1, false, p, n => by
    unfold fac
    split
    · exact Nat.le_succ_of_le (fac_len k _ _ _)
    · split <;> simp
  | k + 1, true, p, n => by
    unfold fac
    split
    · simp; exact fac_len k _ _ _
    · exact Nat.le_succ_of_le (fac_len k _ _ _)
/-- All are at least p (at the outer head: if n is not 1), and they ascend. -/
def Asc : List Int → Prop
  | [] => True
  | x :: L => (∀ y ∈ L, x ≤ y) ∧ Asc L
/-- No divisor of n is less than p, but 1. -/
def NoDiv (p n : Int) : Prop := ∀ q : Int, 2 ≤ q → q < p → ¬ q ∣ n
theorem NoDiv.div {p n q : Int} (h : NoDiv p n) (hq : n % q = 0) : NoDiv p (n / q) := by
  intro r h1 h2 h3
  have e := Int.emod_add_mul_ediv n q
  rw [hq] at e
  exact h r h1 h2 (by rw [← e, Int.zero_add]; exact Int.dvd_trans h3 (Int.dvd_mul_left _ _))
theorem NoDiv.next {p n : Int} (h : NoDiv p n) (hq : ¬ n % p = 0) : NoDiv (p + 1) n := by
  intro r h1 h2 h3
  by_cases e : r = p
  · subst e; exact hq (Int.emod_eq_zero_of_dvd h3)
  · exact h r h1 (by omega) h3
theorem fac_ge : ∀ (k : Nat) (b : Bool) (p n : Int), 2 ≤ p → 1 ≤ n → NoDiv p n → (∀ y ∈ fac k b p n, p ≤ y) ∧ Asc (fac k b p n)
  | 0, _, _, _, _, _, _ => by simp [fac, Asc]
  | k + 1, false, p, n, hp, hn, hd => by
    unfold fac
    split
    · exact fac_ge k true p n hp hn hd
    · split
      · rename_i h1 h2
        refine ⟨?_, ?_⟩
        · intro y hy
          simp at hy
          subst hy
          apply Int.not_lt.1; intro hl
          exact hd _ (by omega) hl (Int.dvd_refl _)
        · simp [Asc]
      · simp [Asc]
  | k + 1, true, p, n, hp, hn, hd => by
    unfold fac
    split
    · rename_i h
      have e := Int.emod_add_mul_ediv n p
      rw [h] at e
      have hq : 1 ≤ n / p := by
        apply Int.not_lt.1; intro hl
        have : p * (n / p) ≤ p * 0 := Int.mul_le_mul_of_nonneg_left (by omega) (by omega)
        omega
      obtain ⟨i1, i2⟩ := fac_ge k true p (n / p) hp hq (hd.div h)
      refine ⟨?_, i1, i2⟩
      intro y hy
      simp at hy
      rcases hy with rfl | hy
      · exact Int.le_refl _
      · exact i1 y hy
    · rename_i h
      obtain ⟨i1, i2⟩ := fac_ge k false (p + 1) n (by omega) hn (hd.next h)
      exact ⟨fun y hy => by have := i1 y hy; omega, i2⟩

/-- One element more at the end: it is taken unless it is the last one. -/
def addD (L : List Int) (x : Int) : List Int := if L.getLast? = some x then L else L ++ [x]
def dd (L : List Int) : List Int := L.foldl addD []

/-- The symbol of two. -/
def two (n : Int) : Int := if n % 8 = 1 ∨ n % 8 = 7 then 1 else -1
/-- The Jacobi symbol of a reduced a. -/
def jac : Nat → Int → Int → Int
  | 0, _, _ => 0
  | k + 1, a, n => if a = 0 then (if n = 1 then 1 else 0) else if a % 2 = 0 then two n * jac k (a / 2) n else (if a % 4 = 3 ∧ n % 4 = 3 then -1 else 1) * jac k (n % a) a
theorem jac_fuel : ∀ (k l : Nat) (a n : Int), 0 ≤ a → a < k → a < l → jac k a n = jac l a n
  | 0, _, a, _, h0, h1, _ => by omega
  | _ + 1, 0, a, _, h0, _, h2 => by omega
  | k + 1, l + 1, a, n, h0, h1, h2 => by
    unfold jac
    split
    · rfl
    · split
      · rw [jac_fuel k l (a / 2) n (by omega) (by omega) (by omega)]
      · have m1 := Int.emod_nonneg n (show a ≠ 0 by assumption)
        have m2 := Int.emod_lt_of_pos n (show 0 < a by omega)
        rw [jac_fuel k l (n % a) a m1 (by omega) (by omega)]
def jacS (a n : Int) : Int := jac (a.toNat + 1) a n
theorem jacS_zero (n : Int) : jacS 0 n = if n = 1 then 1 else 0 := by simp [jacS, jac]
theorem jacS_even {a n : Int} (h0 : 0 < a) (h : a % 2 = 0) : jacS a n = two n * jacS (a / 2) n := by
  unfold jacS
  rw [show a.toNat + 1 = (a.toNat) + 1 from rfl]
  conv => lhs; unfold jac
  rw [if_neg (by omega), if_pos h, jac_fuel a.toNat ((a / 2).toNat + 1) (a / 2) n (by omega) (by omega) (by omega)]
theorem jacS_odd {a n : Int} (h0 : 0 < a) (h : ¬ a % 2 = 0) : jacS a n = (if a % 4 = 3 ∧ n % 4 = 3 then -1 else 1) * jacS (n % a) a := by
  have m1 := Int.emod_nonneg n (show a ≠ 0 by omega)
  have m2 := Int.emod_lt_of_pos n h0
  unfold jacS
  conv => lhs; unfold jac
  rw [if_neg (by omega), if_neg h, jac_fuel a.toNat ((n % a).toNat + 1) (n % a) a m1 (by omega) (by omega)]
theorem two_sg (n : Int) : two n = 1 ∨ two n = -1 := by unfold two; split <;> simp
theorem jacS_one (n : Int) : jacS 1 n = 1 := by
  rw [jacS_odd (by omega) (by omega)]
  simp [jacS_zero]
theorem jac_bd : ∀ (k : Nat) (a n : Int), jac k a n = 0 ∨ jac k a n = 1 ∨ jac k a n = -1
  | 0, _, _ => by simp [jac]
  | k + 1, a, n => by
    unfold jac
    split
    · split <;> simp
    · split
      · rcases two_sg n with h | h <;> rw [h] <;> rcases jac_bd k (a / 2) n with g | g | g <;> rw [g] <;> simp
      · split <;> rcases jac_bd k (n % a) a with g | g | g <;> rw [g] <;> simp
end Go.Proofs.Ytdhennlanngjgaa
