/- Contracts: primes and the forms of primes. -/
import Derived.Test.YtkpiiicefmkhcaaUB
import Derived.Test.YtkpiiicefmkhcaaGG
import Derived.Test.YtkpiiicefmkhcaaNA
namespace Go.Proofs.Ytkpiiicefmkhcaa
open Go.RowKit

/-- No p or greater divides n, as far as the loop looks. -/
def prmT : Nat → Int → Int → Bool
  | 0, _, _ => true
  | k + 1, p, n => if p * p ≤ n then (if n % p = 0 then false else prmT k (p + 1) n) else true
def prmB (n : Int) : Bool := decide (2 ≤ n) && prmT 200 2 n
theorem prmT_end {k : Nat} {p n : Int} (h : ¬ p * p ≤ n) : prmT k p n = true := by
  cases k with
  | zero => rfl
  | succ k => rw [prmT, if_neg h]
theorem prmT_no {k : Nat} {p n : Int} (hk : 0 < k) (h : p * p ≤ n) (h2 : n % p = 0) : prmT k p n = false := by
  obtain ⟨j, rfl⟩ : ∃ j, k = j + 1 := ⟨k - 1, by omega⟩
  rw [prmT, if_pos h, if_pos h2]
theorem prmT_yes {k : Nat} {p n : Int} (hk : 0 < k) (h : p * p ≤ n) (h2 : ¬ n % p = 0) : prmT k p n = prmT (k - 1) (p + 1) n := by
  obtain ⟨j, rfl⟩ : ∃ j, k = j + 1 := ⟨k - 1, by omega⟩
  rw [prmT, if_pos h, if_neg h2]
  rfl
def PaPr (n : Int) (R : Bool) (vp : Value) : Prop := ∃ (k : Nat) (p : Int), vp = .int .i64 p ∧ (2 ≤ p ∧ p ≤ 102) ∧ Hid (prmT k p n = R) ∧ Hid (150 - p < k)
theorem pr_sq_bd {p n : Int} (h0 : 0 ≤ p) (h : p * p ≤ n) (hn : n ≤ 10000) : p ≤ 100 := by
  apply Int.not_lt.1; intro hl
  have := Int.mul_le_mul (show (101 : Int) ≤ p by omega) (show (101 : Int) ≤ p by omega) (by omega) (by omega)
  omega

/-- A prime in range. -/
def shB (p : Int) : Bool := decide (p ≤ 10000) && prmB p
theorem shB_lo {p : Int} (h : shB p = true) : 2 ≤ p ∧ p ≤ 10000 := by
  unfold shB prmB at h
  simp only [Bool.and_eq_true, decide_eq_true_eq] at h
  exact ⟨h.2.1, h.1⟩

/-- The first form of p, from b on. -/
def pfF : Nat → Int → Int → Int → Option Fm
  | 0, _, _, _ => none
  | k + 1, d, p, b => if b ≤ p then (if (b * b - d) % (4 * p) = 0 then some ⟨p, b, (b * b - d) / (4 * p)⟩ else pfF k d p (b + 1)) else none
def pf (d p : Int) : Option Fm := pfF (p.toNat + 5) d p 0
def pfV (o : Option Fm) : Fm := o.getD ⟨0, 0, 0⟩
def pfO : Option Fm → Bool
  | none => false
  | some f => primB f
theorem pfF_end {k : Nat} {d p b : Int} (h : ¬ b ≤ p) : pfF k d p b = none := by
  cases k with
  | zero => rfl
  | succ k => rw [pfF, if_neg h]
theorem pfF_yes {k : Nat} {d p b : Int} (hk : 0 < k) (h : b ≤ p) (h2 : (b * b - d) % (4 * p) = 0) : pfF k d p b = some ⟨p, b, (b * b - d) / (4 * p)⟩ := by
  obtain ⟨j, rfl⟩ : ∃ j, k = j + 1 := ⟨k - 1, by omega⟩
  rw [pfF, if_pos h, if_pos h2]
theorem pfF_no {k : Nat} {d p b : Int} (hk : 0 < k) (h : b ≤ p) (h2 : ¬ (b * b - d) % (4 * p) = 0) : pfF k d p b = pfF (k - 1) d p (b + 1) := by
  obtain ⟨j, rfl⟩ : ∃ j, k = j + 1 := ⟨k - 1, by omega⟩
  rw [pfF, if_pos h, if_neg h2]
  rfl
theorem pfF_some : ∀ (k : Nat) (d p b : Int) (f : Fm), pfF k d p b = some f → 0 ≤ b → ∃ x, (0 ≤ x ∧ x ≤ p) ∧ (x * x - d) % (4 * p) = 0 ∧ f = ⟨p, x, (x * x - d) / (4 * p)⟩
  | 0, _, _, _, _, h, _ => by simp [pfF] at h
  | k + 1, d, p, b, f, h, hb => by
    unfold pfF at h
    split at h
    · rename_i h1
      split at h
      · rename_i h2
        injection h with h
        exact ⟨b, ⟨hb, h1⟩, h2, h.symm⟩
      · exact pfF_some k d p (b + 1) f h (by omega)
    · simp at h
def PfSt (d p : Int) (R : Option Fm) (vb : Value) : Prop := ∃ (k : Nat) (b : Int), vb = .int .i64 b ∧ (0 ≤ b ∧ b ≤ p + 1) ∧ Hid (pfF k d p b = R) ∧ Hid (p + 1 - b < k)
/-- What the loop meets at one place. -/
theorem pf_nums {d p b : Int} (D : Dsc d) (hp : 2 ≤ p ∧ p ≤ 10000) (hb : 0 ≤ b ∧ b ≤ p) : (0 ≤ b * b ∧ b * b ≤ 100000000) ∧ (1 ≤ b * b - d ∧ b * b - d ≤ 100002000) ∧ (0 ≤ (b * b - d) / (4 * p) ∧ (b * b - d) / (4 * p) ≤ 100002000) := by
  have h1 := D.lo; have h2 := D.hi
  obtain ⟨k1, k2⟩ := mul_bd (a := b) (x := b) (A := 10000) (X := 10000) (by omega) (by omega) (by omega) (by omega)
  have k3 : 0 ≤ b * b := Int.mul_nonneg hb.1 hb.1
  refine ⟨⟨k3, by omega⟩, ⟨by omega, by omega⟩, Int.ediv_nonneg (by omega) (by omega), ?_⟩
  exact Int.le_trans (Int.ediv_le_self _ (by omega)) (by omega)

end Go.Proofs.Ytkpiiicefmkhcaa
