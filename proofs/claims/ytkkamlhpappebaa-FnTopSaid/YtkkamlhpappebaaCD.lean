/- Plain facts: the square-free part, the Kronecker symbol, the factor of the conductor; the class number by the conductor, checked for each discriminant of the range. -/
import Derived.Test.YtkkamlhpappebaaNB
import Derived.Test.YtkkamlhpappebaaCA
import Derived.Test.YtkkamlhpappebaaGG
namespace Go.Proofs.Ytkkamlhpappebaa

/-- The square-free part and the root of the rest, as the loops find them: 'b' says that the inner loop is at its head. -/
def sqf : Nat → Bool → Int → Int → Int → Int × Int
  | 0, _, _, n, k => (n, k)
  | m + 1, false, p, n, k => if p * p ≤ (n.natAbs : Int) then sqf m true p n k else (n, k)
  | m + 1, true, p, n, k => if n.tmod (p * p) = 0 then sqf m true p (n.tdiv (p * p)) (k * p) else sqf m false (p + 1) n k
def sqF (n : Int) : Int × Int := sqf 4100 false 2 n 1
/-- The fundamental part and the conductor. -/
def dsp (d : Int) : Int × Int := if (sqF d).1 % 4 = 1 then sqF d else (4 * (sqF d).1, (sqF d).2 / 2)
/-- The Kronecker symbol for a positive n. -/
def kro : Nat → Int → Int → Int
  | 0, _, _ => 0
  | m + 1, a, n => if n % 2 = 0 then (if a % 2 = 0 then 0 else two a * kro m a (n / 2)) else jacS (a % n) n
def kroN (a n : Int) : Int := kro 40 a n
/-- The factor of the conductor. -/
def cfac (e k : Int) : Int := (prims k).foldl (fun out p => out / p * (p - kroN e p)) k
/-- How many automorphs the forms of a discriminant have. -/
def units (d : Int) : Int := if d = -3 then 6 else if d = -4 then 4 else 2
def cdOk (m : Nat) : Bool :=
  !isDisc (-(m : Int)) || (isDisc (dsp (-(m : Int))).1 && (decide (1 ≤ (dsp (-(m : Int))).2) && (decide ((dsp (-(m : Int))).2 ≤ 50) &&
    (decide (dsp (-(m : Int)) = (-(m : Int), 1)) || decide (((clsL (dsp (-(m : Int))).1).length : Int) * cfac (dsp (-(m : Int))).1 (dsp (-(m : Int))).2 * units (-(m : Int)) = ((clsL (-(m : Int))).length : Int) * units (dsp (-(m : Int))).1)))))
theorem cd_0 : ((List.range' 0 500).all cdOk) = true := by decide +kernel
theorem cd_1 : ((List.range' 500 500).all cdOk) = true := by decide +kernel
theorem cd_2 : ((List.range' 1000 500).all cdOk) = true := by decide +kernel
theorem cd_3 : ((List.range' 1500 501).all cdOk) = true := by decide +kernel
theorem cd_all {m : Nat} (h : m ≤ 2000) : cdOk m = true := by
  rcases Nat.lt_or_ge m 500 with h1 | h1
  · exact List.all_eq_true.1 cd_0 m (by rw [List.mem_range'_1]; omega)
  · rcases Nat.lt_or_ge m 1000 with h2 | h2
    · exact List.all_eq_true.1 cd_1 m (by rw [List.mem_range'_1]; omega)
    · rcases Nat.lt_or_ge m 1500 with h3 | h3
      · exact List.all_eq_true.1 cd_2 m (by rw [List.mem_range'_1]; omega)
      · exact List.all_eq_true.1 cd_3 m (by rw [List.mem_range'_1]; omega)
theorem units_pos (d : Int) : 2 ≤ units d ∧ units d ≤ 6 := by unfold units; split <;> (try split) <;> omega
theorem cfac_one (e : Int) : cfac e 1 = 1 := by unfold cfac; rw [show prims 1 = [] by decide +kernel]; rfl
/-- The class number by the conductor. -/
theorem cd_law {d : Int} (h : isDisc d = true) : isDisc (dsp d).1 = true ∧ 1 ≤ (dsp d).2 ∧ (dsp d).2 ≤ 50 ∧ ((clsL (dsp d).1).length : Int) * cfac (dsp d).1 (dsp d).2 * units d = ((clsL d).length : Int) * units (dsp d).1 := by
  have h1 : -2000 ≤ d ∧ d ≤ -3 := by
    unfold isDisc at h
    simp only [Bool.and_eq_true, decide_eq_true_eq] at h
    omega
  have h2 := cd_all (m := (-d).toNat) (by omega)
  unfold cdOk at h2
  rw [show -(((-d).toNat : Nat) : Int) = d by omega] at h2
  simp only [Bool.and_eq_true, Bool.or_eq_true, decide_eq_true_eq, Bool.not_eq_true', h, Bool.true_eq_false, false_or] at h2
  obtain ⟨a1, a2, a3, a4⟩ := h2
  refine ⟨a1, a2, a3, ?_⟩
  rcases a4 with e | e
  · rw [e]
    simp only [cfac_one, Int.mul_one]
  · exact e
end Go.Proofs.Ytkkamlhpappebaa
