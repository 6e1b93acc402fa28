/- Contracts: the square-free part, the fundamental part, the Kronecker symbol, the factor of the conductor, the class number by the conductor, of the program. -/
import Derived.Test.YtkkamlhpappebaaCD
import Derived.Test.YtkkamlhpappebaaK7
import Derived.Test.YtkkamlhpappebaaN7
import Derived.BigQuiet
import Derived.Deep.LoopGhost
namespace Go.Proofs.Ytkkamlhpappebaa
open Go.RowKit

/-- The loops of the square-free part end, all numbers small. -/
def sqfT : Nat → Bool → Int → Int → Int → Bool
  | 0, _, _, _, _ => false
  | m + 1, false, p, n, k => (decide (2 ≤ p) && decide (p ≤ 60) && decide (-2000 ≤ n) && decide (n ≤ -1) && decide (1 ≤ k) && decide (k ≤ 60)) && (if p * p ≤ (n.natAbs : Int) then sqfT m true p n k else true)
  | m + 1, true, p, n, k => (decide (2 ≤ p) && decide (p ≤ 60) && decide (-2000 ≤ n) && decide (n ≤ -1) && decide (1 ≤ k) && decide (k ≤ 60)) && (if n.tmod (p * p) = 0 then sqfT m true p (n.tdiv (p * p)) (k * p) else sqfT m false (p + 1) n k)
/-- The loop of the Kronecker symbol ends. -/
def kroT : Nat → Int → Int → Bool
  | 0, _, _ => false
  | m + 1, a, n => (decide (1 ≤ n) && decide (n ≤ 2000)) && (if n % 2 = 0 then (if a % 2 = 0 then true else kroT m a (n / 2)) else decide (-1 ≤ jacS (a % n) n) && decide (jacS (a % n) n ≤ 1))
/-- The products on the way to the factor of the conductor. -/
def cfT (e : Int) : Int → List Int → Bool
  | _, [] => true
  | out, p :: P => (decide (2 ≤ p) && decide (p ≤ 60) && decide (0 ≤ out) && decide (out ≤ 100000) && kroT 40 e p && decide (-1 ≤ kroN e p) && decide (kroN e p ≤ 1)) && cfT e (out / p * (p - kroN e p)) P
def ceOk (m : Nat) : Bool :=
  !isDisc (-(m : Int)) || (sqfT 4100 false 2 (-(m : Int)) 1 && (decide (-2000 ≤ (sqF (-(m : Int))).1) && (decide ((sqF (-(m : Int))).1 ≤ -1) && (decide (0 ≤ (sqF (-(m : Int))).2) && (decide ((sqF (-(m : Int))).2 ≤ 60) &&
    (cfT (dsp (-(m : Int))).1 (dsp (-(m : Int))).2 (prims (dsp (-(m : Int))).2) && (decide (0 ≤ cfac (dsp (-(m : Int))).1 (dsp (-(m : Int))).2) && decide (cfac (dsp (-(m : Int))).1 (dsp (-(m : Int))).2 ≤ 100000))))))))
theorem ce_0 : ((List.range' 0 1000).all ceOk) = true := by decide +kernel
theorem ce_1 : ((List.range' 1000 1001).all ceOk) = true := by decide +kernel
structure CeP (d : Int) : Prop where
  sq : sqfT 4100 false 2 d 1 = true
  s1 : -2000 ≤ (sqF d).1
  s2 : (sqF d).1 ≤ -1
  k1 : 0 ≤ (sqF d).2
  k2 : (sqF d).2 ≤ 60
  cf : cfT (dsp d).1 (dsp d).2 (prims (dsp d).2) = true
  c1 : 0 ≤ cfac (dsp d).1 (dsp d).2
  c2 : cfac (dsp d).1 (dsp d).2 ≤ 100000
theorem ce_all {d : Int} (h : isDisc d = true) : CeP d := by
  have h1 : -2000 ≤ d ∧ d ≤ -3 := by
    unfold isDisc at h
    simp only [Bool.and_eq_true, decide_eq_true_eq] at h
    omega
  have h2 : ceOk (-d).toNat = true := by
    rcases Nat.lt_or_ge (-d).toNat 1000 with h3 | h3
    · exact List.all_eq_true.1 ce_0 _ (by rw [List.mem_range'_1]; omega)
    · exact List.all_eq_true.1 ce_1 _ (by rw [List.mem_range'_1]; omega)
  unfold ceOk at h2
  rw [show -(((-d).toNat : Nat) : Int) = d by omega] at h2
  simp only [Bool.and_eq_true, Bool.or_eq_true, decide_eq_true_eq, Bool.not_eq_true', h, Bool.true_eq_false, false_or] at h2
  obtain ⟨a1, a2, a3, a4, a5, a6, a7, a8⟩ := h2
  exact ⟨a1, a2, a3, a4, a5, a6, a7, a8⟩
end Go.Proofs.Ytkkamlhpappebaa
