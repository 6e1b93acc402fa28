/- Plain facts: factors, primes, the Jacobi symbol, characters. No program in sight. -/
import Derived.Test.YtlcegkafagdcjaaGreatDoorMM
namespace Go.Proofs.YtlcegkafagdcjaaGreatDoor

/-- No divisor of n is less than p, but 1. -/
def NoDiv (p n : Int) : Prop := ∀ q : Int, 2 ≤ q → q < p → ¬ q ∣ n
theorem NoDiv.next {p n : Int} (h : NoDiv p n) (hq : ¬ n % p = 0) : NoDiv (p + 1) n := by
  intro r h1 h2 h3
  by_cases e : r = p
  · subst e; exact hq (Int.emod_eq_zero_of_dvd h3)
  · exact h r h1 (by omega) h3
/-- One element more at the end: it is taken unless it is the last one. -/
def addD (L : List Int) (x : Int) : List Int := if L.getLast? = some x then L else L ++ [x]
def dd (L : List Int) : List Int := L.foldl addD []

/-- The symbol of two. -/
def two (n : Int) : Int := if n % 8 = 1 ∨ n % 8 = 7 then 1 else -1
end Go.Proofs.YtlcegkafagdcjaaGreatDoor
