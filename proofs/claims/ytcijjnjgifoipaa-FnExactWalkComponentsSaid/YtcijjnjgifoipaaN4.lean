/- Contracts: the Jacobi symbol, by the reference: the loop. -/
import Derived.Test.YtcijjnjgifoipaaN3
namespace Go.Proofs.Ytcijjnjgifoipaa
open Go.RowKit

/-- How many steps are to come. -/
def muJ (t b : Int) : Nat := if 0 ≤ t ∧ t < b then (2 * t).toNat else (2 * b - 1).toNat
theorem muJ_red {t b : Int} (hb : 0 < b) (h : ¬ (0 ≤ t ∧ t < b)) : muJ (t % b) b < muJ t b := by
  have h1 := Int.emod_nonneg t (show b ≠ 0 by omega)
  have h2 := Int.emod_lt_of_pos t hb
  unfold muJ; rw [if_neg h, if_pos ⟨h1, h2⟩]; omega
theorem muJ_even {t b : Int} (h0 : 0 < t) (h1 : t < b) : muJ (t / 2) b < muJ t b := by
  unfold muJ; rw [if_pos (show 0 ≤ t / 2 ∧ t / 2 < b by omega), if_pos (show 0 ≤ t ∧ t < b by omega)]; omega
theorem muJ_odd {t b : Int} (h0 : 0 < t) (h1 : t < b) : muJ b t < muJ t b := by
  unfold muJ; rw [if_neg (show ¬ (0 ≤ b ∧ b < t) by omega), if_pos (show 0 ≤ t ∧ t < b by omega)]; omega
end Go.Proofs.Ytcijjnjgifoipaa
