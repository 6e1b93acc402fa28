/- The row of a basis while it is made. -/
import Derived.Test.YtkkamlhpappebaaGreatSW
import Derived.Test.YtkkamlhpappebaaGreatSN
import Derived.Test.YtkkamlhpappebaaGreatSQ
namespace Go.Proofs.YtkkamlhpappebaaGreat
open Go.RowKit

/-- The row after t steps, of s. -/
noncomputable def rQ (d : Int) (s t q : Nat) : Value := if q + t < s then .int .i64 0 else .int .i64 (((bsN d t).getD (q + t - s) 0 : Nat) : Int)
theorem rQ_next {d : Int} {s t i : Nat} (h : t < s) (e : bsN d (t + 1) = i :: bsN d t) (q : Nat) : (if q = s - 1 - t then Value.int .i64 (i : Int) else rQ d s t q) = rQ d s (t + 1) q := by
  unfold rQ
  rw [e]
  by_cases h1 : q = s - 1 - t
  · rw [if_pos h1, if_neg (by omega), show q + (t + 1) - s = 0 by omega]
    simp
  · rw [if_neg h1]
    by_cases h2 : q + t < s
    · rw [if_pos h2, if_pos (by omega)]
    · rw [if_neg h2, if_neg (by omega), show q + (t + 1) - s = (q + t - s) + 1 by omega, List.getD_cons_succ]
theorem rQ_zero {d : Int} {s q : Nat} (h : q < s) : rQ d s 0 q = .int .i64 0 := by unfold rQ; rw [if_pos (by omega)]
theorem rQ_full {d : Int} {s q : Nat} : rQ d s s q = .int .i64 (((bsN d s).getD q 0 : Nat) : Int) := by
  unfold rQ; rw [if_neg (by omega), show q + s - s = q by omega]
end Go.Proofs.YtkkamlhpappebaaGreat
