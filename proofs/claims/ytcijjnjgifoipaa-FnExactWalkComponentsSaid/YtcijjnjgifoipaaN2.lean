/- Contracts: the symbol of two, the Jacobi symbol, by the program. -/
import Derived.Test.YtcijjnjgifoipaaCA
import Derived.Test.YtcijjnjgifoipaaN1
namespace Go.Proofs.Ytcijjnjgifoipaa
open Go.RowKit

theorem sg_mul {s t : Int} (hs : s = 1 ∨ s = -1) (ht : t = 1 ∨ t = -1) : s * t = 1 ∨ s * t = -1 := by
  rcases hs with rfl | rfl <;> rcases ht with rfl | rfl <;> simp
/-- The state of the outer loop. -/
def JacSt (R : Int) (va vn vs : Value) : Prop := ∃ a n s : Int, va = .int .i64 a ∧ vn = .int .i64 n ∧ vs = .int .i64 s ∧ 0 ≤ a ∧ a < n ∧ n ≤ 1000000000000000 ∧ n % 2 = 1 ∧ (-1 ≤ s ∧ s ≤ 1) ∧ Hid ((s = 1 ∨ s = -1) ∧ s * jacS a n = R)
def JacIn (R n a0 : Int) (va vs : Value) : Prop := ∃ a s : Int, va = .int .i64 a ∧ vs = .int .i64 s ∧ 0 < a ∧ a ≤ a0 ∧ (-1 ≤ s ∧ s ≤ 1) ∧ Hid ((s = 1 ∨ s = -1) ∧ s * jacS a n = R)

set_option maxHeartbeats 400000 in
theorem l1In_any (k a b : Int) (w : World) : Calls Try.prog 36 #[.int .i64 k, .int .i64 a, .int .i64 b] w fun e w' => e = .returned (.bool (decide (a ≤ k) && decide (k ≤ b))) ∧ w = w' := by
  by_cases h : a ≤ k
  · go_enter Try.func36, Try.ntmps36
    go_wp2
    go_ret
    exact ⟨ret_bool (by first | (simp; done) | (simp; omega) | (rw [Bool.eq_iff_iff]; simp; omega) | (simp_all; done) | (simp_all; omega)), rfl⟩
  · go_enter Try.func36, Try.ntmps36
    go_wp2
    go_ret
    exact ⟨ret_bool (by first | (simp; done) | (simp; omega) | (rw [Bool.eq_iff_iff]; simp; omega) | (simp_all; done) | (simp_all; omega)), rfl⟩
end Go.Proofs.Ytcijjnjgifoipaa
