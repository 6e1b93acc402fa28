/- Parts N2 N3 N4 laid together by tp.py. -/
import Derived.Test.YtblcmkhkbgikoaaGreatCA
import Derived.Test.YtblcmkhkbgikoaaGreatN1
import Derived.Deep.LoopGhost
namespace Go.Proofs.YtblcmkhkbgikoaaGreat
section
open Go.RowKit

theorem sg_mul {s t : Int} (hs : s = 1 ∨ s = -1) (ht : t = 1 ∨ t = -1) : s * t = 1 ∨ s * t = -1 := by
  rcases hs with rfl | rfl <;> rcases ht with rfl | rfl <;> simp
/-- The state of the outer loop. -/
def JacSt (R : Int) (va vn vs : Value) : Prop := ∃ a n s : Int, va = .int .i64 a ∧ vn = .int .i64 n ∧ vs = .int .i64 s ∧ 0 ≤ a ∧ a < n ∧ n ≤ 1000000000000000 ∧ n % 2 = 1 ∧ (-1 ≤ s ∧ s ≤ 1) ∧ Hid ((s = 1 ∨ s = -1) ∧ s * jacS a n = R)
def JacIn (R n a0 : Int) (va vs : Value) : Prop := ∃ a s : Int, va = .int .i64 a ∧ vs = .int .i64 s ∧ 0 < a ∧ a ≤ a0 ∧ (-1 ≤ s ∧ s ≤ 1) ∧ Hid ((s = 1 ∨ s = -1) ∧ s * jacS a n = R)

set_option maxHeartbeats 400000 in
theorem l1In_any (k a b : Int) (w : World) : Calls Tryz.prog 22 #[.int .i64 k, .int .i64 a, .int .i64 b] w fun e w' => e = .returned (.bool (decide (a ≤ k) && decide (k ≤ b))) ∧ w = w' := by
  by_cases h : a ≤ k
  · go_enter Tryz.func22, Tryz.ntmps22
    go_wp2
    go_ret
    exact ⟨ret_bool (by first | (simp; done) | (simp; omega) | (rw [Bool.eq_iff_iff]; simp; omega) | (simp_all; done) | (simp_all; omega)), rfl⟩
  · go_enter Tryz.func22, Tryz.ntmps22
    go_wp2
    go_ret
    exact ⟨ret_bool (by first | (simp; done) | (simp; omega) | (rw [Bool.eq_iff_iff]; simp; omega) | (simp_all; done) | (simp_all; omega)), rfl⟩
end

section
open Go.RowKit

end

section
open Go.RowKit

/-- How many steps are to come. -/
def muJ (t b : Int) : Nat := if 0 ≤ t ∧ t < b then (2 * t).toNat else (2 * b - 1).toNat
theorem muJ_red {t b : Int} (hb : 0 < b) (h : ¬ (0 ≤ t ∧ t < b)) : muJ (t % b) b < muJ t b := by
  have h1 := Int.emod_nonneg t (show b ≠ 0 by omega)
  have h2 := Int.emod_lt_of_pos t hb
  unfold muJ; rw [if_neg h, if_pos ⟨h1, h2⟩]; omega
theorem muJ_even {t b : Int} (h0 : 0 < t) (h1 : t < b) : muJ (t / 2) b < muJ t b := by
  unfold muJ; rw [if_pos (show 0 ≤ t / 2 ∧ t / 2 < b by omega), if_pos (show 0 ≤ t ∧ t < b by omega)]; omega
theorem muJ_odd {t b : Int} (h0 : 0 < t) (h1 : t < b) : muJ b t < muJ t b := by
  unfold muJ; rw [if_neg (show ¬ (0 ≤ b ∧ b < t) by omega), if_pos (show 0 ≤ t ∧ t < b by omega)]; omega
end
end Go.Proofs.YtblcmkhkbgikoaaGreat
