/- Contracts of GenusWith, of the program and of the reference. -/
import Derived.Test.YtbecjnmifdbnjaaQX
import Derived.Test.YtbecjnmifdbnjaaK7
namespace Go.Proofs.Ytbecjnmifdbnjaa
open Go.RowKit

/-- What GenusWith gives. -/
def GwL (d : Int) (V : List Int) (L : List Fm) (ok : Bool) : Prop :=
  (isDisc d = false ∧ L = [] ∧ ok = false) ∨
  (isDisc d = true ∧ ¬ V.length = (chars (-d)).length ∧ L = [] ∧ ok = false) ∨
  (isDisc d = true ∧ V.length = (chars (-d)).length ∧ L = (clsL d).filter (gnP d V) ∧ ok = decide (0 < L.length))
theorem gwL_ex (d : Int) (V : List Int) : ∃ L ok, GwL d V L ok ∧ L.length ≤ 100000 := by
  cases hc : isDisc d with
  | false => exact ⟨_, _, .inl ⟨hc, rfl, rfl⟩, by simp⟩
  | true =>
    by_cases h : V.length = (chars (-d)).length
    · exact ⟨_, _, .inr (.inr ⟨hc, h, rfl, rfl⟩), Nat.le_trans (List.length_filter_le _ _) (Nat.le_trans (clsL_len _) (by decide))⟩
    · exact ⟨_, _, .inr (.inl ⟨hc, h, rfl, rfl⟩), by simp⟩

theorem absw_yes (a : Int) (w : World) (h : a = 1 ∨ a = -1) : Calls Try.prog 93 #[.int .i64 a] w fun e w' => e = .returned (.int .i64 1) ∧ w = w' := by
  have k := abs_any a w (by omega) (by omega)
  have e : (a.natAbs : Int) = 1 := by omega
  rwa [e] at k
set_option maxHeartbeats 400000 in
theorem absw_no (a : Int) (w : World) (h : ¬ (a = 1 ∨ a = -1)) (h1 : -9223372036854775808 ≤ a) (h2 : a ≤ 9223372036854775807) :
    Calls Try.prog 93 #[.int .i64 a] w fun e w' => (∃ t : Int, e = .returned (.int .i64 t) ∧ (t == 1) = false) ∧ w = w' := by
  by_cases hs : -9223372036854775807 ≤ a
  · by_cases hp : 0 ≤ a
    · go_enter Try.func93, Try.ntmps93
      go_wp2
      go_ret
      refine ⟨⟨a, ret_int (by omega), by first | omega | (rw [beq_eq_false_iff_ne]; omega)⟩, rfl⟩
    · go_enter Try.func93, Try.ntmps93
      go_wp2
      go_ret
      refine ⟨⟨-a, ret_int (by omega), by first | omega | (rw [beq_eq_false_iff_ne]; omega)⟩, rfl⟩
  · obtain rfl : a = -9223372036854775808 := by omega
    clear h h1 h2 hs
    go_enter Try.func93, Try.ntmps93
    go_wp2
    go_ret
    exact ⟨⟨9223372036854775807, rfl, by decide⟩, rfl⟩

def GwSt (n : Nat) (w : World) (vi : Value) (wr : World) : Prop :=
  ∃ k : Nat, vi = .int .i64 k ∧ k ≤ n ∧ Below w.heap.size w wr

end Go.Proofs.Ytbecjnmifdbnjaa
